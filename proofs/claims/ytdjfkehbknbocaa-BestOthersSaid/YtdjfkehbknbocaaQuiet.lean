/- A region that draws its order, walked once in the order of the text, at the class 'whatever lay ahead of the region lies on' (a caller's callees may lay blocks of their own). -/
import Derived.Test.YtdjfkehbknbocaaLib
import Derived.Deep.QuietTactic
namespace Go.Proofs.Ytdjfkehbknbocaa
open Go.RowKit

structure Past (W0 : World) where
  w : World
  h : Below W0.heap.size W0 w
instance (W0 : World) : Nonempty (Past W0) := ⟨⟨W0, Below.refl _ _⟩⟩
/-- wpQuiet behind a structure: where it lies open Lean unfolds it at a step and does not come back. -/
structure QW (P : Program) (ops : Array Oper) (C : World → Prop) (Q : Act → Prop) (rest : List Oper) (a : Act) : Prop where
  out : wpQuiet P ops C Q rest a
theorem qw_step {P : Program} {ops : Array Oper} {C : World → Prop} {Q : Act → Prop} {a : Act} {o : Oper} {rest : List Oper}
    (h : ∀ K : Act → Prop, (∀ a, QW P ops C Q rest a → K a) → if Region.wanted o (yielded ops a.tmps) then o.quiet P a C K else K (a.put o.dst undef)) : QW P ops C Q (o :: rest) a :=
  ⟨wpQuiet_step (fun K hK => h K (fun a q => hK a q.out))⟩
theorem qw_nil {P : Program} {ops : Array Oper} {C : World → Prop} {Q : Act → Prop} {a : Act} (h : Q a) : QW P ops C Q [] a := ⟨wpQuiet_nil h⟩
theorem wp_region_quiet_past {P : Program} {id : Nat} {Q : Exit → Act → World → Prop} {a : Act} {w : World} {l : List Oper} (hm : P.follows .mixedOrders = true) (hB : Region.lexB .any l.toArray = true)
    (h : QW P l.toArray (fun w' => ∃ p : Past w, w' = p.w) (fun a' => ∀ w', (∃ p : Past w, w' = p.w) → Q .normal a' w') l a) : (Code.region id l.toArray true).wp P Q a w :=
  wp_region_quiet (C := fun w' => ∃ p : Past w, w' = p.w) hm hB ⟨⟨_, (Below.refl _ w).drew⟩, rfl⟩ (by simpa using h.out)
theorem calls_past_of {P : Program} {W0 : World} {f : FuncId} {args : Array Value} {p : Past W0} {v : Value}
    (h : Calls P f args p.w fun e w' => e = .returned v ∧ Below p.w.heap.size p.w w') : Calls P f args p.w fun e w'' => e = .returned v ∧ ∃ q : Past W0, w'' = q.w :=
  h.mono fun _ _ ⟨he, hb⟩ => ⟨he, ⟨_, below_tr p.h hb⟩, rfl⟩
theorem calls_past_of_same {P : Program} {W0 : World} {f : FuncId} {args : Array Value} {p : Past W0} {v : Value}
    (h : Calls P f args p.w fun e w' => e = .returned v ∧ p.w = w') : Calls P f args p.w fun e w'' => e = .returned v ∧ ∃ q : Past W0, w'' = q.w :=
  h.mono fun _ _ ⟨he, hb⟩ => ⟨he, p, hb.symm⟩
end Go.Proofs.Ytdjfkehbknbocaa

/- Without's contract; the walk of FaultFits. -/
import Derived.Test.YtdjfkehbknbocabFaultW
namespace Go.Proofs.Ytdjfkehbknbocab
open Go.RowKit Go.Shelf
set_option linter.unusedSimpArgs false
set_option linter.unusedVariables false

def WPost (kind : Int) (xs : List Ft) (w : World) (en : Ending) (w' : World) : Prop := ∃ A n c, en = .returned (.slice A n c) ∧ Sl eFt 4 w' A n (xs.filter (keepK kind)) ∧ Below w.heap.size w w'
set_option maxHeartbeats 2000000 in
theorem without_any (A : Option Addr) (n c : Nat) (xs : List Ft) (kind : Int) (w : World) (hn : n ≤ 100000) (hA : Sl eFt 4 w A n xs) :
    Calls Try.prog 15 #[.slice A n c, .int .i64 kind] w (WPost kind xs w) := by
  have hmf : ∀ (fn : Fn) (first cap : Array Value) (w : World), (Instr.makeFunc fn first cap).run Try.prog w = .ok (.func fn first cap) w := fun _ _ _ _ => rfl
  have hcl := fun W (hW : Below w.heap.size w W) => clone_any A n c xs W hn (hA.below hW)
  have HCL := Lib.hid hcl
  clear hcl
  clear hA
  go_enter Try.func15, Try.ntmps15
  go_wp2_with fail
  have hw0 : Below w.heap.size w (w.alloc (.cells #[.int .i64 kind] 3)) := by ((try change Below _ _ _); (repeat (any_goals (first | (with_reducible exact Below.refl _ _) | (with_reducible exact Below.refl _ _) | (with_reducible apply Below.drew) | (with_reducible apply below_drewN) | (with_reducible refine Below.alloc ?_ ?_ _) | (with_reducible refine Below.setCell ?_ ?_ _)))); all_goals (first | exact Nat.le_refl _ | (simp; done) | (simp; omega) | omega | (dsimp only; omega)))
  refine (HCL.out _ hw0).mono ?_
  rintro e w1 ⟨v, rfl, hown, hb1⟩
  obtain ⟨A1, c1, rfl⟩ := own_slice hown
  have hc0 : w1.cell? ⟨w.heap.size, 0, none⟩ = some (.int .i64 kind) := (((Blk.new w 3 #[.int .i64 kind]).below_ hb1).cell 0).trans rfl
  have hw1 := below_tr hw0 hb1
  have hd := delete_any A1 n c1 xs kind w.heap.size (w.heap.size + 1) w1 hn (own_mono hown (by rw [World.size_alloc]; exact Nat.le_refl _)) hc0 (Nat.lt_succ_self _) (by have := hb1.size; rw [World.size_alloc] at this; exact this)
  have HD := Lib.hid hd
  clear hd
  have HW1 := Lib.hid hw1
  clear hw1
  clear hown hc0 hb1 hw0
  go_wp2_with fail
  refine HD.out.mono ?_
  rintro e w2 ⟨A2, m, c2, rfl, hs, hb2⟩
  have hw2 : Below w.heap.size w w2 := HW1.out.trans (hb2.mono (Nat.le_succ _))
  have HS := Lib.hid hs
  clear hs
  have HW2 := Lib.hid hw2
  clear hw2
  clear hb2
  go_wp2
  go_ret
  exact ⟨A2, m, c2, rfl, HS.out, HW2.out⟩

theorem find_filter (kind : Int) (at_ op : Int) (xs : List Ft) (hk : kind ≠ 0) : ∃ (y0 y1 y2 y3 : Int) (b : Bool), met ((xs.filter (keepK kind)).find? (hit at_ op)) = .tuple #[.agg #[.int .i64 y0, .int .i64 y1, .int .i64 y2, .int .i64 y3], .bool b] ∧ (y1 == kind) = false := by
  cases h : (xs.filter (keepK kind)).find? (hit at_ op) with
  | none => exact ⟨0, 0, 0, 0, false, rfl, by simp; omega⟩
  | some y =>
    refine ⟨y.at_, y.kind, y.a, y.b, true, rfl, ?_⟩
    have := List.mem_of_find?_eq_some h
    rw [List.mem_filter] at this
    simpa [keepK] using this.2
theorem count_filter (kind below : Int) (xs : List Ft) : countF kind below (xs.filter (keepK kind)) = 0 := by
  unfold countF
  rw [List.filter_filter, List.length_eq_zero_iff, List.filter_eq_nil_iff]
  intro x _
  simp [counts, keepK]
  intro h1 _ _
  exact h1
def eqF (x0 x1 x2 x3 : Int) (y : Ft) : Bool := y.at_ == x0 && (y.kind == x1 && (y.a == x2 && (y.b == x3 && true)))
theorem any_snoc (p : Ft → Bool) (xs : List Ft) (k : Nat) (x : Ft) (hx : xs[k]? = some x) : (xs.take (k + 1)).any p = ((xs.take k).any p || p x) := by
  rw [List.take_add_one, hx, Option.toList_some, List.any_append]
  simp
end Go.Proofs.Ytdjfkehbknbocab

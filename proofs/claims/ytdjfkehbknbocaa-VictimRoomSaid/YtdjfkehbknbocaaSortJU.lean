/- The closure that hands round the rows of a sorted list. -/
import Derived.RangeFuncNested
import Derived.RangeFuncBound
import Derived.RangeFuncCalls
import Derived.RangeFuncLeaves
import Derived.Shelf.Abstract
import Derived.Shelf.RegionOpen
import Derived.OwnWalkIn
import Derived.TacticsInMore
import Derived.LoopNIn
import Derived.LoopIn
import Derived.RegionIn
import Derived.Test.YtdjfkehbknbocaaSortAU
namespace Go.Proofs.Ytdjfkehbknbocaa
open Go.RowKit Go.Shelf
set_option linter.unusedSimpArgs false
set_option linter.unusedVariables false
attribute [local go_sem] Oper.semAt_some

/-- What a round that goes on keeps: the box of the list, and the list's own row. -/
structure KpR (B : Nat) (r : Option Nat) (X Y : World) : Prop where
  size : X.heap.size ≤ Y.heap.size
  b : Y.heap[B]? = X.heap[B]?
  g : ∀ q, r = some q → Y.heap[q]? = X.heap[q]?
theorem kpR_t {B : Nat} {r : Option Nat} {X Y Z : World} (h : KpR B r X Y) (k : KpR B r Y Z) : KpR B r X Z := ⟨Nat.le_trans h.size k.size, k.b.trans h.b, fun q e => (k.g q e).trans (h.g q e)⟩
theorem kpR_b {B : Nat} {r : Option Nat} {w : World} (h1 : B < w.heap.size) (h2 : ∀ q, r = some q → q < w.heap.size) (W : World) (l : Nat) (o o' : Obj) (hl : w.heap.size ≤ l) (h : W.heap[l]? = some o) (hc : o.isCells = false) (hw : o.isWalk = false) : KpR B r W (W.putObj l o') :=
  ⟨by simp, World.putObj_heap_other (by omega), fun q e => World.putObj_heap_other (by have := h2 q e; omega)⟩
theorem kpR_grown {B : Nat} {r : Option Nat} {X Y : World} {row : Option Nat} (hg : X.grownBy Y row) (h1 : B < X.heap.size) (h2 : ∀ q, r = some q → q < X.heap.size) (h3 : row ≠ some B) (h4 : ∀ q, r = some q → row ≠ some q) : KpR B r X Y :=
  ⟨hg.size, hg.block B h1 (fun e => h3 e.symm), fun q e => hg.block q (h2 q e) (fun e2 => h4 q e e2.symm)⟩
theorem own_kpR {B : Nat} {X Y : World} {base : Nat} {e : TypeId} {size n : Nat} {v : Value} {xs : List Value} (h : X.ownsRow base e size v n xs) (k : KpR B v.ownBlock X Y) : Y.ownsRow base e size v n xs := by
  obtain ⟨h1, h2⟩ := h
  refine ⟨h1, ?_⟩
  rcases h2 with h2 | ⟨g, cap, cur, rfl, hb, hg, rest⟩
  · exact .inl h2
  · exact .inr ⟨g, cap, cur, rfl, hb, (k.g g rfl).trans hg, rest⟩
theorem blk_kpR {B : Nat} {r : Option Nat} {X Y : World} {t : TypeId} {cs : Array Value} (h : Blk X B t cs) (k : KpR B r X Y) : Blk Y B t cs := k.b.trans h
set_option maxRecDepth 100000 in
set_option maxHeartbeats 4000000 in
theorem iterU_in2 (n l B base : Nat) (A : Option Addr) (m c : Nat) (tb : TypeId) {α : Type} (f : α → Us) (zs : List α) (J Jx : List α → World → Prop)
    (W : World) (hA : W.ownsRow base 83 3 (.slice A m c) m (eList eUs (zs.map f))) (hB : Blk W B tb #[.slice A m c]) (hm : m ≤ 1000000000) (hJ : AbidesFrom W.heap.size J)
    (hY : ∀ pre x W1, J pre W1 → pre.length < zs.length → YieldAt Fence.wide (n - 1) Try.prog l #[Us.agg (f x)] W1 fun e W' =>
      (e = .returned (.bool true) ∧ J (pre ++ [x]) W' ∧ KpR B (Value.slice A m c).ownBlock W1 W') ∨ (e = .returned (.bool false) ∧ Jx (pre ++ [x]) W'))
    (h0 : J [] W) :
    CallsIn Fence.wide n Try.prog 75 #[.func (.yield l) #[] #[], .pointer (some ⟨B, 0, none⟩)] W fun e W' => (∃ v, e = .returned v) ∧
      ((∃ ys, ys = zs ∧ J ys W') ∨ (∃ pre, pre <+: zs ∧ Jx pre W')) := by
  have hlen := ownU_zlen hA
  rw [List.length_map] at hlen
  have q0 := (hB.cell 0).trans rfl
  refine callsIn_of_wp Try.func75 rfl trivial ?_ rfl
  simp only [Try.ntmps75, List.size_toArray, List.length_cons, List.length_nil, Nat.reduceAdd, Nat.reduceSub, Array.replicate_succ, Array.replicate_zero, List.push_toArray, List.append_toArray, List.nil_append, List.cons_append]
  gi_wp2
  gi_loopw [7] (fun u wr => ∃ k : Nat, k ≤ m ∧ u = .int .i64 k ∧ Hid (J (zs.take k) wr ∧ wr.ownsRow base 83 3 (.slice A m c) m (eList eUs (zs.map f)) ∧ Blk wr B tb #[.slice A m c] ∧ W.heap.size ≤ wr.heap.size)) (fun u _ => m - (intOf u).toNat)
  case atStart => exact ⟨0, Nat.zero_le _, rfl, h0, hA, hB, Nat.le_refl _⟩
  case round =>
    obtain ⟨k, hk, rfl, H⟩ := hrel
    clear q0
    by_cases hlt : k < m
    · have hlt' : (k : Int) < (m : Int) := by omega
      have hsl := Sl.own (k := 3) (fun _ => rfl) (by omega) H.out.2.1
      obtain ⟨pb, poff, z, hAe, hpb, hpx, hcp⟩ := hsl.get_ hlt
      rw [List.getElem?_map] at hpx
      obtain ⟨a, hpx, hfa⟩ := Option.map_eq_some_iff.1 hpx
      have htk : zs.take (k + 1) = zs.take k ++ [a] := by rw [List.take_add_one, hpx]; rfl
      obtain ⟨x0, x1, x2⟩ := z
      have pc0 := hcp 0 _ rfl
      have pc1 := hcp 1 _ rfl
      have pc2 := hcp 2 _ rfl
      simp only [Nat.add_zero] at pc0
      clear hcp
      have hw34 : Below wr.heap.size wr (wr.alloc (.cells #[.int .i64 x0, .int .i64 x1, .int .i64 x2] 83)) := (Below.refl _ wr).alloc (Nat.le_refl _) _
      have hj4 : J (zs.take k) (wr.alloc (.cells #[.int .i64 x0, .int .i64 x1, .int .i64 x2] 83)) := hJ _ _ _ none H.out.1 (grown_of_below hw34 none) (fun r e => by cases e)
      have ho4 := H.out.2.1.alloc (.cells #[.int .i64 x0, .int .i64 x1, .int .i64 x2] 83)
      have hb4 := H.out.2.2.1.alloc (.cells #[.int .i64 x0, .int .i64 x1, .int .i64 x2] 83)
      have hs4 : W.heap.size ≤ (wr.alloc (.cells #[.int .i64 x0, .int .i64 x1, .int .i64 x2] 83)).heap.size := Nat.le_trans H.out.2.2.2 (by simp)
      have hya := hY (zs.take k) a _ hj4 (by rw [List.length_take]; omega)
      rw [hfa] at hya
      obtain ⟨fn, tmps, assign, body, hy, hR⟩ := hya
      have HT := Lib.hid htk
      have HB4 := Lib.hid (And.intro ho4 (And.intro hb4 hs4))
      try simp only [Us.agg] at hy
      try simp only [Us.agg] at hR
      subst hAe
      clear hpx htk hj4 hb4 hw34 ho4 hs4 hsl hfa
      gi_wp2
      refine ⟨fun h => (by cases h), ?_⟩
      refine hR.mono ?_
      rintro e W3 (⟨rfl, hJ3, hk3⟩ | ⟨rfl, hJx3⟩)
      · have HN := Lib.hid (And.intro hJ3 (And.intro (own_kpR HB4.out.1 hk3) (And.intro (blk_kpR HB4.out.2.1 hk3) (Nat.le_trans HB4.out.2.2 hk3.size))))
        clear hJ3 hk3 pc0 pc1 pc2
        gi_wp2
        go_roundw
        case rel => exact ⟨k + 1, by omega, by go_num, by rw [HT.out]; exact HN.out.1, HN.out.2⟩
        case measure => simp [intOf]; omega
      · have HN := Lib.hid hJx3
        clear hJx3 pc0 pc1 pc2
        gi_wp2
        refine bodyPost_ret (results_none rfl _ _ _) rfl ?_
        exact ⟨⟨_, rfl⟩, .inr ⟨_, by rw [← HT.out]; exact List.take_prefix _ _, HN.out⟩⟩
    · obtain rfl : k = m := by omega
      have htk : zs.take k = zs := List.take_of_length_le (by omega)
      rw [htk] at H
      clear htk
      gi_wp2
      go_end0
      exact ⟨⟨_, rfl⟩, .inl ⟨_, rfl, H.out.1⟩⟩
theorem iterU_stops2 (n B base : Nat) (A : Option Addr) (m c : Nat) (tb : TypeId) {α : Type} (f : α → Us) (zs : List α) (w : World) (hA : w.ownsRow base 83 3 (.slice A m c) m (eList eUs (zs.map f))) (hB : Blk w B tb #[.slice A m c]) (hm : m ≤ 1000000000) :
    SeqStopsK Fence.wide n Try.prog 75 #[.pointer (some ⟨B, 0, none⟩)] (fun x : α => #[(f x).agg]) (KpR B (Value.slice A m c).ownBlock) (fun ys => ys = zs) (fun pre => pre <+: zs) zs.length w := fun l J Jx W hW hJ _ hY h0 =>
  iterU_in2 n l B base A m c tb f zs J Jx W (own_below hA hW) (hB.below_ hW) hm hJ hY h0
end Go.Proofs.Ytdjfkehbknbocaa

/- The closure that hands round the rows of a sorted list. -/
import Derived.RangeFuncNested
import Derived.RangeFuncBound
import Derived.RangeFuncCalls
import Derived.RangeFuncLeaves
import Derived.Shelf.Abstract
import Derived.Shelf.RegionOpen
import Derived.OwnWalkIn
import Derived.TacticsInMore
import Derived.LoopNIn
import Derived.LoopIn
import Derived.RegionIn
import Derived.Test.YtdjfkehbknbocabSortAF
namespace Go.Proofs.Ytdjfkehbknbocab
open Go.RowKit Go.Shelf
set_option linter.unusedSimpArgs false
set_option linter.unusedVariables false
attribute [local go_sem] Oper.semAt_some

set_option maxRecDepth 100000 in
set_option maxHeartbeats 4000000 in
theorem iterF_in (n l B : Nat) (A : Option Addr) (m c : Nat) (zs : List Ft) (w0 : World) (J Jx : List Ft → World → Prop) (hA : Sl eFt 4 w0 A m zs) (hB : w0.cell? ⟨B, 0, none⟩ = some (.slice A m c)) (hBl : B < w0.heap.size)
    (W : World) (hW : Below w0.heap.size w0 W) (hJ : AbidesFrom W.heap.size J)
    (hY : ∀ pre x W1, J pre W1 → pre.length < zs.length → YieldAt Fence.wide (n - 1) Try.prog l #[Ft.agg x] W1 fun e W' =>
      (e = .returned (.bool true) ∧ J (pre ++ [x]) W' ∧ Below w0.heap.size W1 W') ∨ (e = .returned (.bool false) ∧ Jx (pre ++ [x]) W'))
    (h0 : J [] W) :
    CallsIn Fence.wide n Try.prog 26 #[.func (.yield l) #[] #[], .pointer (some ⟨B, 0, none⟩)] W fun e W' => (∃ v, e = .returned v) ∧
      ((∃ ys, ys = zs ∧ J ys W') ∨ (∃ pre, pre <+: zs ∧ Jx pre W')) := by
  have hlen := hA.len
  have hbig := hA.big
  have q0 := (hW.cell (p := ⟨B, 0, none⟩) hBl).trans hB
  refine callsIn_of_wp Try.func26 rfl trivial ?_ rfl
  simp only [Try.ntmps26, List.size_toArray, List.length_cons, List.length_nil, Nat.reduceAdd, Nat.reduceSub, Array.replicate_succ, Array.replicate_zero, List.push_toArray, List.append_toArray, List.nil_append, List.cons_append]
  gi_wp2
  gi_loopw [7] (fun u wr => ∃ k : Nat, k ≤ m ∧ u = .int .i64 k ∧ Hid (J (zs.take k) wr ∧ Below w0.heap.size w0 wr)) (fun u _ => m - (intOf u).toNat)
  case atStart => exact ⟨0, Nat.zero_le _, rfl, h0, hW⟩
  case round =>
    obtain ⟨k, hk, rfl, H⟩ := hrel
    clear q0
    by_cases hlt : k < m
    · have hlt' : (k : Int) < (m : Int) := by omega
      obtain ⟨pb, poff, z, rfl, hpb, hpx, hcp⟩ := (hA.below H.out.2).get_ hlt
      have htk : zs.take (k + 1) = zs.take k ++ [z] := by rw [List.take_add_one, hpx]; rfl
      obtain ⟨x0, x1, x2, x3⟩ := z
      have pc0 := hcp 0 _ rfl
      have pc1 := hcp 1 _ rfl
      have pc2 := hcp 2 _ rfl
      have pc3 := hcp 3 _ rfl
      simp only [Nat.add_zero] at pc0
      clear hcp
      have hw34 : Below wr.heap.size wr (wr.alloc (.cells #[.int .i64 x0, .int .i64 x1, .int .i64 x2, .int .i64 x3] 37)) := (Below.refl _ wr).alloc (Nat.le_refl _) _
      have hj4 : J (zs.take k) (wr.alloc (.cells #[.int .i64 x0, .int .i64 x1, .int .i64 x2, .int .i64 x3] 37)) := hJ _ _ _ none H.out.1 (grown_of_below hw34 none) (fun r e => by cases e)
      have hb4 : Below w0.heap.size w0 (wr.alloc (.cells #[.int .i64 x0, .int .i64 x1, .int .i64 x2, .int .i64 x3] 37)) := H.out.2.alloc H.out.2.size _
      obtain ⟨fn, tmps, assign, body, hy, hR⟩ := hY (zs.take k) ⟨x0, x1, x2, x3⟩ _ hj4 (by rw [List.length_take]; omega)
      have HT := Lib.hid htk
      have HB4 := Lib.hid hb4
      try simp only [Ft.agg] at hy
      try simp only [Ft.agg] at hR
      clear hpx htk hj4 hb4 hw34
      gi_wp2
      refine ⟨fun h => (by cases h), ?_⟩
      refine hR.mono ?_
      rintro e W3 (⟨rfl, hJ3, hk3⟩ | ⟨rfl, hJx3⟩)
      · have HN := Lib.hid (And.intro hJ3 (HB4.out.trans hk3))
        clear hJ3 hk3 pc0 pc1 pc2 pc3
        gi_wp2
        go_roundw
        case rel => exact ⟨k + 1, by omega, by go_num, by rw [HT.out]; exact HN.out.1, HN.out.2⟩
        case measure => simp [intOf]; omega
      · have HN := Lib.hid hJx3
        clear hJx3 pc0 pc1 pc2 pc3
        gi_wp2
        refine bodyPost_ret (results_none rfl _ _ _) rfl ?_
        exact ⟨⟨_, rfl⟩, .inr ⟨_, by rw [← HT.out]; exact List.take_prefix _ _, HN.out⟩⟩
    · obtain rfl : k = m := by omega
      have htk : zs.take k = zs := List.take_of_length_le (by omega)
      rw [htk] at H
      clear htk
      gi_wp2
      go_end0
      exact ⟨⟨_, rfl⟩, .inl ⟨_, rfl, H.out.1⟩⟩
theorem iterF_stops (n B : Nat) (A : Option Addr) (m c : Nat) (zs : List Ft) (w0 w : World) (hA : Sl eFt 4 w0 A m zs) (hB : w0.cell? ⟨B, 0, none⟩ = some (.slice A m c)) (hBl : B < w0.heap.size) (hw : Below w0.heap.size w0 w) :
    SeqStopsK Fence.wide n Try.prog 26 #[.pointer (some ⟨B, 0, none⟩)] (fun x : Ft => #[x.agg]) (Below w0.heap.size) (fun ys => ys = zs) (fun pre => pre <+: zs) zs.length w := fun l J Jx W hW hJ _ hY h0 =>
  iterF_in n l B A m c zs w0 J Jx hA hB hBl W (hw.trans (hW.mono hw.size)) hJ hY h0
end Go.Proofs.Ytdjfkehbknbocab

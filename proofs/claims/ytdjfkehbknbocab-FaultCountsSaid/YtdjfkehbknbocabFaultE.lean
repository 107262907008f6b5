/- The walk of Count; the chapter's example of faults. -/
import Derived.Test.YtdjfkehbknbocabFaultD
import Derived.Test.YtdjfkehbknbocabEqs
namespace Go.Proofs.Ytdjfkehbknbocab
open Go.RowKit
set_option linter.unusedSimpArgs false
set_option linter.unusedVariables false

def counts (kind below : Int) (x : Ft) : Bool := x.kind == kind && (decide (0 ≤ x.at_) && decide (x.at_ < below))
def countF (kind below : Int) (xs : List Ft) : Nat := (xs.filter (counts kind below)).length
theorem countF_snoc (kind below : Int) (xs : List Ft) (k : Nat) (x : Ft) (hx : xs[k]? = some x) : countF kind below (xs.take (k + 1)) = countF kind below (xs.take k) + if counts kind below x then 1 else 0 := by
  unfold countF
  rw [List.take_add_one, hx, Option.toList_some, List.filter_append]
  cases h : counts kind below x <;> simp [h]
theorem countF_le (kind below : Int) (xs : List Ft) (k : Nat) : countF kind below (xs.take k) ≤ k := by
  unfold countF
  exact Nat.le_trans (List.length_filter_le _ _) (by rw [List.length_take]; omega)

set_option maxRecDepth 100000 in
set_option maxHeartbeats 4000000 in
theorem count_any (A : Option Addr) (n c : Nat) (xs : List Ft) (kind below : Int) (w : World) (hA : Sl eFt 4 w A n xs) :
    Calls Try.prog 13 #[.slice A n c, .int .i64 kind, .int .i64 below] w fun e w' => e = .returned (.int .i64 (countF kind below xs)) ∧ Below w.heap.size w w' := by
  have hlen := hA.len
  have hbig := hA.big
  have HA := Lib.hid hA
  clear hA
  go_enter Try.func13, Try.ntmps13
  go_wp2
  go_loopw [7, 12] (fun t i wr => ∃ k : Nat, ∃ m : Nat, k ≤ n ∧ m ≤ k ∧ i = .int .i64 k ∧ t = .int .i64 m ∧ Hid (m = countF kind below (xs.take k)) ∧ Hid (Below w.heap.size w wr)) (fun _ i _ => n - (intOf i).toNat)
  case atStart => exact ⟨0, 0, Nat.zero_le _, Nat.le_refl _, rfl, rfl, rfl, Below.refl _ _⟩
  case round =>
    obtain ⟨k, m, hk, hm, rfl, rfl, HM, HW⟩ := hrel
    by_cases hlt : k < n
    · obtain ⟨b, off, x, rfl, hb, hx, c0, c1, c2, c3⟩ := (HA.out.below HW.out).ft_ hlt
      have hst := countF_snoc kind below xs k x hx
      rw [← HM.out] at hst
      obtain ⟨x0, x1, x2, x3⟩ := x
      simp only at c0 c1 c2 c3
      have HS := Lib.hid hst
      clear hst hx hb HA HM
      by_cases e1 : (x1 == kind) = true
      · by_cases e2 : 0 ≤ x0
        · by_cases e3 : x0 < below
          · have hc : counts kind below ⟨x0, x1, x2, x3⟩ = true := by simp [counts, e1, e2, e3]
            have HS2 : Hid (m + 1 = countF kind below (xs.take (k + 1))) := by rw [HS.out, hc]; rfl
            clear hc HS
            go_wp2
            go_roundw
            case rel => exact ⟨k + 1, m + 1, by omega, by omega, by go_num, by go_num, HS2, by ((try change Below _ _ _); have bsz_ := (HW.out).size; (repeat (any_goals (first | (with_reducible exact HW.out) | (with_reducible exact Below.refl _ _) | (with_reducible apply Below.drew) | (with_reducible apply below_drewN) | (with_reducible refine Below.alloc ?_ ?_ _) | (with_reducible refine Below.setCell ?_ ?_ _)))); all_goals (first | exact Nat.le_refl _ | (simp; done) | (simp; omega) | omega | (dsimp only; omega)))⟩
            case measure => simp [intOf]; omega
          · have hc : counts kind below ⟨x0, x1, x2, x3⟩ = false := by simp [counts, e3]
            have HS2 : Hid (m = countF kind below (xs.take (k + 1))) := by rw [HS.out, hc]; rfl
            clear hc HS
            go_wp2
            go_roundw
            case rel => exact ⟨k + 1, m, by omega, by omega, by go_num, rfl, HS2, by ((try change Below _ _ _); have bsz_ := (HW.out).size; (repeat (any_goals (first | (with_reducible exact HW.out) | (with_reducible exact Below.refl _ _) | (with_reducible apply Below.drew) | (with_reducible apply below_drewN) | (with_reducible refine Below.alloc ?_ ?_ _) | (with_reducible refine Below.setCell ?_ ?_ _)))); all_goals (first | exact Nat.le_refl _ | (simp; done) | (simp; omega) | omega | (dsimp only; omega)))⟩
            case measure => simp [intOf]; omega
        · have hc : counts kind below ⟨x0, x1, x2, x3⟩ = false := by simp [counts, e2]
          have HS2 : Hid (m = countF kind below (xs.take (k + 1))) := by rw [HS.out, hc]; rfl
          clear hc HS
          go_wp2
          go_roundw
          case rel => exact ⟨k + 1, m, by omega, by omega, by go_num, rfl, HS2, by ((try change Below _ _ _); have bsz_ := (HW.out).size; (repeat (any_goals (first | (with_reducible exact HW.out) | (with_reducible exact Below.refl _ _) | (with_reducible apply Below.drew) | (with_reducible apply below_drewN) | (with_reducible refine Below.alloc ?_ ?_ _) | (with_reducible refine Below.setCell ?_ ?_ _)))); all_goals (first | exact Nat.le_refl _ | (simp; done) | (simp; omega) | omega | (dsimp only; omega)))⟩
          case measure => simp [intOf]; omega
      · have e1' : (x1 == kind) = false := by simpa using e1
        have hc : counts kind below ⟨x0, x1, x2, x3⟩ = false := by simp [counts, e1']
        have HS2 : Hid (m = countF kind below (xs.take (k + 1))) := by rw [HS.out, hc]; rfl
        clear hc HS e1
        go_wp2
        go_roundw
        case rel => exact ⟨k + 1, m, by omega, by omega, by go_num, rfl, HS2, by ((try change Below _ _ _); have bsz_ := (HW.out).size; (repeat (any_goals (first | (with_reducible exact HW.out) | (with_reducible exact Below.refl _ _) | (with_reducible apply Below.drew) | (with_reducible apply below_drewN) | (with_reducible refine Below.alloc ?_ ?_ _) | (with_reducible refine Below.setCell ?_ ?_ _)))); all_goals (first | exact Nat.le_refl _ | (simp; done) | (simp; omega) | omega | (dsimp only; omega)))⟩
        case measure => simp [intOf]; omega
    · have : k = n := by omega
      subst this
      have HF : Hid ((m : Int) = countF kind below xs) := by
        have := HM.out
        rw [List.take_of_length_le (by omega)] at this
        show (m : Int) = _
        rw [← this]
      go_wp2
      go_ret
      exact ⟨by rw [← HF.out]; rfl, HW.out⟩

set_option maxRecDepth 100000 in
set_option maxHeartbeats 4000000 in
theorem works09 (w : World) : Calls Try.prog 9 #[] w fun e w' => e = .returned (.bool true) ∧ Below w.heap.size w w' := by
  have m1 := fun W A c hA => meets_any A 2 c [⟨3, 1, 0, 0⟩, ⟨3, 3, 0, 0⟩] 3 1 W hA
  have m2 := fun W A c hA => meets_any A 1 c [⟨3, 3, 0, 0⟩] 3 1 W hA
  have m3 := fun W A c hA => count_any A 2 c [⟨3, 1, 0, 0⟩, ⟨3, 3, 0, 0⟩] 1 4 W hA
  rw [show List.find? (hit 3 1) [⟨3, 1, 0, 0⟩, ⟨3, 3, 0, 0⟩] = some ⟨3, 1, 0, 0⟩ from rfl] at m1
  rw [show List.find? (hit 3 1) [⟨3, 3, 0, 0⟩] = some ⟨3, 3, 0, 0⟩ from rfl] at m2
  rw [show countF 1 4 [⟨3, 1, 0, 0⟩, ⟨3, 3, 0, 0⟩] = 1 from rfl] at m3
  simp only [met, Ft.agg, Int.natCast_one] at m1 m2 m3
  have M1 := Lib.hid m1
  clear m1
  have M2 := Lib.hid m2
  clear m2
  have M3 := Lib.hid m3
  clear m3
  go_enter Try.func9, Try.ntmps9
  go_wp2_with fail
  have hk0 := Blk.new w 37 (eList eFt [⟨3, 1, 0, 0⟩, ⟨3, 3, 0, 0⟩]).toArray
  have hs0 : Sl eFt 4 (w.alloc (.cells (eList eFt [⟨3, 1, 0, 0⟩, ⟨3, 3, 0, 0⟩]).toArray 37)) (some ⟨w.heap.size, 0, none⟩) 2 [⟨3, 1, 0, 0⟩, ⟨3, 3, 0, 0⟩] := Sl.of_blk (enc := eFt) (k := 4) (n := 2) (fun _ => rfl) hk0 rfl rfl (by omega)
  have hs1 : Sl eFt 4 (w.alloc (.cells (eList eFt [⟨3, 1, 0, 0⟩, ⟨3, 3, 0, 0⟩]).toArray 37)) (some ⟨w.heap.size, 4, none⟩) 1 [⟨3, 3, 0, 0⟩] := by
    refine ⟨rfl, by omega, fun _ => ⟨w.heap.size, 4, rfl, by simp, fun j x hx i v hv => ?_⟩⟩
    cases j with
    | succ j => simp at hx
    | zero =>
      simp at hx
      subst hx
      rw [hk0.cell]
      have hi := (List.getElem?_eq_some_iff.1 hv).1
      match i, hi with
      | 0, _ => exact hv
      | 1, _ => exact hv
      | 2, _ => exact hv
      | 3, _ => exact hv
  refine (M1.out _ _ _ hs0).mono ?_
  rintro e w1 ⟨rfl, hb1⟩
  have hw1 := below_tr ((Below.refl _ w).alloc (Nat.le_refl _) _) hb1
  have HS0 := Lib.hid (hs0.below hb1)
  have HS1 := Lib.hid (hs1.below hb1)
  have HW1 := Lib.hid hw1
  clear hw1
  clear hs0 hs1 hb1 hk0
  go_wp2_with fail
  refine (M2.out _ _ _ (HS1.out.below ((Below.refl _ _).alloc (Nat.le_refl _) _))).mono ?_
  rintro e w2 ⟨rfl, hb2⟩
  have hk2 : Blk w2 w1.heap.size 37 #[.int .i64 3, .int .i64 1, .int .i64 0, .int .i64 0] := (Blk.new w1 _ _).below_ hb2
  have hw2 := below_tr (HW1.out.alloc HW1.out.size _) hb2
  have HS2 := Lib.hid ((HS0.out.below ((Below.refl _ _).alloc (Nat.le_refl _) _)).below hb2)
  have c0 := (hk2.cell 0).trans rfl
  have c1 := (hk2.cell 1).trans rfl
  have c2 := (hk2.cell 2).trans rfl
  have c3 := (hk2.cell 3).trans rfl
  have hlt := hk2.lt
  have HW2 := Lib.hid hw2
  clear hw2
  clear hb2 hk2 HS0 HS1 HW1
  go_wp2_with fail
  refine (M3.out _ _ _ (HS2.out.below ((Below.refl _ _).alloc (Nat.le_refl _) _))).mono ?_
  rintro e w3 ⟨rfl, hb3⟩
  have hw3 := below_tr (HW2.out.alloc HW2.out.size _) hb3
  have HW3 := Lib.hid hw3
  clear hw3
  clear hb3
  go_wp2
  go_ret
  exact ⟨rfl, HW3.out⟩
end Go.Proofs.Ytdjfkehbknbocab

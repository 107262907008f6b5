/- The walks of the reference's Count, Without and Ahead, and of the law's own list comparison. -/
import Derived.Test.YtdjfkehbknbocabAhead
namespace Go.Proofs.Ytdjfkehbknbocab
open Go.RowKit
set_option linter.unusedSimpArgs false
set_option linter.unusedVariables false

set_option maxRecDepth 100000 in
set_option maxHeartbeats 4000000 in
theorem refCount_any (A : Option Addr) (n c : Nat) (xs : List Ft) (kind below : Int) (w : World) (hA : Sl eFt 4 w A n xs) :
    Calls Try.prog 14 #[.slice A n c, .int .i64 kind, .int .i64 below] w fun e w' => e = .returned (.int .i64 (countF kind below xs)) ∧ Below w.heap.size w w' := by
  have hlen := hA.len
  have hbig := hA.big
  have HA := Lib.hid hA
  clear hA
  go_enter Try.func14, Try.ntmps14
  go_wp2
  go_loopw [7, 8] (fun t i wr => ∃ k : Nat, ∃ m : Nat, k ≤ n ∧ m ≤ k ∧ i = .int .i64 k ∧ t = .int .i64 m ∧ Hid (m = countF kind below (xs.take k)) ∧ Hid (Below w.heap.size w wr)) (fun _ i _ => n - (intOf i).toNat)
  case atStart => exact ⟨0, 0, Nat.zero_le _, Nat.le_refl _, rfl, rfl, rfl, Below.refl _ _⟩
  case round =>
    obtain ⟨k, m, hk, hm, rfl, rfl, HM, HW⟩ := hrel
    by_cases hlt : k < n
    · obtain ⟨b, off, x, rfl, hb, hx, c0, c1, c2, c3⟩ := (HA.out.below HW.out).ft_ hlt
      have hst := countF_snoc kind below xs k x hx
      rw [← HM.out] at hst
      obtain ⟨x0, x1, x2, x3⟩ := x
      simp only at c0 c1 c2 c3
      have HS := Lib.hid hst
      clear hst hx hb HA HM
      by_cases e1 : (x1 == kind) = true
      · by_cases e2 : 0 ≤ x0
        · by_cases e3 : x0 < below
          · have hc : counts kind below ⟨x0, x1, x2, x3⟩ = true := by simp [counts, e1, e2, e3]
            have HS2 : Hid (m + 1 = countF kind below (xs.take (k + 1))) := by rw [HS.out, hc]; rfl
            clear hc HS
            go_wp2
            go_roundw
            case rel => exact ⟨k + 1, m + 1, by omega, by omega, by go_num, by go_num, HS2, by ((try change Below _ _ _); have bsz_ := (HW.out).size; (repeat (any_goals (first | (with_reducible exact HW.out) | (with_reducible exact Below.refl _ _) | (with_reducible apply Below.drew) | (with_reducible apply below_drewN) | (with_reducible refine Below.alloc ?_ ?_ _) | (with_reducible refine Below.setCell ?_ ?_ _)))); all_goals (first | exact Nat.le_refl _ | (simp; done) | (simp; omega) | omega | (dsimp only; omega)))⟩
            case measure => simp [intOf]; omega
          · have hc : counts kind below ⟨x0, x1, x2, x3⟩ = false := by simp [counts, e3]
            have HS2 : Hid (m = countF kind below (xs.take (k + 1))) := by rw [HS.out, hc]; rfl
            clear hc HS
            go_wp2
            go_roundw
            case rel => exact ⟨k + 1, m, by omega, by omega, by go_num, rfl, HS2, by ((try change Below _ _ _); have bsz_ := (HW.out).size; (repeat (any_goals (first | (with_reducible exact HW.out) | (with_reducible exact Below.refl _ _) | (with_reducible apply Below.drew) | (with_reducible apply below_drewN) | (with_reducible refine Below.alloc ?_ ?_ _) | (with_reducible refine Below.setCell ?_ ?_ _)))); all_goals (first | exact Nat.le_refl _ | (simp; done) | (simp; omega) | omega | (dsimp only; omega)))⟩
            case measure => simp [intOf]; omega
        · have hc : counts kind below ⟨x0, x1, x2, x3⟩ = false := by simp [counts, e2]
          have HS2 : Hid (m = countF kind below (xs.take (k + 1))) := by rw [HS.out, hc]; rfl
          clear hc HS
          go_wp2
          go_roundw
          case rel => exact ⟨k + 1, m, by omega, by omega, by go_num, rfl, HS2, by ((try change Below _ _ _); have bsz_ := (HW.out).size; (repeat (any_goals (first | (with_reducible exact HW.out) | (with_reducible exact Below.refl _ _) | (with_reducible apply Below.drew) | (with_reducible apply below_drewN) | (with_reducible refine Below.alloc ?_ ?_ _) | (with_reducible refine Below.setCell ?_ ?_ _)))); all_goals (first | exact Nat.le_refl _ | (simp; done) | (simp; omega) | omega | (dsimp only; omega)))⟩
          case measure => simp [intOf]; omega
      · have e1' : (x1 == kind) = false := by simpa using e1
        have hc : counts kind below ⟨x0, x1, x2, x3⟩ = false := by simp [counts, e1']
        have HS2 : Hid (m = countF kind below (xs.take (k + 1))) := by rw [HS.out, hc]; rfl
        clear hc HS e1
        go_wp2
        go_roundw
        case rel => exact ⟨k + 1, m, by omega, by omega, by go_num, rfl, HS2, by ((try change Below _ _ _); have bsz_ := (HW.out).size; (repeat (any_goals (first | (with_reducible exact HW.out) | (with_reducible exact Below.refl _ _) | (with_reducible apply Below.drew) | (with_reducible apply below_drewN) | (with_reducible refine Below.alloc ?_ ?_ _) | (with_reducible refine Below.setCell ?_ ?_ _)))); all_goals (first | exact Nat.le_refl _ | (simp; done) | (simp; omega) | omega | (dsimp only; omega)))⟩
        case measure => simp [intOf]; omega
    · have : k = n := by omega
      subst this
      have HF : Hid ((m : Int) = countF kind below xs) := by
        have := HM.out
        rw [List.take_of_length_le (by omega)] at this
        show (m : Int) = _
        rw [← this]
      go_wp2
      go_ret
      exact ⟨by rw [← HF.out]; rfl, HW.out⟩

theorem filter_snoc {α : Type} (p : α → Bool) {xs : List α} {k : Nat} {x : α} (hx : xs[k]? = some x) : (xs.take (k + 1)).filter p = (xs.take k).filter p ++ if p x = true then [x] else [] := by
  rw [List.take_add_one, hx, Option.toList_some, List.filter_append]
  cases h : p x <;> simp [h]
set_option maxRecDepth 100000 in
set_option maxHeartbeats 4000000 in
theorem refWithout_any (A : Option Addr) (n c : Nat) (xs : List Ft) (kind : Int) (w : World) (hn : n ≤ 100000) (hA : Sl eFt 4 w A n xs) :
    Calls Try.prog 16 #[.slice A n c, .int .i64 kind] w (WPost kind xs w) := by
  have hlen := hA.len
  have HA := Lib.hid hA
  clear hA
  go_enter Try.func16, Try.ntmps16
  go_wp2
  go_loopw [5, 6] (fun v i wr => ∃ (k m : Nat) (A' : Option Addr) (c' : Nat), k ≤ n ∧ m ≤ k ∧ i = .int .i64 k ∧ v = .slice A' m c' ∧ Hid (wr.ownsRow w.heap.size 37 4 (.slice A' m c') m (eList eFt ((xs.take k).filter (keepK kind))) ∧ Below w.heap.size w wr)) (fun _ i _ => n - (intOf i).toNat)
  case atStart => exact ⟨0, 0, none, 0, Nat.zero_le _, Nat.le_refl _, rfl, rfl, World.ownsRow_nil _ _ _ _, Below.refl _ _⟩
  case round =>
    obtain ⟨k, m, A', c', hk, hm, rfl, rfl, H⟩ := hrel
    by_cases hlt : k < n
    · obtain ⟨b, off, x, rfl, hb, hx, q0, q1, q2, q3⟩ := (HA.out.below H.out.2).ft_ hlt
      have hst := filter_snoc (keepK kind) hx
      obtain ⟨x0, x1, x2, x3⟩ := x
      simp only at q0 q1 q2 q3
      have HS := Lib.hid hst
      clear hst hx hb
      by_cases e1 : (x1 == kind) = true
      · have hk1 : keepK kind ⟨x0, x1, x2, x3⟩ = false := by simp [keepK, e1]
        have HS2 : Hid ((xs.take (k + 1)).filter (keepK kind) = (xs.take k).filter (keepK kind)) := Lib.hid (by rw [HS.out, hk1]; simp)
        have e2 : x1 = kind := by simpa using e1
        clear hk1 HS
        go_wp2
        go_roundw
        case rel => exact ⟨k + 1, m, A', c', by omega, by omega, by go_num, rfl, (by first | exact Lib.hid trivial | exact ⟨by rw [HS2.out]; exact H.out.1, H.out.2⟩)⟩
        case measure => simp [intOf]; omega
      · have e1' : (x1 == kind) = false := by simpa using e1
        have e1'' : (x1 != kind) = true := by simpa using e1
        have hk1 : keepK kind ⟨x0, x1, x2, x3⟩ = true := by simp [keepK, e1']
        have HS2 : Hid ((xs.take (k + 1)).filter (keepK kind) = (xs.take k).filter (keepK kind) ++ [⟨x0, x1, x2, x3⟩]) := Lib.hid (by rw [HS.out, hk1]; simp)
        clear hk1 HS e1
        go_wp2_with (first | (at_builtin; refine wpList_app rfl (.tmp 20) (.tmp 25) 31 rfl Try.underlying31 info_fault rfl (by omega) (by omega) rfl (H.out.1.alloc _) rfl (heap_alloc_new wr _) rfl (by simp [Value.oneCell']) (by omega) (by have := H.out.2.size; simp; omega) ?_; intro g cap w2 hown2 hg hor hlt2))
        have hbe : Below w.heap.size w w2 := (H.out.2.alloc H.out.2.size _).grown hg (by have := H.out.2.size; simp; omega) (fun q e => own_base H.out.1 q e)
        have HE : Hid (w2.ownsRow w.heap.size 37 4 (.slice (some ⟨g, 0, none⟩) (m + 1) cap) (m + 1) (eList eFt ((xs.take (k + 1)).filter (keepK kind))) ∧ Below w.heap.size w w2) := ⟨by rw [HS2.out, eList_snoc]; exact hown2, hbe⟩
        clear hown2 hg hor hlt2 hbe
        go_roundw
        case rel => exact ⟨k + 1, m + 1, some ⟨g, 0, none⟩, cap, by omega, by omega, by go_num, rfl, (by first | exact Lib.hid trivial | exact HE.out)⟩
        case measure => simp [intOf]; omega
    · have : k = n := by omega
      subst this
      have HF : Hid (WPost kind xs w (.returned (.slice A' m c')) wr) := by
        have h1 := H.out.1
        rw [List.take_of_length_le (by omega)] at h1
        exact ⟨A', m, c', rfl, Sl.own (k := 4) (fun _ => rfl) (by omega) h1, H.out.2⟩
      go_wp2
      go_ret
      exact HF.out
end Go.Proofs.Ytdjfkehbknbocab

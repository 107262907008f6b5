/- slices' stable sort at rows of Us: rotate. -/
import Derived.Test.YtdjfkehbknbocaaSortAU
namespace Go.Proofs.Ytdjfkehbknbocaa
open Go.RowKit
set_option linter.unusedSimpArgs false
set_option linter.unusedVariables false

set_option maxRecDepth 100000 in
set_option maxHeartbeats 40000000 in
theorem rotateU_any (A : Option Addr) (n c base a m b : Nat) (f : Value) (P X Y B : List Us) (w : World) (hbig : n ≤ 9223372036854775807) (hA : w.ownsRow base 83 3 (.slice A n c) n (eList eUs (P ++ (X ++ (Y ++ B))))) (hP : P.length = a) (hX : a + X.length = m) (hY : m + Y.length = b) (hX0 : 0 < X.length) (hY0 : 0 < Y.length) :
    Calls Try.prog 90 #[.slice A n c, .int .i64 a, .int .i64 m, .int .i64 b, f] w fun e w' => (∃ v, e = .returned v) ∧ w'.ownsRow base 83 3 (.slice A n c) n (eList eUs (P ++ (Y ++ (X ++ B)))) ∧ w.grownBy w' (Value.slice A n c).ownBlock := by
  have hzl := ownU_zlen hA
  simp only [List.length_append] at hzl
  have HA := Lib.hid (show ∃ P' X' Y' B', P'.length + X'.length = m ∧ P' ++ (Y' ++ (X' ++ B')) = P ++ (Y ++ (X ++ B)) ∧ P'.length + (X'.length + (Y'.length + B'.length)) = n ∧ X'.length = X.length ∧ Y'.length = Y.length ∧ w.ownsRow base 83 3 (.slice A n c) n (eList eUs (P' ++ (X' ++ (Y' ++ B')))) from ⟨P, X, Y, B, by omega, rfl, hzl, rfl, rfl, hA⟩)
  clear hA
  have e1 : (m : Int) - (a : Int) = (X.length : Int) := by omega
  have e2 : (b : Int) - (m : Int) = (Y.length : Int) := by omega
  go_enter Try.func90, Try.ntmps90
  go_wp2_with fail
  clear e1 e2
  go_loopw [10, 11] (fun u v wr => ∃ (i j : Nat), 0 < i ∧ 0 < j ∧ u = .int .i64 i ∧ v = .int .i64 j ∧ Hid ((∃ P' X' Y' B', P'.length + X'.length = m ∧ P' ++ (Y' ++ (X' ++ B')) = P ++ (Y ++ (X ++ B)) ∧ P'.length + (X'.length + (Y'.length + B'.length)) = n ∧ X'.length = i ∧ Y'.length = j ∧ wr.ownsRow base 83 3 (.slice A n c) n (eList eUs (P' ++ (X' ++ (Y' ++ B'))))) ∧ w.grownBy wr (Value.slice A n c).ownBlock))
    (fun u v _ => (intOf u).toNat + (intOf v).toNat)
  case atStart => exact ⟨X.length, Y.length, hX0, hY0, rfl, rfl, HA.out, grown_of_below (Below.refl _ _) _⟩
  case round =>
    clear HA
    obtain ⟨i, j, hi, hj, rfl, rfl, H⟩ := hrel
    obtain ⟨⟨P', X', Y', B', l1, ht, l2, l3, l4, hown⟩, hgr⟩ := H.out
    have HT := Lib.hid ht
    have HG := Lib.hid hgr
    clear H ht hgr
    have e1 : (m : Int) - (i : Int) = (P'.length : Int) := by omega
    rcases Nat.lt_trichotomy i j with hij | hij | hij
    · have b1 : ¬ (j : Int) < (i : Int) := by omega
      have b2 : ¬ (i : Int) = (j : Int) := by omega
      have e2 : (m : Int) + (j : Int) - (i : Int) = ((m + (j - i) : Nat) : Int) := by omega
      have e3 : (j : Int) - (i : Int) = ((j - i : Nat) : Int) := by omega
      have hs := swapU_any A n c base P'.length (m + (j - i)) i f _ wr hbig hown (by omega) (by omega)
      simp only [Int.natCast_add] at hs
      have hsp : P' ++ (X' ++ (Y' ++ B')) = P' ++ (X' ++ (Y'.take (j - i) ++ (Y'.drop (j - i) ++ B'))) := by rw [← List.append_assoc (Y'.take _), List.take_append_drop]
      have HS := Lib.hid hs
      clear hs hown
      go_wp2_with fail
      refine HS.out.mono ?_
      rintro e w2 ⟨⟨v, rfl⟩, L, hL, hown2, hgr2⟩
      rw [hsp] at hL
      have hL2 := hL.app rfl l3 (by simp [l4]; omega) (by simp [l4]; omega)
      subst hL2
      have HE : Hid ((∃ P' X' Y' B', P'.length + X'.length = m ∧ P' ++ (Y' ++ (X' ++ B')) = P ++ (Y ++ (X ++ B)) ∧ P'.length + (X'.length + (Y'.length + B'.length)) = n ∧ X'.length = i ∧ Y'.length = j - i ∧ w2.ownsRow base 83 3 (.slice A n c) n (eList eUs (P' ++ (X' ++ (Y' ++ B'))))) ∧ w.grownBy w2 (Value.slice A n c).ownBlock) :=
        ⟨⟨P', Y'.drop (j - i), Y'.take (j - i), X' ++ B', by simp; omega, by rw [← HT.out]; rw [← List.append_assoc (Y'.take _), List.take_append_drop], by simp; omega, by simp; omega, by simp; omega, hown2⟩, grown_tr HG.out hgr2⟩
      clear hL hown2 hgr2 hsp
      go_wp2
      go_roundw
      case rel => exact ⟨i, j - i, hi, by omega, rfl, by go_num, HE⟩
      case measure => simp [intOf]; omega
    · subst hij
      have hs := swapU_any A n c base P'.length m i f _ wr hbig hown (by omega) (by omega)
      have HS := Lib.hid hs
      clear hs hown
      go_wp2_with fail
      refine HS.out.mono ?_
      rintro e w2 ⟨⟨v, rfl⟩, L, hL, hown2, hgr2⟩
      have hL2 := SwL.app (M := []) (by simpa using hL) rfl l3 l4 (by simp; omega)
      subst hL2
      have HE := Lib.hid (And.intro hown2 (grown_tr HG.out hgr2))
      clear hL hown2 hgr2
      go_wp2
      go_end0
      refine ⟨⟨_, rfl⟩, ?_, HE.out.2⟩
      rw [← HT.out]
      exact HE.out.1
    · have b1 : (j : Int) < (i : Int) := by omega
      have b2 : ¬ (i : Int) = (j : Int) := by omega
      have e3 : (i : Int) - (j : Int) = ((i - j : Nat) : Int) := by omega
      have hs := swapU_any A n c base P'.length m j f _ wr hbig hown (by omega) (by omega)
      have hsp : P' ++ (X' ++ (Y' ++ B')) = P' ++ (X'.take j ++ (X'.drop j ++ (Y' ++ B'))) := by rw [← List.append_assoc (X'.take _), List.take_append_drop]
      have HS := Lib.hid hs
      clear hs hown
      go_wp2_with fail
      refine HS.out.mono ?_
      rintro e w2 ⟨⟨v, rfl⟩, L, hL, hown2, hgr2⟩
      rw [hsp] at hL
      have hL2 := hL.app rfl (by simp; omega) l4 (by simp; omega)
      subst hL2
      have HE : Hid ((∃ P' X' Y' B', P'.length + X'.length = m ∧ P' ++ (Y' ++ (X' ++ B')) = P ++ (Y ++ (X ++ B)) ∧ P'.length + (X'.length + (Y'.length + B'.length)) = n ∧ X'.length = i - j ∧ Y'.length = j ∧ w2.ownsRow base 83 3 (.slice A n c) n (eList eUs (P' ++ (X' ++ (Y' ++ B'))))) ∧ w.grownBy w2 (Value.slice A n c).ownBlock) :=
        ⟨⟨P' ++ Y', X'.drop j, X'.take j, B', by simp; omega, by rw [← HT.out, List.append_assoc, ← List.append_assoc (X'.take _), List.take_append_drop], by simp; omega, by simp; omega, by simp; omega, by rw [List.append_assoc]; exact hown2⟩, grown_tr HG.out hgr2⟩
      clear hL hown2 hgr2 hsp
      go_wp2
      go_roundw
      case rel => exact ⟨i - j, j, by omega, hj, by go_num, rfl, HE⟩
      case measure => simp [intOf]; omega
end Go.Proofs.Ytdjfkehbknbocaa

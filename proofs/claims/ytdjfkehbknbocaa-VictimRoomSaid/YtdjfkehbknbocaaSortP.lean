/- The plain law of the merge in place: two sorted runs cut at fitting places. No program in sight. -/
import Derived.Test.YtdjfkehbknbocaaSortO
namespace Go.Proofs.Ytdjfkehbknbocaa
open Go
set_option linter.unusedSimpArgs false
set_option linter.unusedVariables false

section
variable {α : Type} {c : α → α → Int} {x : Nat → α}
theorem srt_lt {L : List Nat} (h : Srt c x L) {i j a b : Nat} (hij : i < j) (ha : L[i]? = some a) (hb : L[j]? = some b) : pre c x a b := by
  obtain ⟨h1, rfl⟩ := List.getElem?_eq_some_iff.1 ha
  obtain ⟨h2, rfl⟩ := List.getElem?_eq_some_iff.1 hb
  exact List.pairwise_iff_getElem.1 h i j h1 h2 hij
theorem srt_take {L : List Nat} (h : Srt c x L) (k : Nat) : Srt c x (L.take k) := List.Pairwise.sublist (List.take_sublist k L) h
theorem srt_drop {L : List Nat} (h : Srt c x L) (k : Nat) : Srt c x (L.drop k) := List.Pairwise.sublist (List.drop_sublist k L) h
/-- All of one run's beginning ahead of all of the other one's end. -/
theorem pre_cross (h : CmpOK c) {L R : List Nat} (hL : Srt c x L) (hR : Srt c x R) (k d : Nat) (hk : k ≤ L.length) (hc : ∀ a b, 0 < k → L[k - 1]? = some a → R[d]? = some b → pre c x a b) : ∀ a ∈ L.take k, ∀ b ∈ R.drop d, pre c x a b := by
  intro a ha b hb
  obtain ⟨i, hi⟩ := List.mem_iff_getElem?.1 ha
  obtain ⟨j, hj⟩ := List.mem_iff_getElem?.1 hb
  rw [List.getElem?_take] at hi
  split at hi
  · rename_i hik
    rw [List.getElem?_drop] at hj
    have hdl : d + j < R.length := (List.getElem?_eq_some_iff.1 hj).1
    have h1 := hc (L[k - 1]'(by omega)) (R[d]'(by omega)) (by omega) (List.getElem?_eq_getElem (by omega)) (List.getElem?_eq_getElem (by omega))
    have h2 : pre c x a (R[d]'(by omega)) := by
      by_cases e : i = k - 1
      · subst e
        rw [List.getElem?_eq_getElem (by omega)] at hi
        injection hi with hi
        rw [← hi]
        exact h1
      · exact pre_trans h (srt_lt hL (show i < k - 1 by omega) hi (List.getElem?_eq_getElem (by omega))) h1
    by_cases e : j = 0
    · subst e
      rw [Nat.add_zero, List.getElem?_eq_getElem (by omega)] at hj
      injection hj with hj
      rw [← hj]
      exact h2
    · exact pre_trans h h2 (srt_lt hR (show d < d + j by omega) (List.getElem?_eq_getElem (by omega)) hj)
  · cases hi
/-- Both halves merged: all is. -/
theorem srt_sym (h : CmpOK c) {L R M1 M2 : List Nat} (hL : Srt c x L) (hR : Srt c x R) {k d : Nat} (hk : k ≤ L.length) (hd : d ≤ R.length)
    (h1 : ∀ a b, 0 < k → L[k - 1]? = some a → R[d]? = some b → pre c x a b) (h2 : ∀ a b, 0 < d → R[d - 1]? = some a → L[k]? = some b → pre c x a b)
    (p1 : M1.Perm (L.take k ++ R.take d)) (s1 : Srt c x M1) (p2 : M2.Perm (L.drop k ++ R.drop d)) (s2 : Srt c x M2) : (M1 ++ M2).Perm (L ++ R) ∧ Srt c x (M1 ++ M2) := by
  constructor
  · refine (p1.append p2).trans ?_
    have e : L ++ R = L.take k ++ (L.drop k ++ (R.take d ++ R.drop d)) := by rw [List.take_append_drop, ← List.append_assoc, List.take_append_drop]
    rw [e, List.append_assoc]
    refine List.Perm.append_left _ ?_
    rw [← List.append_assoc, ← List.append_assoc]
    exact List.Perm.append_right _ List.perm_append_comm
  · refine srt_app s1 s2 fun a ha b hb => ?_
    have ha := p1.mem_iff.1 ha
    have hb := p2.mem_iff.1 hb
    have hLL : (L.take k ++ L.drop k).Pairwise (pre c x) := by rw [List.take_append_drop]; exact hL
    have hRR : (R.take d ++ R.drop d).Pairwise (pre c x) := by rw [List.take_append_drop]; exact hR
    rcases List.mem_append.1 ha with ha | ha <;> rcases List.mem_append.1 hb with hb | hb
    · exact (List.pairwise_append.1 hLL).2.2 a ha b hb
    · exact pre_cross h hL hR k d hk h1 a ha b hb
    · exact pre_cross h hR hL d k hd h2 a ha b hb
    · exact (List.pairwise_append.1 hRR).2.2 a ha b hb
/-- One element put into its place in a run behind it. -/
theorem srt_ins (h : CmpOK c) {R : List Nat} {l : Nat} (hR : Srt c x R) {k : Nat} (hk : k ≤ R.length)
    (h1 : ∀ a, 0 < k → R[k - 1]? = some a → pre c x a l) (h2 : ∀ b, R[k]? = some b → pre c x l b) : Srt c x (R.take k ++ (l :: R.drop k)) := by
  have a1 := pre_cross h hR (List.pairwise_singleton (pre c x) l) k 0 hk (fun a b hp ha hb => by
    simp at hb
    rw [← hb]
    exact h1 a hp ha)
  have a2 := pre_cross h (List.pairwise_singleton (pre c x) l) hR 1 k (by simp) (fun a b hp ha hb => by
    simp at ha
    rw [← ha]
    exact h2 b hb)
  refine List.pairwise_append.2 ⟨srt_take hR k, List.pairwise_cons.2 ⟨fun b hb => a2 l (by simp) b hb, srt_drop hR k⟩, fun a ha b hb => ?_⟩
  rcases List.mem_cons.1 hb with rfl | hb
  · exact a1 a ha b (by simp)
  · have hRR : (R.take k ++ R.drop k).Pairwise (pre c x) := by rw [List.take_append_drop]; exact hR
    exact (List.pairwise_append.1 hRR).2.2 a ha b hb
theorem perm_ins (R : List Nat) (l k : Nat) : (R.take k ++ (l :: R.drop k)).Perm ([l] ++ R) := by
  refine List.perm_middle.trans ?_
  rw [List.take_append_drop]
  exact List.Perm.refl _
theorem perm_ins' (R : List Nat) (l k : Nat) : (R.take k ++ (l :: R.drop k)).Perm (R ++ [l]) := (perm_ins R l k).trans List.perm_append_comm
end
theorem mid_wrap (i j : Nat) (h : i + j ≤ 4000000000) : (i + j) / 2 ≤ 4000000000 := by omega
end Go.Proofs.Ytdjfkehbknbocaa

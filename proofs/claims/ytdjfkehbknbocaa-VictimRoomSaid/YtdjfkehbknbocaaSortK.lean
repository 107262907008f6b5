/- The rank of a place by a comparison; the counting sort comes to the sorted list. No program in sight. -/
import Derived.Test.YtdjfkehbknbocaaSortP
namespace Go.Proofs.Ytdjfkehbknbocaa
open Go
set_option linter.unusedSimpArgs false
set_option linter.unusedVariables false

section
variable {α : Type} (c : α → α → Int) (x : Nat → α)
def preB (k i : Nat) : Bool := decide (c (x k) (x i) < 0) || (decide (c (x k) (x i) = 0) && decide (k < i))
/-- How many of the first K places come ahead of place i. -/
def rankN (K i : Nat) : Nat := ((List.range K).filter (fun k => preB c x k i)).length
end
section
variable {α : Type} {c : α → α → Int} {x : Nat → α}
theorem preB_iff {k i : Nat} : preB c x k i = true ↔ pre c x k i := by simp [preB, pre]
theorem rankN_succ (K i : Nat) : rankN c x (K + 1) i = rankN c x K i + if preB c x K i = true then 1 else 0 := by
  unfold rankN
  rw [List.range_succ, List.filter_append, List.length_append]
  congr 1
  by_cases h : preB c x K i = true <;> simp [h]
theorem rankN_le (K i : Nat) : rankN c x K i ≤ K := by
  unfold rankN
  exact Nat.le_trans (List.length_filter_le _ _) (by simp)
theorem pre_irr (h : CmpOK c) (i : Nat) : ¬ pre c x i i := by
  unfold pre
  have := h.anti (x i) (x i)
  omega
theorem rank_of (h : CmpOK c) {n : Nat} {M : List Nat} (hM : M.Perm (List.range' 0 n)) (hS : Srt c x M) {j i : Nat} (hj : M[j]? = some i) : rankN c x n i = j := by
  obtain ⟨hjl, hji⟩ := List.getElem?_eq_some_iff.1 hj
  unfold rankN
  have hp : (List.range n).filter (fun k => preB c x k i) |>.Perm (M.filter (fun k => preB c x k i)) := (List.Perm.filter _ (by rw [List.range_eq_range']; exact hM.symm))
  rw [hp.length_eq]
  have hsp : M = M.take j ++ (i :: M.drop (j + 1)) := by
    have := List.take_append_drop j M
    rw [List.drop_eq_getElem_cons hjl, hji] at this
    exact this.symm
  have hS' := hS
  rw [hsp] at hS'
  obtain ⟨h1, h2, h3⟩ := List.pairwise_append.1 hS'
  obtain ⟨h4, h5⟩ := List.pairwise_cons.1 h2
  have e1 : (M.take j).filter (fun k => preB c x k i) = M.take j := List.filter_eq_self.2 (fun a ha => preB_iff.2 (h3 a ha i (by simp)))
  have e2 : (i :: M.drop (j + 1)).filter (fun k => preB c x k i) = [] := List.filter_eq_nil_iff.2 (fun a ha hb => by
    have hb := preB_iff.1 hb
    rcases List.mem_cons.1 ha with rfl | ha
    · exact pre_irr h _ hb
    · exact pre_irr h _ (pre_trans h hb (h4 a ha)))
  have e : M.filter (fun k => preB c x k i) = M.take j := by
    have := congrArg (List.filter (fun k => preB c x k i)) hsp
    rw [List.filter_append, e1, e2, List.append_nil] at this
    exact this
  rw [e, List.length_take]
  omega
/-- What of the sorted list is set when the places below I were looked at. -/
def Put {α : Type} (x : Nat → α) (M : List Nat) (I : Nat) (O : List α) : Prop := O.length = M.length ∧ ∀ j i : Nat, M[j]? = some i → i < I → O[j]? = some (x i)
theorem Put.zero {M : List Nat} {O : List α} (h : O.length = M.length) : Put x M 0 O := ⟨h, fun j i _ h => by omega⟩
theorem Put.succ (h : CmpOK c) {n : Nat} {M : List Nat} (hM : M.Perm (List.range' 0 n)) (hS : Srt c x M) {I : Nat} {O : List α} (hP : Put x M I O) (hI : I < n) : rankN c x n I < n ∧ Put x M (I + 1) (O.set (rankN c x n I) (x I)) := by
  have hmem : I ∈ M := hM.mem_iff.2 (by simp [List.mem_range'_1]; omega)
  obtain ⟨p, hp⟩ := List.mem_iff_getElem?.1 hmem
  have hr := rank_of h hM hS hp
  have hl : M.length = n := by have := hM.length_eq; simpa using this
  have hpl := (List.getElem?_eq_some_iff.1 hp).1
  refine ⟨by omega, by rw [List.length_set]; exact hP.1, fun j i hj hi => ?_⟩
  rw [hr, List.getElem?_set]
  by_cases e : p = j
  · subst e
    rw [hp] at hj
    injection hj with hj
    subst hj
    have := hP.1
    rw [if_pos rfl, if_pos (by omega)]
  · rw [if_neg e]
    refine hP.2 j i hj ?_
    rcases Nat.lt_or_ge i I with h1 | h1
    · exact h1
    · have : i = I := by omega
      subst this
      have hr2 := rank_of h hM hS hj
      omega
theorem Put.done {n : Nat} {M : List Nat} (hM : M.Perm (List.range' 0 n)) {O : List α} (hP : Put x M n O) : O = M.map x := by
  refine List.ext_getElem? fun j => ?_
  rw [List.getElem?_map]
  by_cases hj : j < M.length
  · have hm : M[j] ∈ List.range' 0 n := hM.mem_iff.1 (List.getElem_mem hj)
    rw [List.getElem?_eq_getElem hj]
    exact hP.2 j _ (List.getElem?_eq_getElem hj) (by simpa [List.mem_range'_1] using hm)
  · have h1 := hP.1
    rw [List.getElem?_eq_none (by omega), List.getElem?_eq_none (by omega)]
    rfl
end
end Go.Proofs.Ytdjfkehbknbocaa

/- Sorted runs of one length, one behind the other: what the passes of a stable sort keep. No program in sight. -/
import Derived.Test.YtdjfkehbknbocaaSortP
namespace Go.Proofs.Ytdjfkehbknbocaa
open Go
set_option linter.unusedSimpArgs false
set_option linter.unusedVariables false

section
variable {α : Type} (c : α → α → Int) (x : Nat → α) (s : Nat)
/-- Runs of s places each, from lo on. -/
inductive Full : Nat → Nat → List Nat → Prop
  | nil (lo : Nat) : Full lo lo []
  | cons {lo hi : Nat} {M Q : List Nat} : M.Perm (List.range' lo s) → Srt c x M → Full (lo + s) hi Q → Full lo hi (M ++ Q)
/-- The same, the last one perhaps shorter. -/
inductive Runs (n : Nat) : Nat → List Nat → Prop
  | nil : Runs n n []
  | last {lo : Nat} {M : List Nat} : lo < n → n < lo + s → M.Perm (List.range' lo (n - lo)) → Srt c x M → Runs n lo M
  | cons {lo : Nat} {M Q : List Nat} : lo + s ≤ n → M.Perm (List.range' lo s) → Srt c x M → Runs n (lo + s) Q → Runs n lo (M ++ Q)
end
section
variable {α : Type} {c : α → α → Int} {x : Nat → α} {s n : Nat}
theorem Full.snoc {lo hi : Nat} {Q M : List Nat} (h : Full c x s lo hi Q) (hM : M.Perm (List.range' hi s)) (hS : Srt c x M) : Full c x s lo (hi + s) (Q ++ M) := by
  induction h with
  | nil lo => simpa using Full.cons (Q := []) hM hS (Full.nil (lo + s))
  | cons h1 h2 _ ih => rw [List.append_assoc]; exact Full.cons h1 h2 (ih hM)
theorem Full.len {lo hi : Nat} {Q : List Nat} (h : Full c x s lo hi Q) : lo + Q.length = hi := by
  induction h with
  | nil lo => simp
  | cons h1 _ _ ih =>
    have := h1.length_eq
    simp at this ⊢
    omega
theorem Full.le {lo hi : Nat} {Q : List Nat} (h : Full c x s lo hi Q) : lo ≤ hi := by have := h.len; omega
theorem Full.app {lo hi : Nat} {Q R : List Nat} (h : Full c x s lo hi Q) (hn : hi ≤ n) (hR : Runs c x s n hi R) : Runs c x s n lo (Q ++ R) := by
  induction h with
  | nil lo => exact hR
  | cons h1 h2 h3 ih =>
    rw [List.append_assoc]
    exact Runs.cons (Nat.le_trans h3.le hn) h1 h2 (ih hn hR)
theorem Runs.le {lo : Nat} {Q : List Nat} (h : Runs c x s n lo Q) : lo ≤ n := by
  cases h <;> omega
theorem Runs.len {lo : Nat} {Q : List Nat} (h : Runs c x s n lo Q) : lo + Q.length = n := by
  induction h with
  | nil => simp
  | last h1 h2 h3 _ =>
    have := h3.length_eq
    simp at this
    omega
  | cons h0 h1 _ _ ih =>
    have := h1.length_eq
    simp at this ⊢
    omega
/-- A whole run off the front. -/
theorem Runs.take {lo : Nat} {Q : List Nat} (h : Runs c x s n lo Q) (hlo : lo + s ≤ n) (hs : 0 < s) : ∃ M Q', Q = M ++ Q' ∧ M.Perm (List.range' lo s) ∧ Srt c x M ∧ Runs c x s n (lo + s) Q' := by
  cases h with
  | nil => omega
  | last => omega
  | cons h0 h1 h2 h3 => exact ⟨_, _, rfl, h1, h2, h3⟩
/-- The rest, shorter than a run. -/
theorem Runs.short {lo : Nat} {Q : List Nat} (h : Runs c x s n lo Q) (hlo : n < lo + s) : Q.Perm (List.range' lo (n - lo)) ∧ Srt c x Q := by
  cases h with
  | nil => simp
  | last h1 h2 h3 h4 => exact ⟨h3, h4⟩
  | cons => omega
theorem Runs.of_short {lo : Nat} {M : List Nat} (hlo : n < lo + s) (hle : lo ≤ n) (hM : M.Perm (List.range' lo (n - lo))) (hS : Srt c x M) : Runs c x s n lo M := by
  rcases Nat.lt_or_ge lo n with h | h
  · exact Runs.last h hlo hM hS
  · have : lo = n := by omega
    subst this
    simp at hM
    subst hM
    exact Runs.nil
theorem perm_run {lo k l : Nat} {M M1 M2 : List Nat} (h : M.Perm (M1 ++ M2)) (h1 : M1.Perm (List.range' lo k)) (h2 : M2.Perm (List.range' (lo + k) l)) : M.Perm (List.range' lo (k + l)) := by
  refine h.trans ((h1.append h2).trans ?_)
  have e := List.range'_append (s := lo) (m := k) (n := l) (step := 1)
  rw [Nat.one_mul] at e
  rw [e]
theorem run_lt {lo k l : Nat} {M1 M2 : List Nat} (h1 : M1.Perm (List.range' lo k)) (h2 : M2.Perm (List.range' (lo + k) l)) : ∀ u ∈ M1, ∀ v ∈ M2, u < v := by
  intro u hu v hv
  have a := h1.mem_iff.1 hu
  have b := h2.mem_iff.1 hv
  simp [List.mem_range'_1] at a b
  omega
theorem range_inc (lo k : Nat) : (List.range' lo k).Pairwise (· < ·) := List.pairwise_lt_range'
theorem range_split (lo k l : Nat) : List.range' lo (k + l) = List.range' lo k ++ List.range' (lo + k) l := by
  have e := List.range'_append (s := lo) (m := k) (n := l) (step := 1)
  rw [Nat.one_mul] at e
  exact e.symm
end
end Go.Proofs.Ytdjfkehbknbocaa

/- The order on places that a comparison gives, equal elements by their place: strict and total. No program in sight. -/
import Derived.Test.YtdjfkehbknbocaaSortL
namespace Go.Proofs.Ytdjfkehbknbocaa
open Go
set_option linter.unusedSimpArgs false
set_option linter.unusedVariables false

theorem wrapN (k : Nat) (h : k ≤ 9223372036854775807) : IntKind.i64.wrap (k : Int) = (k : Int) := by
  rw [IntKind.wrap_i64]
  omega
structure CmpOK {α : Type} (c : α → α → Int) : Prop where
  anti : ∀ u v, c u v < 0 ↔ 0 < c v u
  le_lt : ∀ u v w, c u v ≤ 0 → c v w < 0 → c u w < 0
  lt_le : ∀ u v w, c u v < 0 → c v w ≤ 0 → c u w < 0
  le_le : ∀ u v w, c u v ≤ 0 → c v w ≤ 0 → c u w ≤ 0
def pre {α : Type} (c : α → α → Int) (x : Nat → α) (i j : Nat) : Prop := c (x i) (x j) < 0 ∨ (c (x i) (x j) = 0 ∧ i < j)
section
variable {α : Type} {c : α → α → Int} {x : Nat → α}
theorem CmpOK.zero (h : CmpOK c) {u v : α} (e : c u v = 0) : c v u = 0 := by
  have h1 := h.anti u v
  have h2 := h.anti v u
  omega
theorem pre_trans (h : CmpOK c) {i j k : Nat} (h1 : pre c x i j) (h2 : pre c x j k) : pre c x i k := by
  unfold pre at *
  rcases h1 with h1 | ⟨h1, l1⟩
  · rcases h2 with h2 | ⟨h2, l2⟩
    · exact .inl (h.lt_le _ _ _ h1 (by omega))
    · exact .inl (h.lt_le _ _ _ h1 (by omega))
  · rcases h2 with h2 | ⟨h2, l2⟩
    · exact .inl (h.le_lt _ _ _ (by omega) h2)
    · refine .inr ⟨?_, by omega⟩
      have a := h.le_le _ _ _ (show c (x i) (x j) ≤ 0 by omega) (show c (x j) (x k) ≤ 0 by omega)
      have b := h.le_le _ _ _ (show c (x k) (x j) ≤ 0 by have := h.zero h2; omega) (show c (x j) (x i) ≤ 0 by have := h.zero h1; omega)
      have d := h.anti (x i) (x k)
      have d2 := h.anti (x k) (x i)
      omega
theorem pre_total (h : CmpOK c) {i j : Nat} (hne : i ≠ j) : pre c x i j ∨ pre c x j i := by
  unfold pre
  have h1 := h.anti (x i) (x j)
  have h2 := h.anti (x j) (x i)
  have h3 := h.zero (u := x i) (v := x j)
  rcases Int.lt_trichotomy (c (x i) (x j)) 0 with e | e | e
  · exact .inl (.inl e)
  · have := h3 e
    rcases Nat.lt_or_gt_of_ne hne with l | l
    · exact .inl (.inr ⟨e, l⟩)
    · exact .inr (.inr ⟨this, l⟩)
  · exact .inr (.inl (h2.2 e))
/-- What the program's test says: the later place is compared with the earlier one. -/
theorem cmp_lt_iff (h : CmpOK c) {i j : Nat} (hij : i < j) : c (x j) (x i) < 0 ↔ pre c x j i := by
  unfold pre
  constructor
  · exact fun e => .inl e
  · rintro (e | ⟨_, l⟩)
    · exact e
    · omega
theorem not_lt_pre (h : CmpOK c) {i j : Nat} (hij : i < j) (hn : ¬ c (x j) (x i) < 0) : pre c x i j := by
  rcases pre_total h (x := x) (show i ≠ j by omega) with e | e
  · exact e
  · exact absurd ((cmp_lt_iff h hij).2 e) hn
end
abbrev Srt {α : Type} (c : α → α → Int) (x : Nat → α) (p : List Nat) : Prop := p.Pairwise (pre c x)
section
variable {α : Type} {c : α → α → Int} {x : Nat → α}
/-- One element put into its place. -/
theorem srt_insert (h : CmpOK c) {U V : List Nat} {e : Nat} (hs : Srt c x (U ++ V)) (hV : ∀ v ∈ V, pre c x e v) (hU : ∀ u, U.getLast? = some u → pre c x u e) : Srt c x (U ++ (e :: V)) := by
  obtain ⟨h1, h2, h3⟩ := List.pairwise_append.1 hs
  refine List.pairwise_append.2 ⟨h1, List.pairwise_cons.2 ⟨hV, h2⟩, fun a ha b hb => ?_⟩
  rcases List.mem_cons.1 hb with rfl | hb
  · rcases List.eq_nil_or_concat U with rfl | ⟨U', u, rfl⟩
    · cases ha
    · have hu := hU u (by simp)
      simp only [List.concat_eq_append, List.mem_append, List.mem_singleton] at ha
      rcases ha with ha | rfl
      · have h4 := List.pairwise_append.1 (by simpa [List.concat_eq_append] using h1)
        exact pre_trans h (h4.2.2 a ha u (by simp)) hu
      · exact hu
  · exact h3 a ha b hb
/-- Two sorted runs, all of one ahead of all of the other. -/
theorem srt_app {M N : List Nat} (h1 : Srt c x M) (h2 : Srt c x N) (h3 : ∀ a ∈ M, ∀ b ∈ N, pre c x a b) : Srt c x (M ++ N) := List.pairwise_append.2 ⟨h1, h2, h3⟩
end
end Go.Proofs.Ytdjfkehbknbocaa

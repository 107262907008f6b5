/- A ranked order is the only one; what is gathered, reckoned; the example. Plainly. -/
import Derived.Test.YtdjfkehbknbocaaVictP
namespace Go.Proofs.Ytdjfkehbknbocaa
open Go
set_option linter.unusedSimpArgs false
set_option linter.unusedVariables false

theorem srt_unique {α : Type} {c : α → α → Int} {x : Nat → α} (h : CmpOK c) {n : Nat} {M M' : List Nat} (p : M.Perm (List.range' 0 n)) (s : Srt c x M) (p' : M'.Perm (List.range' 0 n)) (s' : Srt c x M') : M = M' := by
  have l1 : M.length = n := by have := p.length_eq; simpa using this
  have l2 : M'.length = n := by have := p'.length_eq; simpa using this
  refine List.ext_getElem? fun j => ?_
  by_cases hj : j < n
  · have h1 : M[j]? = some (M[j]'(by omega)) := List.getElem?_eq_getElem _
    have r1 := rank_of h p s h1
    have hm : M[j]'(by omega) ∈ M' := p'.mem_iff.2 (p.mem_iff.1 (List.getElem_mem _))
    obtain ⟨q, hq⟩ := List.mem_iff_getElem?.1 hm
    have r2 := rank_of h p' s' hq
    rw [h1, ← hq]
    congr 1
    omega
  · rw [List.getElem?_eq_none (by omega), List.getElem?_eq_none (by omega)]
theorem RankedBy.unique {lines : Int} {xs : List Us} {M M' : List Nat} (h : RankedBy lines xs M) (h' : RankedBy lines xs M') : M = M' := srt_unique cfU_ok h.perm h.srt h'.perm h'.srt
def goesB (lines : Int) (pre : List Us) (x : Us) : Bool := decide (pre.length ≠ 4) && (decide (pre.length = 0) || decide (sumV pre + x.valid ≤ 3 * lines))
theorem goesB_iff {lines : Int} {pre : List Us} {x : Us} : goesB lines pre x = true ↔ goesG lines pre x := by
  simp only [goesB, goesG, Bool.and_eq_true, Bool.or_eq_true, decide_eq_true_eq]
  constructor
  · rintro ⟨h1, h2⟩
    exact ⟨h1, fun h => h2.resolve_left (by omega)⟩
  · rintro ⟨h1, h2⟩
    refine ⟨h1, ?_⟩
    rcases Nat.eq_zero_or_pos pre.length with h | h
    · exact .inl h
    · exact .inr (h2 h)
/-- What is gathered, behind what was. -/
def gatF (lines : Int) : List Us → List Us → List Us
  | pre, [] => pre
  | pre, x :: r => if goesB lines pre x = true then gatF lines (pre ++ [x]) r else pre
theorem gatF_of {lines : Int} : ∀ (t r pre : List Us), GPre lines (pre ++ t) → (r = [] ∨ ∃ x r', r = x :: r' ∧ ¬ goesG lines (pre ++ t) x) → gatF lines pre (t ++ r) = pre ++ t
  | [], r, pre, _, hs => by
    rw [List.append_nil] at hs ⊢
    rcases hs with rfl | ⟨x, r', rfl, hn⟩
    · rfl
    · show (if goesB lines pre x = true then _ else pre) = pre
      rw [if_neg (fun h => hn (goesB_iff.1 h))]
  | y :: t, r, pre, hg, hs => by
    have hgy : goesG lines pre y := by
      have := hg pre.length y (by rw [List.getElem?_append_right (Nat.le_refl _)]; simp)
      rwa [List.take_append_of_le_length (Nat.le_refl _), List.take_length] at this
    show (if goesB lines pre y = true then gatF lines (pre ++ [y]) (t ++ r) else pre) = _
    rw [if_pos (goesB_iff.2 hgy), gatF_of t r (pre ++ [y]) (by rw [List.append_assoc]; exact hg) (by rw [List.append_assoc]; exact hs), List.append_assoc]
    rfl
theorem Gath.eq {lines : Int} {Z T : List Us} (h : Gath lines Z T) : T = gatF lines [] Z := by
  obtain ⟨r, rfl⟩ := h.pre
  have := gatF_of (lines := lines) T r [] (by simpa using h.go) (by
    rcases h.stop with e | ⟨x, ⟨r', e⟩, hn⟩
    · left
      have := congrArg List.length e
      simp at this
      exact this
    · right
      rw [List.append_assoc] at e
      have e2 := List.append_cancel_left e
      exact ⟨x, r', by rw [← e2]; rfl, by simpa using hn⟩)
  simpa using this.symm
/-- The example. -/
def exL : List Us := [⟨1, 1, 12⟩, ⟨2, 2, 3⟩, ⟨3, 1, 9⟩, ⟨4, 1, 14⟩]
theorem exL10 : RankedBy 10 exL [1, 2, 0, 3] := ⟨by decide +kernel, (show List.Pairwise (fun i j => preB cfU (uOf (exL.filter (mayU 10))) i j = true) [1, 2, 0, 3] by decide +kernel).imp preB_iff.1⟩
theorem exL12 : RankedBy 12 exL [1, 2, 0, 3] := ⟨by decide +kernel, (show List.Pairwise (fun i j => preB cfU (uOf (exL.filter (mayU 12))) i j = true) [1, 2, 0, 3] by decide +kernel).imp preB_iff.1⟩
theorem ex_gath {M : List Nat} {T : List Us} (h : RankedBy 10 exL M) (hg : Gath 10 (zOf 10 exL M) T) : gOut T = [2, 3, 1] := by
  have := h.unique exL10
  subst this
  rw [hg.eq]
  decide +kernel
theorem ex_trip10 {M : List Nat} (h : RankedBy 10 exL M) : tripleF 10 ((zOf 10 exL M).filter slcB) = [] := by
  have := h.unique exL10
  subst this
  decide +kernel
theorem ex_trip12 {M : List Nat} (h : RankedBy 12 exL M) : tripleF 12 ((zOf 12 exL M).filter slcB) = [3, 1, 4] := by
  have := h.unique exL12
  subst this
  decide +kernel
/-- Uses of blocks that are all different. -/
def ownF (lines : Int) (xs : List Us) : List Us := (xs.take 64).mapIdx fun i u => ⟨(i : Int), 1 + u.mode % 2, 1 + u.valid % (3 * lines)⟩
theorem ownF_snoc (lines : Int) {xs : List Us} {k : Nat} {x : Us} (hx : xs[k]? = some x) : ((xs.take (k + 1)).mapIdx fun i u => (⟨(i : Int), 1 + u.mode % 2, 1 + u.valid % (3 * lines)⟩ : Us)) = ((xs.take k).mapIdx fun i u => (⟨(i : Int), 1 + u.mode % 2, 1 + u.valid % (3 * lines)⟩ : Us)) ++ [⟨(k : Int), 1 + x.mode % 2, 1 + x.valid % (3 * lines)⟩] := by
  have hk := (List.getElem?_eq_some_iff.1 hx).1
  rw [List.take_add_one, hx, Option.toList_some, List.mapIdx_concat, List.length_take, Nat.min_eq_left (by omega)]
end Go.Proofs.Ytdjfkehbknbocaa

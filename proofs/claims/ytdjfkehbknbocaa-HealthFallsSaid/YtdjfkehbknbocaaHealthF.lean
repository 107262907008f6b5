/- Plain facts: with one count greater, or one block worn, no more is left. -/
import Derived.Test.YtdjfkehbknbocaaHealthP
namespace Go.Proofs.Ytdjfkehbknbocaa
open Go.RowKit
set_option linter.unusedSimpArgs false
set_option linter.unusedVariables false

def Fits' (x : Int) : Prop := -9223372036854775808 ≤ x ∧ x ≤ 9223372036854775807
theorem g3_sum (l : List Int) (k : Nat) (hk : k ≤ l.length) : (g3 l k).all = (l.take k).sum := by
  induction k with
  | zero => simp [g3]
  | succ k ih =>
    simp only [g3, ih (by omega)]
    rw [List.take_add_one, List.sum_append, List.getD_eq_getElem?_getD, List.getElem?_eq_getElem (by omega)]
    simp
theorem goods_set (cs : List Int) : ∀ (bs : List Bool) (j : Nat) (x c : Int), cs[j]? = some x → clampC x ≤ clampC c → (goods (cs.set j c) bs).length = (goods cs bs).length ∧ (goods cs bs).sum ≤ (goods (cs.set j c) bs).sum := by
  induction cs with
  | nil => intro bs j x c hx _; simp at hx
  | cons y cs ih =>
    intro bs j x c hx hc
    cases bs with
    | nil => cases j <;> simp [goods]
    | cons b bs =>
      cases j with
      | zero =>
        simp at hx; subst hx
        cases b <;> simp [goods]; omega
      | succ j =>
        have h := ih bs j x c (by simpa using hx) hc
        cases b <;> simp [goods] <;> omega
theorem goods_gone (cs : List Int) : ∀ (bs : List Bool) (j : Nat), (goods cs (bs.set j true)).length ≤ (goods cs bs).length := by
  induction cs with
  | nil => intro bs j; simp [goods]
  | cons y cs ih =>
    intro bs j
    cases bs with
    | nil => simp
    | cons b bs =>
      cases j with
      | zero => cases b <;> simp [goods]
      | succ j => have := ih bs j; cases b <;> simp [goods] <;> omega
theorem fg_all (cs : List Int) (bs : List Bool) (h : cs.length = bs.length) : FG (Hs.zero.fold cs bs) (goods cs bs) cs.length := by
  have hf := fold_goods cs bs h cs.length (Nat.le_refl _)
  rwa [List.take_of_length_le (Nat.le_refl _), List.take_of_length_le (by omega)] at hf
theorem grade_mono (a h : Hs) (h1 : a.left = h.left) (h2 : a.worn = h.worn) (h3 : a.life ≤ h.life) : h.grade ≤ a.grade := by
  unfold Hs.grade; rw [h1, h2]; (repeat' split) <;> omega
theorem sum_nonneg (l : List Int) (h : ∀ x ∈ l, 0 ≤ x ∧ x ≤ 16777215) : 0 ≤ l.sum := by
  induction l with
  | nil => simp
  | cons x l ih => have := h x (by simp); have := ih (fun y hy => h y (by simp [hy])); simp; omega
theorem falls_more (cs : List Int) (bs : List Bool) (h : cs.length = bs.length) (j : Nat) (x c : Int) (hx : cs[j]? = some x) (hc : clampC x ≤ clampC c) (sp li : Int) (hl : 1 ≤ li) :
    ((Hs.zero.fold (cs.set j c) bs).ends sp li).life ≤ ((Hs.zero.fold cs bs).ends sp li).life ∧ ((Hs.zero.fold cs bs).ends sp li).grade ≤ ((Hs.zero.fold (cs.set j c) bs).ends sp li).grade := by
  obtain ⟨a1, a2, _, _, a5, a6⟩ := fg_all cs bs h
  obtain ⟨b1, b2, _, _, b5, b6⟩ := fg_all (cs.set j c) bs (by simpa using h)
  rw [g3_sum _ _ (Nat.le_refl _), List.take_of_length_le (Nat.le_refl _)] at a5 b5
  obtain ⟨s1, s2⟩ := goods_set cs bs j x c hx hc
  have hn := sum_nonneg _ (goods_bd cs bs)
  rw [s1] at b1 b2
  rw [List.length_set] at b2
  rw [← a5, ← b5] at s2
  rw [← a5] at hn
  generalize Hs.zero.fold cs bs = s at *
  generalize Hs.zero.fold (cs.set j c) bs = t at *
  have hm : (if 0 < s.good then s.all / s.good else s.mean) ≤ (if 0 < t.good then t.all / t.good else t.mean) := by
    rw [a1, b1, a6, b6]
    by_cases hp : 0 < ((goods cs bs).length : Int)
    · rw [if_pos hp, if_pos hp]
      exact Int.ediv_le_ediv hp s2
    · rw [if_neg hp, if_neg hp]; exact Int.le_refl _
  have hlife : (t.ends sp li).life ≤ (s.ends sp li).life := by
    simp only [Hs.ends]
    have : 100 * (if 0 < s.good then s.all / s.good else s.mean) / li ≤ 100 * (if 0 < t.good then t.all / t.good else t.mean) / li := Int.ediv_le_ediv (by omega) (by omega)
    generalize 100 * (if 0 < s.good then s.all / s.good else s.mean) / li = u at *
    generalize 100 * (if 0 < t.good then t.all / t.good else t.mean) / li = v at *
    unfold mx; split <;> split <;> omega
  refine ⟨hlife, grade_mono _ _ ?_ ?_ hlife⟩
  · simp only [Hs.ends, a2, b2]
  · simp only [Hs.ends, a2, b2]
theorem falls_gone (cs : List Int) (bs : List Bool) (h : cs.length = bs.length) (j : Nat) (sp li : Int) :
    ((Hs.zero.fold cs (bs.set j true)).ends sp li).left ≤ ((Hs.zero.fold cs bs).ends sp li).left ∧ ((Hs.zero.fold cs (bs.set j true)).ends sp li).good ≤ ((Hs.zero.fold cs bs).ends sp li).good := by
  obtain ⟨a1, a2, _, _, _, _⟩ := fg_all cs bs h
  obtain ⟨b1, b2, _, _, _, _⟩ := fg_all cs (bs.set j true) (by simpa using h)
  have := goods_gone cs bs j
  simp only [Hs.ends, a1, a2, b1, b2]
  unfold mx
  refine ⟨?_, by omega⟩
  split <;> split <;> omega

theorem tmod_neg {x n : Int} (hn : 0 < n) (h : x.tmod n < 0) : x.tmod n + n = x % n := by
  have e := Int.tmod_eq_emod (a := x) (b := n)
  have h1 := Int.emod_nonneg x (by omega : n ≠ 0)
  split at e <;> omega
theorem tmod_pos {x n : Int} (hn : 0 < n) (h : ¬ x.tmod n < 0) : x.tmod n = x % n := by
  have e := Int.tmod_eq_emod (a := x) (b := n)
  have h1 := Int.emod_lt_of_pos x hn
  split at e <;> omega

theorem below_any (x n : Int) (hx : Fits' x) (hn : 0 < n) (hn' : n ≤ 1000000) (w : World) : Calls Try.prog 25 #[.int .i64 x, .int .i64 n] w fun e w' => e = .returned (.int .i64 (x % n)) ∧ w = w' := by
  have b1 := Int.tmod_lt_of_pos x hn
  have b2 : -n < x.tmod n := by
    have e := Int.tmod_eq_emod (a := x) (b := n)
    have h1 := Int.emod_nonneg x (by omega : n ≠ 0)
    split at e <;> omega
  obtain ⟨f1, f2⟩ := hx
  by_cases h : x.tmod n < 0
  · have hr := tmod_neg hn h
    have HR := Lib.hid hr
    clear hr
    go_enter Try.func25, Try.ntmps25
    go_wp2
    go_ret
    exact ⟨by rw [← HR.out]; rfl, rfl⟩
  · have hr := tmod_pos hn h
    have HR := Lib.hid hr
    clear hr
    go_enter Try.func25, Try.ntmps25
    go_wp2
    go_ret
    exact ⟨by rw [← HR.out]; rfl, rfl⟩
end Go.Proofs.Ytdjfkehbknbocaa

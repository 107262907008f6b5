/- Lists for the stable sort: exchanged runs, cells set one by one. No program in sight. -/
import Derived.Test.YtdjfkehbknbocaaLib
namespace Go.Proofs.Ytdjfkehbknbocaa
open Go.RowKit
set_option linter.unusedSimpArgs false
set_option linter.unusedVariables false

/-- Where the element that comes to place q lay: two runs of m, at a and at b, exchanged. -/
def sw (a b m q : Nat) : Nat := if a ≤ q ∧ q < a + m then q - a + b else if b ≤ q ∧ q < b + m then q - b + a else q
theorem sw_zero (a b q : Nat) : sw a b 0 q = q := by unfold sw; split <;> (try split) <;> omega
theorem sw_succ {a b k q : Nat} (h1 : ¬ b + k = q) (h2 : ¬ a + k = q) : sw a b k q = sw a b (k + 1) q := by
  unfold sw
  (repeat' split) <;> omega
def SwL {α : Type} (a b m : Nat) (zs L : List α) : Prop := L.length = zs.length ∧ ∀ q : Nat, L[q]? = zs[sw a b m q]?
theorem SwL.zero {α : Type} (a b : Nat) (zs : List α) : SwL a b 0 zs zs := ⟨rfl, fun q => by rw [sw_zero]⟩
theorem SwL.succ {α : Type} {a b k : Nat} {zs L : List α} {x y : α} (h : SwL a b k zs L) (hab : a + k < b) (hb : b + k < zs.length) (hx : zs[a + k]? = some x) (hy : zs[b + k]? = some y) : SwL a b (k + 1) zs ((L.set (a + k) y).set (b + k) x) := by
  refine ⟨by simp [h.1], fun q => ?_⟩
  have hl := h.1
  rw [List.getElem?_set, List.getElem?_set]
  by_cases h1 : b + k = q
  · subst h1
    have e : sw a b (k + 1) (b + k) = a + k := by unfold sw; rw [if_neg (by omega), if_pos (by omega)]; omega
    rw [e, hx, if_pos rfl, if_pos (by simp; omega)]
  · rw [if_neg h1]
    by_cases h2 : a + k = q
    · subst h2
      have e : sw a b (k + 1) (a + k) = b + k := by unfold sw; rw [if_pos (by omega)]; omega
      rw [e, hy, if_pos rfl, if_pos (by omega)]
    · rw [if_neg h2, h.2 q, sw_succ h1 h2]
theorem SwL.a_ {α : Type} {a b k : Nat} {zs L : List α} (h : SwL a b k zs L) (hab : a + k < b) : L[a + k]? = zs[a + k]? := by
  rw [h.2]
  congr 1
  unfold sw
  rw [if_neg (by omega), if_neg (by omega)]
theorem SwL.b_ {α : Type} {a b k : Nat} {zs L : List α} (h : SwL a b k zs L) (hab : a + k < b) : L[b + k]? = zs[b + k]? := by
  rw [h.2]
  congr 1
  unfold sw
  rw [if_neg (by omega), if_neg (by omega)]
theorem SwL.app {α : Type} {A X M Y B L : List α} {a b m : Nat} (h : SwL a b m (A ++ (X ++ (M ++ (Y ++ B)))) L) (ha : A.length = a) (hx : X.length = m) (hy : Y.length = m) (hb : a + m + M.length = b) : L = A ++ (Y ++ (M ++ (X ++ B))) := by
  refine List.ext_getElem? fun q => ?_
  rw [h.2 q]
  have e : sw a b m q = if q < a then q else if q < a + m then q - a + b else if q < b then q else if q < b + m then q - b + a else q := by
    unfold sw
    (repeat' split) <;> omega
  rw [e]
  clear e
  simp only [List.getElem?_append]
  (repeat' split) <;> first | rfl | (exfalso; omega) | (congr 1; omega)
theorem own_drew {w : World} {base n : Nat} {e : TypeId} {size : Nat} {v : Value} {xs : List Value} (h : w.ownsRow base e size v n xs) : w.drew.ownsRow base e size v n xs := h
section
variable {α : Type} {en : α → List Value}
theorem eList_len {k : Nat} (hk : ∀ x, (en x).length = k) (xs : List α) : (eList en xs).length = xs.length * k := by
  induction xs with
  | nil => simp [eList]
  | cons y ys ih => simp only [eList, List.map_cons, List.flatten_cons, List.length_append, List.length_cons, hk, Nat.add_mul] at ih ⊢; omega
/-- One element's cells, set. -/
theorem eList_set {k : Nat} (hk : ∀ x, (en x).length = k) : ∀ (xs : List α) (u : Nat) (y : α) (q : Nat), u < xs.length → (eList en (xs.set u y))[q]? = if u * k ≤ q ∧ q < u * k + k then (en y)[q - u * k]? else (eList en xs)[q]?
  | [], u, y, q, h => by simp at h
  | x :: xs, 0, y, q, _ => by
    simp only [List.set_cons_zero, eList, List.map_cons, List.flatten_cons, Nat.zero_mul, Nat.zero_add, Nat.sub_zero, Nat.zero_le, true_and, List.getElem?_append, hk]
    split <;> rfl
  | x :: xs, u + 1, y, q, h => by
    have ih := eList_set hk xs u y (q - k) (by simpa using h)
    simp only [List.set_cons_succ, eList, List.map_cons, List.flatten_cons, List.getElem?_append, hk] at ih ⊢
    have e : (u + 1) * k = u * k + k := by rw [Nat.add_mul, Nat.one_mul]
    rw [e]
    by_cases h1 : q < k
    · rw [if_pos h1, if_pos h1, if_neg (by omega)]
    · rw [if_neg h1, if_neg h1, ih]
      by_cases h2 : u * k ≤ q - k ∧ q - k < u * k + k
      · rw [if_pos h2, if_pos (by omega)]
        congr 1
        omega
      · rw [if_neg h2, if_neg (by omega)]
theorem set4 (hk : ∀ x, (en x).length = 4) (xs : List α) (u : Nat) (y : α) (hu : u < xs.length) (a b c d : Value) (he : en y = [a, b, c, d]) :
    ((((eList en xs).set (u * 4) a).set (u * 4 + 1) b).set (u * 4 + 2) c).set (u * 4 + 3) d = eList en (xs.set u y) := by
  refine List.ext_getElem? fun q => ?_
  have hl := eList_len hk xs
  rw [eList_set hk xs u y q hu, he]
  simp only [List.getElem?_set, List.length_set, hl]
  have h4 : u * 4 + 4 ≤ xs.length * 4 := by omega
  by_cases h1 : u * 4 ≤ q ∧ q < u * 4 + 4
  · rw [if_pos h1]
    obtain ⟨r, hr, rfl⟩ : ∃ r, r < 4 ∧ q = u * 4 + r := ⟨q - u * 4, by omega, by omega⟩
    rw [Nat.add_sub_cancel_left]
    match r, hr with
    | 0, _ => rw [if_neg (by omega), if_neg (by omega), if_neg (by omega), if_pos (by omega), if_pos (by omega)]; rfl
    | 1, _ => rw [if_neg (by omega), if_neg (by omega), if_pos (by omega), if_pos (by omega)]; rfl
    | 2, _ => rw [if_neg (by omega), if_pos (by omega), if_pos (by omega)]; rfl
    | 3, _ => rw [if_pos (by omega), if_pos (by omega)]; rfl
  · rw [if_neg h1, if_neg (by omega), if_neg (by omega), if_neg (by omega), if_neg (by omega)]
theorem set3 (hk : ∀ x, (en x).length = 3) (xs : List α) (u : Nat) (y : α) (hu : u < xs.length) (a b c : Value) (he : en y = [a, b, c]) :
    (((eList en xs).set (u * 3) a).set (u * 3 + 1) b).set (u * 3 + 2) c = eList en (xs.set u y) := by
  refine List.ext_getElem? fun q => ?_
  have hl := eList_len hk xs
  rw [eList_set hk xs u y q hu, he]
  simp only [List.getElem?_set, List.length_set, hl]
  have h4 : u * 3 + 3 ≤ xs.length * 3 := by omega
  by_cases h1 : u * 3 ≤ q ∧ q < u * 3 + 3
  · rw [if_pos h1]
    obtain ⟨r, hr, rfl⟩ : ∃ r, r < 3 ∧ q = u * 3 + r := ⟨q - u * 3, by omega, by omega⟩
    rw [Nat.add_sub_cancel_left]
    match r, hr with
    | 0, _ => rw [if_neg (by omega), if_neg (by omega), if_pos (by omega), if_pos (by omega)]; rfl
    | 1, _ => rw [if_neg (by omega), if_pos (by omega), if_pos (by omega)]; rfl
    | 2, _ => rw [if_pos (by omega), if_pos (by omega)]; rfl
  · rw [if_neg h1, if_neg (by omega), if_neg (by omega), if_neg (by omega)]
end
end Go.Proofs.Ytdjfkehbknbocaa

/- Which of ranked uses are gathered, and which three: plainly. -/
import Derived.Test.YtdjfkehbknbocaaRank
namespace Go.Proofs.Ytdjfkehbknbocaa
open Go
set_option linter.unusedSimpArgs false
set_option linter.unusedVariables false

def sumV (l : List Us) : Int := (l.map Us.valid).sum
theorem sumV_snoc (l : List Us) (x : Us) : sumV (l ++ [x]) = sumV l + x.valid := by simp [sumV]
theorem mayU_bd {lines : Int} {u : Us} (h : mayU lines u = true) : 1 ≤ u.valid ∧ u.valid ≤ 3 * lines ∧ 1 ≤ lines ∧ (u.mode = 1 ∨ u.mode = 2) := by
  simp [mayU] at h
  omega
theorem sumV_bd {lines : Int} : ∀ {l : List Us}, (∀ u ∈ l, mayU lines u = true) → (l.length : Int) ≤ sumV l ∧ sumV l ≤ 3 * lines * l.length
  | [], _ => by simp [sumV]
  | x :: l, h => by
    have ih := sumV_bd (l := l) (fun u hu => h u (by simp [hu]))
    have hx := mayU_bd (h x (by simp))
    simp only [sumV, List.map_cons, List.sum_cons, List.length_cons] at ih ⊢
    have e : 3 * lines * ((l.length + 1 : Nat) : Int) = 3 * lines * (l.length : Int) + 3 * lines := by
      rw [Int.natCast_add, Int.mul_add]
      omega
    rw [e]
    omega
/-- Does the gathering go on with this one? -/
def goesG (lines : Int) (pre : List Us) (x : Us) : Prop := pre.length ≠ 4 ∧ (0 < pre.length → sumV pre + x.valid ≤ 3 * lines)
/-- What is gathered so far. -/
def GPre (lines : Int) (pre : List Us) : Prop := ∀ (j : Nat) (x : Us), pre[j]? = some x → goesG lines (pre.take j) x
theorem GPre.nil (lines : Int) : GPre lines [] := fun j x h => by simp at h
theorem GPre.snoc {lines : Int} {pre : List Us} {x : Us} (h : GPre lines pre) (hx : goesG lines pre x) : GPre lines (pre ++ [x]) := by
  intro j y hj
  rcases Nat.lt_or_ge j pre.length with hl | hl
  · rw [List.getElem?_append_left hl] at hj
    rw [List.take_append_of_le_length (by omega)]
    exact h j y hj
  · rw [List.getElem?_append_right hl] at hj
    have h0 : j - pre.length < 1 := by have := (List.getElem?_eq_some_iff.1 hj).1; simpa using this
    have hj0 : j = pre.length := by omega
    subst hj0
    simp at hj
    subst hj
    rw [List.take_append_of_le_length (Nat.le_refl _), List.take_length]
    exact hx
theorem GPre.le4 {lines : Int} {pre : List Us} (h : GPre lines pre) : pre.length ≤ 4 := by
  rcases Nat.lt_or_ge 4 pre.length with hl | hl
  · have := (h 4 (pre[4]'hl) (List.getElem?_eq_getElem hl)).1
    rw [List.length_take] at this
    omega
  · exact hl
structure Gath (lines : Int) (Z T : List Us) : Prop where
  pre : T <+: Z
  go : GPre lines T
  stop : T = Z ∨ ∃ x, T ++ [x] <+: Z ∧ ¬ goesG lines T x
def gOut (T : List Us) : List Int := if T.length < 2 then [] else T.map Us.block
/-- The uses of one bit a cell. -/
def slcB (u : Us) : Bool := u.mode == 1
def tripleF (lines : Int) : List Us → List Int
  | a :: b :: c :: _ => if a.valid + b.valid + c.valid ≤ 3 * lines then [a.block, b.block, c.block] else []
  | _ => []
end Go.Proofs.Ytdjfkehbknbocaa

/- The walks of cmp.Compare and cmp.Or at int; what they are. -/
import Derived.Test.YtdjfkehbknbocaaProg
import Derived.Test.YtdjfkehbknbocaaLib
import Derived.Test.YtdjfkehbknbocaaSortO
namespace Go.Proofs.Ytdjfkehbknbocaa
open Go.RowKit
set_option linter.unusedSimpArgs false
set_option linter.unusedVariables false

def cmpF (x y : Int) : Int := if x < y then -1 else if y < x then 1 else 0
theorem isNaN_int (x : Int) (w : World) : Calls Try.prog 85 #[.int .i64 x] w fun e w' => e = .returned (.bool false) ∧ w = w' := by
  go_enter Try.func85, Try.ntmps85
  go_wp2
  go_ret
  exact ⟨rfl, rfl⟩
theorem compare_int (x y : Int) (w : World) : Calls Try.prog 72 #[.int .i64 x, .int .i64 y] w fun e w' => e = .returned (.int .i64 (cmpF x y)) ∧ w = w' := by
  have h1 := isNaN_int x w
  have h2 := isNaN_int y w
  have H1 := Lib.hid h1
  clear h1
  have H2 := Lib.hid h2
  clear h2
  by_cases c1 : x < y
  · have hr : cmpF x y = -1 := by simp [cmpF, c1]
    have HR := Lib.hid hr
    clear hr
    go_enter Try.func72, Try.ntmps72
    go_wp2_with fail
    refine H1.out.mono ?_
    rintro e w1 ⟨rfl, rfl⟩
    go_wp2_with fail
    refine H2.out.mono ?_
    rintro e w1 ⟨rfl, rfl⟩
    go_wp2
    go_ret
    exact ⟨by rw [HR.out]; rfl, rfl⟩
  by_cases c2 : y < x
  · have hr : cmpF x y = 1 := by simp [cmpF, c1, c2]
    have HR := Lib.hid hr
    clear hr
    go_enter Try.func72, Try.ntmps72
    go_wp2_with fail
    refine H1.out.mono ?_
    rintro e w1 ⟨rfl, rfl⟩
    go_wp2_with fail
    refine H2.out.mono ?_
    rintro e w1 ⟨rfl, rfl⟩
    go_wp2
    go_ret
    exact ⟨by rw [HR.out]; rfl, rfl⟩
  · have hr : cmpF x y = 0 := by simp [cmpF, c1, c2]
    have HR := Lib.hid hr
    clear hr
    go_enter Try.func72, Try.ntmps72
    go_wp2_with fail
    refine H1.out.mono ?_
    rintro e w1 ⟨rfl, rfl⟩
    go_wp2_with fail
    refine H2.out.mono ?_
    rintro e w1 ⟨rfl, rfl⟩
    go_wp2
    go_ret
    exact ⟨by rw [HR.out]; rfl, rfl⟩
theorem cmpF_neg (x y : Int) : cmpF x y < 0 ↔ x < y := by unfold cmpF; (repeat' split) <;> omega
theorem cmpF_zero (x y : Int) : cmpF x y = 0 ↔ x = y := by unfold cmpF; (repeat' split) <;> omega
theorem cmpF_pos (x y : Int) : 0 < cmpF x y ↔ y < x := by unfold cmpF; (repeat' split) <;> omega
/-- A comparison by one number. -/
theorem cmpOK_one {α : Type} (f : α → Int) : CmpOK (fun u v => cmpF (f u) (f v)) := by
  constructor
  · intro u v; rw [cmpF_neg, cmpF_pos]
  · intro u v w h1 h2
    have := cmpF_pos (f u) (f v)
    rw [cmpF_neg] at h2 ⊢
    omega
  · intro u v w h1 h2
    have := cmpF_pos (f v) (f w)
    rw [cmpF_neg] at h1 ⊢
    omega
  · intro u v w h1 h2
    have := cmpF_pos (f u) (f v)
    have := cmpF_pos (f v) (f w)
    have := cmpF_pos (f u) (f w)
    omega
end Go.Proofs.Ytdjfkehbknbocaa

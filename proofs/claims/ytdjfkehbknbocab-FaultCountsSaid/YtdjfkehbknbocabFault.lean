/- The walks of package fault: which fault is met; and the reference's. -/
import Derived.Test.YtdjfkehbknbocabProg
import Derived.Test.YtdjfkehbknbocabLib
namespace Go.Proofs.Ytdjfkehbknbocab
open Go.RowKit
set_option linter.unusedSimpArgs false
set_option linter.unusedVariables false

structure Ft where
  at_ : Int
  kind : Int
  a : Int
  b : Int
def eFt (x : Ft) : List Value := [.int .i64 x.at_, .int .i64 x.kind, .int .i64 x.a, .int .i64 x.b]
def Ft.agg (x : Ft) : Value := .agg #[.int .i64 x.at_, .int .i64 x.kind, .int .i64 x.a, .int .i64 x.b]
def Ft.zero : Ft := ⟨0, 0, 0, 0⟩
def fitsB (kind op : Int) : Bool := (kind == 1 && decide (1 ≤ op) && decide (op ≤ 5)) || (kind == 2 && decide (1 < op) && decide (op ≤ 5)) || (kind == 3 && op == 1)
def hit (at_ op : Int) (x : Ft) : Bool := x.at_ == at_ && fitsB x.kind op

theorem fits_any (kind op : Int) (w : World) : Calls Try.prog 35 #[.int .i64 kind, .int .i64 op] w fun e w' => e = .returned (.bool (fitsB kind op)) ∧ w = w' := by
  by_cases k1 : (kind == 1) = true
  · have e1 : kind = 1 := by simpa using k1
    have hr : fitsB kind op = (decide (1 ≤ op) && decide (op ≤ 5)) := by subst e1; simp [fitsB]
    by_cases c1 : 1 ≤ op <;> by_cases c2 : op ≤ 5 <;> simp only [c1, c2, decide_true, decide_false, Bool.and_self, Bool.and_true, Bool.and_false, Bool.false_and] at hr
    all_goals
      have HR := Lib.hid hr
      clear hr
      clear e1
      go_enter Try.func35, Try.ntmps35
      go_wp2
      go_ret
      exact ⟨by rw [HR.out]; rfl, rfl⟩
  have k1' : (kind == 1) = false := by simpa using k1
  by_cases k2 : (kind == 2) = true
  · have e1 : kind = 2 := by simpa using k2
    have hr : fitsB kind op = (decide (1 < op) && decide (op ≤ 5)) := by subst e1; simp [fitsB]
    by_cases c1 : 1 < op <;> by_cases c2 : op ≤ 5 <;> simp only [c1, c2, decide_true, decide_false, Bool.and_self, Bool.and_true, Bool.and_false, Bool.false_and] at hr
    all_goals
      have HR := Lib.hid hr
      clear hr
      clear e1 k1
      go_enter Try.func35, Try.ntmps35
      go_wp2
      go_ret
      exact ⟨by rw [HR.out]; rfl, rfl⟩
  have k2' : (kind == 2) = false := by simpa using k2
  by_cases k3 : (kind == 3) = true
  · have e1 : kind = 3 := by simpa using k3
    have hr : fitsB kind op = (op == 1) := by subst e1; simp [fitsB]
    have HR := Lib.hid hr
    clear hr
    clear e1 k1 k2
    go_enter Try.func35, Try.ntmps35
    go_wp2
    go_ret
    exact ⟨by rw [HR.out]; rfl, rfl⟩
  · have k3' : (kind == 3) = false := by simpa using k3
    have hr : fitsB kind op = false := by simp [fitsB, k1', k2', k3']
    have HR := Lib.hid hr
    clear hr
    clear k1 k2 k3
    go_enter Try.func35, Try.ntmps35
    go_wp2
    go_ret
    exact ⟨by rw [HR.out]; rfl, rfl⟩

/-- The closure of Meets. -/
theorem meets1_any (x : Ft) (at_ op : Int) (p1 p2 : Nat) (w : World) (h1 : w.cell? ⟨p1, 0, none⟩ = some (.int .i64 at_)) (h2 : w.cell? ⟨p2, 0, none⟩ = some (.int .i64 op)) (hb1 : p1 < w.heap.size) (hb2 : p2 < w.heap.size) :
    Calls Try.prog 34 #[x.agg, .pointer (some ⟨p1, 0, none⟩), .pointer (some ⟨p2, 0, none⟩)] w fun e w' => e = .returned (.bool (hit at_ op x)) ∧ Below w.heap.size w w' := by
  obtain ⟨xa, xk, x3, x4⟩ := x
  simp only [Ft.agg]
  by_cases c1 : (xa == at_) = true
  · have hr : hit at_ op ⟨xa, xk, x3, x4⟩ = fitsB xk op := by simp [hit, c1]
    have HR := Lib.hid hr
    clear hr
    go_enter Try.func34, Try.ntmps34
    go_wp2_with (go_at_call 35; refine (fits_any _ _ _).mono ?_; rintro e w1 ⟨rfl, rfl⟩)
    go_ret
    exact ⟨by rw [HR.out]; rfl, by ((try change Below _ _ _); (repeat (any_goals (first | (with_reducible exact Below.refl _ _) | (with_reducible exact Below.refl _ _) | (with_reducible apply Below.drew) | (with_reducible apply below_drewN) | (with_reducible refine Below.alloc ?_ ?_ _) | (with_reducible refine Below.setCell ?_ ?_ _)))); all_goals (first | exact Nat.le_refl _ | (simp; done) | (simp; omega) | omega | (dsimp only; omega)))⟩
  · have c1' : (xa == at_) = false := by simpa using c1
    have hr : hit at_ op ⟨xa, xk, x3, x4⟩ = false := by simp [hit, c1']
    have HR := Lib.hid hr
    clear hr
    clear c1
    go_enter Try.func34, Try.ntmps34
    go_wp2
    go_ret
    exact ⟨by rw [HR.out]; rfl, by ((try change Below _ _ _); (repeat (any_goals (first | (with_reducible exact Below.refl _ _) | (with_reducible exact Below.refl _ _) | (with_reducible apply Below.drew) | (with_reducible apply below_drewN) | (with_reducible refine Below.alloc ?_ ?_ _) | (with_reducible refine Below.setCell ?_ ?_ _)))); all_goals (first | exact Nat.le_refl _ | (simp; done) | (simp; omega) | omega | (dsimp only; omega)))⟩
end Go.Proofs.Ytdjfkehbknbocab

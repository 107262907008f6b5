/- The walks of the grades. -/
import Derived.Test.YtdjfkehbknbocaaHealth
namespace Go.Proofs.Ytdjfkehbknbocaa
open Go.RowKit

def Hs.grade (h : Hs) : Int := if h.left < 0 ∨ h.life ≤ 0 then 2 else if (h.left = 0 ∧ 0 < h.worn) ∨ h.life ≤ 10 then 1 else 0
set_option maxHeartbeats 1000000 in
theorem grade_any (h : Hs) (w : World) : Calls Try.prog 23 #[h.agg] w fun e w' => e = .returned (.int .i64 h.grade) ∧ Below w.heap.size w w' := by
  obtain ⟨good, worn, left, least, most, mean, life, all⟩ := h
  simp only [Hs.agg]
  by_cases c1 : left < 0
  · have hr : Hs.grade ⟨good, worn, left, least, most, mean, life, all⟩ = 2 := by simp [Hs.grade, c1]
    have HR := Lib.hid hr
    clear hr
    go_enter Try.func23, Try.ntmps23
    go_wp2
    go_ret
    exact ⟨by rw [HR.out]; rfl, by ((try change Below _ _ _); (repeat (any_goals (first | (with_reducible exact Below.refl _ _) | (with_reducible exact Below.refl _ _) | (with_reducible apply Below.drew) | (with_reducible apply below_drewN) | (with_reducible refine Below.alloc ?_ ?_ _) | (with_reducible refine Below.setCell ?_ ?_ _)))); all_goals (first | exact Nat.le_refl _ | (simp; done) | (simp; omega) | omega | (dsimp only; omega)))⟩
  · by_cases c2 : life ≤ 0
    · have hr : Hs.grade ⟨good, worn, left, least, most, mean, life, all⟩ = 2 := by simp [Hs.grade, c2]
      have HR := Lib.hid hr
      clear hr
      go_enter Try.func23, Try.ntmps23
      go_wp2
      go_ret
      exact ⟨by rw [HR.out]; rfl, by ((try change Below _ _ _); (repeat (any_goals (first | (with_reducible exact Below.refl _ _) | (with_reducible exact Below.refl _ _) | (with_reducible apply Below.drew) | (with_reducible apply below_drewN) | (with_reducible refine Below.alloc ?_ ?_ _) | (with_reducible refine Below.setCell ?_ ?_ _)))); all_goals (first | exact Nat.le_refl _ | (simp; done) | (simp; omega) | omega | (dsimp only; omega)))⟩
    · by_cases c3 : life ≤ 10
      · have hr : Hs.grade ⟨good, worn, left, least, most, mean, life, all⟩ = 1 := by simp [Hs.grade, c1, c2, c3]
        have HR := Lib.hid hr
        clear hr
        by_cases c4 : (left == 0) = true
        · go_enter Try.func23, Try.ntmps23
          go_wp2
          all_goals go_ret
          all_goals exact ⟨by rw [HR.out]; rfl, by ((try change Below _ _ _); (repeat (any_goals (first | (with_reducible exact Below.refl _ _) | (with_reducible exact Below.refl _ _) | (with_reducible apply Below.drew) | (with_reducible apply below_drewN) | (with_reducible refine Below.alloc ?_ ?_ _) | (with_reducible refine Below.setCell ?_ ?_ _)))); all_goals (first | exact Nat.le_refl _ | (simp; done) | (simp; omega) | omega | (dsimp only; omega)))⟩
        · have c4' : (left == 0) = false := by simpa using c4
          clear c4
          go_enter Try.func23, Try.ntmps23
          go_wp2
          go_ret
          exact ⟨by rw [HR.out]; rfl, by ((try change Below _ _ _); (repeat (any_goals (first | (with_reducible exact Below.refl _ _) | (with_reducible exact Below.refl _ _) | (with_reducible apply Below.drew) | (with_reducible apply below_drewN) | (with_reducible refine Below.alloc ?_ ?_ _) | (with_reducible refine Below.setCell ?_ ?_ _)))); all_goals (first | exact Nat.le_refl _ | (simp; done) | (simp; omega) | omega | (dsimp only; omega)))⟩
      · by_cases c4 : (left == 0) = true
        · by_cases c5 : 0 < worn
          · have hr : Hs.grade ⟨good, worn, left, least, most, mean, life, all⟩ = 1 := by simp at c4; simp [Hs.grade, c2, c4, c5]
            have HR := Lib.hid hr
            clear hr
            go_enter Try.func23, Try.ntmps23
            go_wp2
            go_ret
            exact ⟨by rw [HR.out]; rfl, by ((try change Below _ _ _); (repeat (any_goals (first | (with_reducible exact Below.refl _ _) | (with_reducible exact Below.refl _ _) | (with_reducible apply Below.drew) | (with_reducible apply below_drewN) | (with_reducible refine Below.alloc ?_ ?_ _) | (with_reducible refine Below.setCell ?_ ?_ _)))); all_goals (first | exact Nat.le_refl _ | (simp; done) | (simp; omega) | omega | (dsimp only; omega)))⟩
          · have hr : Hs.grade ⟨good, worn, left, least, most, mean, life, all⟩ = 0 := by simp at c4; simp [Hs.grade, c2, c3, c4, c5]
            have HR := Lib.hid hr
            clear hr
            go_enter Try.func23, Try.ntmps23
            go_wp2
            go_ret
            exact ⟨by rw [HR.out]; rfl, by ((try change Below _ _ _); (repeat (any_goals (first | (with_reducible exact Below.refl _ _) | (with_reducible exact Below.refl _ _) | (with_reducible apply Below.drew) | (with_reducible apply below_drewN) | (with_reducible refine Below.alloc ?_ ?_ _) | (with_reducible refine Below.setCell ?_ ?_ _)))); all_goals (first | exact Nat.le_refl _ | (simp; done) | (simp; omega) | omega | (dsimp only; omega)))⟩
        · have hr : Hs.grade ⟨good, worn, left, least, most, mean, life, all⟩ = 0 := by simp at c4; simp [Hs.grade, c1, c2, c3, c4]
          have HR := Lib.hid hr
          clear hr
          have c4' : (left == 0) = false := by simpa using c4
          clear c4
          go_enter Try.func23, Try.ntmps23
          go_wp2
          go_ret
          exact ⟨by rw [HR.out]; rfl, by ((try change Below _ _ _); (repeat (any_goals (first | (with_reducible exact Below.refl _ _) | (with_reducible exact Below.refl _ _) | (with_reducible apply Below.drew) | (with_reducible apply below_drewN) | (with_reducible refine Below.alloc ?_ ?_ _) | (with_reducible refine Below.setCell ?_ ?_ _)))); all_goals (first | exact Nat.le_refl _ | (simp; done) | (simp; omega) | omega | (dsimp only; omega)))⟩
set_option maxHeartbeats 1000000 in
theorem refGrade_any (h : Hs) (w : World) : Calls Try.prog 24 #[h.agg] w fun e w' => e = .returned (.int .i64 h.grade) ∧ Below w.heap.size w w' := by
  obtain ⟨good, worn, left, least, most, mean, life, all⟩ := h
  simp only [Hs.agg]
  by_cases c1 : left < 0
  · have hr : Hs.grade ⟨good, worn, left, least, most, mean, life, all⟩ = 2 := by simp [Hs.grade, c1]
    have HR := Lib.hid hr
    clear hr
    go_enter Try.func24, Try.ntmps24
    go_wp2
    go_ret
    exact ⟨by rw [HR.out]; rfl, by ((try change Below _ _ _); (repeat (any_goals (first | (with_reducible exact Below.refl _ _) | (with_reducible exact Below.refl _ _) | (with_reducible apply Below.drew) | (with_reducible apply below_drewN) | (with_reducible refine Below.alloc ?_ ?_ _) | (with_reducible refine Below.setCell ?_ ?_ _)))); all_goals (first | exact Nat.le_refl _ | (simp; done) | (simp; omega) | omega | (dsimp only; omega)))⟩
  · by_cases c2 : life ≤ 0
    · have hr : Hs.grade ⟨good, worn, left, least, most, mean, life, all⟩ = 2 := by simp [Hs.grade, c2]
      have HR := Lib.hid hr
      clear hr
      go_enter Try.func24, Try.ntmps24
      go_wp2
      go_ret
      exact ⟨by rw [HR.out]; rfl, by ((try change Below _ _ _); (repeat (any_goals (first | (with_reducible exact Below.refl _ _) | (with_reducible exact Below.refl _ _) | (with_reducible apply Below.drew) | (with_reducible apply below_drewN) | (with_reducible refine Below.alloc ?_ ?_ _) | (with_reducible refine Below.setCell ?_ ?_ _)))); all_goals (first | exact Nat.le_refl _ | (simp; done) | (simp; omega) | omega | (dsimp only; omega)))⟩
    · by_cases c3 : life ≤ 10
      · have hr : Hs.grade ⟨good, worn, left, least, most, mean, life, all⟩ = 1 := by simp [Hs.grade, c1, c2, c3]
        have HR := Lib.hid hr
        clear hr
        by_cases c4 : (left == 0) = true
        · go_enter Try.func24, Try.ntmps24
          go_wp2
          all_goals go_ret
          all_goals exact ⟨by rw [HR.out]; rfl, by ((try change Below _ _ _); (repeat (any_goals (first | (with_reducible exact Below.refl _ _) | (with_reducible exact Below.refl _ _) | (with_reducible apply Below.drew) | (with_reducible apply below_drewN) | (with_reducible refine Below.alloc ?_ ?_ _) | (with_reducible refine Below.setCell ?_ ?_ _)))); all_goals (first | exact Nat.le_refl _ | (simp; done) | (simp; omega) | omega | (dsimp only; omega)))⟩
        · have c4' : (left == 0) = false := by simpa using c4
          clear c4
          go_enter Try.func24, Try.ntmps24
          go_wp2
          go_ret
          exact ⟨by rw [HR.out]; rfl, by ((try change Below _ _ _); (repeat (any_goals (first | (with_reducible exact Below.refl _ _) | (with_reducible exact Below.refl _ _) | (with_reducible apply Below.drew) | (with_reducible apply below_drewN) | (with_reducible refine Below.alloc ?_ ?_ _) | (with_reducible refine Below.setCell ?_ ?_ _)))); all_goals (first | exact Nat.le_refl _ | (simp; done) | (simp; omega) | omega | (dsimp only; omega)))⟩
      · by_cases c4 : (left == 0) = true
        · by_cases c5 : 0 < worn
          · have hr : Hs.grade ⟨good, worn, left, least, most, mean, life, all⟩ = 1 := by simp at c4; simp [Hs.grade, c2, c4, c5]
            have HR := Lib.hid hr
            clear hr
            go_enter Try.func24, Try.ntmps24
            go_wp2
            go_ret
            exact ⟨by rw [HR.out]; rfl, by ((try change Below _ _ _); (repeat (any_goals (first | (with_reducible exact Below.refl _ _) | (with_reducible exact Below.refl _ _) | (with_reducible apply Below.drew) | (with_reducible apply below_drewN) | (with_reducible refine Below.alloc ?_ ?_ _) | (with_reducible refine Below.setCell ?_ ?_ _)))); all_goals (first | exact Nat.le_refl _ | (simp; done) | (simp; omega) | omega | (dsimp only; omega)))⟩
          · have hr : Hs.grade ⟨good, worn, left, least, most, mean, life, all⟩ = 0 := by simp at c4; simp [Hs.grade, c2, c3, c4, c5]
            have HR := Lib.hid hr
            clear hr
            go_enter Try.func24, Try.ntmps24
            go_wp2
            go_ret
            exact ⟨by rw [HR.out]; rfl, by ((try change Below _ _ _); (repeat (any_goals (first | (with_reducible exact Below.refl _ _) | (with_reducible exact Below.refl _ _) | (with_reducible apply Below.drew) | (with_reducible apply below_drewN) | (with_reducible refine Below.alloc ?_ ?_ _) | (with_reducible refine Below.setCell ?_ ?_ _)))); all_goals (first | exact Nat.le_refl _ | (simp; done) | (simp; omega) | omega | (dsimp only; omega)))⟩
        · have hr : Hs.grade ⟨good, worn, left, least, most, mean, life, all⟩ = 0 := by simp at c4; simp [Hs.grade, c1, c2, c3, c4]
          have HR := Lib.hid hr
          clear hr
          have c4' : (left == 0) = false := by simpa using c4
          clear c4
          go_enter Try.func24, Try.ntmps24
          go_wp2
          go_ret
          exact ⟨by rw [HR.out]; rfl, by ((try change Below _ _ _); (repeat (any_goals (first | (with_reducible exact Below.refl _ _) | (with_reducible exact Below.refl _ _) | (with_reducible apply Below.drew) | (with_reducible apply below_drewN) | (with_reducible refine Below.alloc ?_ ?_ _) | (with_reducible refine Below.setCell ?_ ?_ _)))); all_goals (first | exact Nat.le_refl _ | (simp; done) | (simp; omega) | omega | (dsimp only; omega)))⟩
end Go.Proofs.Ytdjfkehbknbocaa

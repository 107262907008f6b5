/- The walks of chapter 24's reference: May, Fewer, Room, Ranked. -/
import Derived.Test.YtdjfkehbknbocaaVictX
namespace Go.Proofs.Ytdjfkehbknbocaa
open Go.RowKit
set_option linter.unusedSimpArgs false
set_option linter.unusedVariables false

set_option maxHeartbeats 8000000 in
theorem refMay24_any (lines : Int) (u : Us) (hub : u.valid ≤ 9223372036854775807) (w : World) : Calls Try.prog 76 #[.int .i64 lines, u.agg] w fun e w' => e = .returned (.bool (mayU lines u)) ∧ Below w.heap.size w w' := by
  obtain ⟨x0, x1, x2⟩ := u
  simp only [Us.agg] at hub ⊢
  have hmode : (((x1 != 1) = false) ∨ ((x1 != 1) = true ∧ (x1 != 2) = false)) ∨ ((x1 != 1) = true ∧ (x1 != 2) = true) := by
    cases h : (x1 != 1) <;> cases h' : (x1 != 2) <;> simp
  rcases hmode with hmode | ⟨m1, m2⟩
  · have hm : (x1 == 1 || x1 == 2) = true := by
      rcases hmode with h | ⟨_, h⟩
      · have : x1 = 1 := by simpa using h
        simp [this]
      · have : x1 = 2 := by simpa using h
        simp [this]
    have hr : mayU lines ⟨x0, x1, x2⟩ = (decide (1 ≤ x2) && (decide (1 ≤ lines) && decide ((x2 - 1) / 3 < lines))) := by simp only [mayU, hm, Bool.true_and]
    by_cases v1 : x2 < 1
    · have hr2 : mayU lines ⟨x0, x1, x2⟩ = false := by rw [hr]; simp; omega
      rw [hr2]
      clear hr hr2 hm
      rcases hmode with m1 | ⟨m1, m2⟩
      all_goals
        go_enter Try.func76, Try.ntmps76
        go_wp2
        go_ret
        exact ⟨rfl, by ((try change Below _ _ _); (repeat (any_goals (first | (with_reducible exact Below.refl _ _) | (with_reducible exact Below.refl _ _) | (with_reducible apply Below.drew) | (with_reducible apply below_drewN) | (with_reducible refine Below.alloc ?_ ?_ _) | (with_reducible refine Below.setCell ?_ ?_ _)))); all_goals (first | exact Nat.le_refl _ | (simp; done) | (simp; omega) | omega | (dsimp only; omega)))⟩
    · by_cases l1 : lines < 1
      · have hr2 : mayU lines ⟨x0, x1, x2⟩ = false := by rw [hr]; simp; omega
        rw [hr2]
        clear hr hr2 hm
        rcases hmode with m1 | ⟨m1, m2⟩
        all_goals
          go_enter Try.func76, Try.ntmps76
          go_wp2
          go_ret
          exact ⟨rfl, by ((try change Below _ _ _); (repeat (any_goals (first | (with_reducible exact Below.refl _ _) | (with_reducible exact Below.refl _ _) | (with_reducible apply Below.drew) | (with_reducible apply below_drewN) | (with_reducible refine Below.alloc ?_ ?_ _) | (with_reducible refine Below.setCell ?_ ?_ _)))); all_goals (first | exact Nat.le_refl _ | (simp; done) | (simp; omega) | omega | (dsimp only; omega)))⟩
      · have v2 : 0 ≤ x2 := by omega
        by_cases d1 : x2 / 3 < lines
        · have hr2 : mayU lines ⟨x0, x1, x2⟩ = true := by rw [hr]; simp; omega
          rw [hr2]
          clear hr hr2 hm
          rcases hmode with m1 | ⟨m1, m2⟩
          all_goals
            go_enter Try.func76, Try.ntmps76
            go_wp2
            go_ret
            exact ⟨rfl, by ((try change Below _ _ _); (repeat (any_goals (first | (with_reducible exact Below.refl _ _) | (with_reducible exact Below.refl _ _) | (with_reducible apply Below.drew) | (with_reducible apply below_drewN) | (with_reducible refine Below.alloc ?_ ?_ _) | (with_reducible refine Below.setCell ?_ ?_ _)))); all_goals (first | exact Nat.le_refl _ | (simp; done) | (simp; omega) | omega | (dsimp only; omega)))⟩
        · by_cases d2 : (x2 / 3 == lines) = true
          · by_cases d3 : (x2 % 3 == 0) = true
            · have hr2 : mayU lines ⟨x0, x1, x2⟩ = true := by rw [hr]; simp at d2 d3 ⊢; omega
              rw [hr2]
              clear hr hr2 hm
              rcases hmode with m1 | ⟨m1, m2⟩
              all_goals
                go_enter Try.func76, Try.ntmps76
                go_wp2
                go_ret
                exact ⟨by first | rfl | exact ret_bool d3, by ((try change Below _ _ _); (repeat (any_goals (first | (with_reducible exact Below.refl _ _) | (with_reducible exact Below.refl _ _) | (with_reducible apply Below.drew) | (with_reducible apply below_drewN) | (with_reducible refine Below.alloc ?_ ?_ _) | (with_reducible refine Below.setCell ?_ ?_ _)))); all_goals (first | exact Nat.le_refl _ | (simp; done) | (simp; omega) | omega | (dsimp only; omega)))⟩
            · have hr2 : mayU lines ⟨x0, x1, x2⟩ = false := by rw [hr]; simp at d2 d3 ⊢; omega
              rw [hr2]
              clear hr hr2 hm
              have d3' : (x2 % 3 == 0) = false := by simpa using d3
              clear d3
              rcases hmode with m1 | ⟨m1, m2⟩
              all_goals
                go_enter Try.func76, Try.ntmps76
                go_wp2
                go_ret
                exact ⟨by first | rfl | exact ret_bool d3', by ((try change Below _ _ _); (repeat (any_goals (first | (with_reducible exact Below.refl _ _) | (with_reducible exact Below.refl _ _) | (with_reducible apply Below.drew) | (with_reducible apply below_drewN) | (with_reducible refine Below.alloc ?_ ?_ _) | (with_reducible refine Below.setCell ?_ ?_ _)))); all_goals (first | exact Nat.le_refl _ | (simp; done) | (simp; omega) | omega | (dsimp only; omega)))⟩
          · have hr2 : mayU lines ⟨x0, x1, x2⟩ = false := by rw [hr]; simp at d2 ⊢; omega
            rw [hr2]
            clear hr hr2 hm
            have d2' : (x2 / 3 == lines) = false := by simpa using d2
            clear d2
            rcases hmode with m1 | ⟨m1, m2⟩
            all_goals
              go_enter Try.func76, Try.ntmps76
              go_wp2
              go_ret
              exact ⟨by first | rfl | exact ret_bool d2', by ((try change Below _ _ _); (repeat (any_goals (first | (with_reducible exact Below.refl _ _) | (with_reducible exact Below.refl _ _) | (with_reducible apply Below.drew) | (with_reducible apply below_drewN) | (with_reducible refine Below.alloc ?_ ?_ _) | (with_reducible refine Below.setCell ?_ ?_ _)))); all_goals (first | exact Nat.le_refl _ | (simp; done) | (simp; omega) | omega | (dsimp only; omega)))⟩
  · have hr : mayU lines ⟨x0, x1, x2⟩ = false := by
      have h1 : ¬ x1 = 1 := by simpa using m1
      have h2 : ¬ x1 = 2 := by simpa using m2
      simp [mayU, h1, h2]
    rw [hr]
    clear hr
    go_enter Try.func76, Try.ntmps76
    go_wp2
    go_ret
    exact ⟨rfl, by ((try change Below _ _ _); (repeat (any_goals (first | (with_reducible exact Below.refl _ _) | (with_reducible exact Below.refl _ _) | (with_reducible apply Below.drew) | (with_reducible apply below_drewN) | (with_reducible refine Below.alloc ?_ ?_ _) | (with_reducible refine Below.setCell ?_ ?_ _)))); all_goals (first | exact Nat.le_refl _ | (simp; done) | (simp; omega) | omega | (dsimp only; omega)))⟩
theorem cfU_neg (u v : Us) : cfU u v < 0 ↔ (u.valid < v.valid ∨ (u.valid = v.valid ∧ u.block < v.block)) := orF_neg _ _ _ _
set_option maxHeartbeats 8000000 in
theorem refFewer_any (u v : Us) (w : World) : Calls Try.prog 77 #[u.agg, v.agg] w fun e w' => e = .returned (.bool (decide (cfU u v < 0))) ∧ Below w.heap.size w w' := by
  have hn := cfU_neg u v
  obtain ⟨x0, x1, x2⟩ := u
  obtain ⟨y0, y1, y2⟩ := v
  simp only [Us.agg] at hn ⊢
  by_cases c1 : x2 < y2
  · have hr : decide (cfU ⟨x0, x1, x2⟩ ⟨y0, y1, y2⟩ < 0) = true := by rw [decide_eq_true_eq, hn]; omega
    rw [hr]
    clear hr hn
    go_enter Try.func77, Try.ntmps77
    go_wp2
    go_ret
    exact ⟨rfl, by ((try change Below _ _ _); (repeat (any_goals (first | (with_reducible exact Below.refl _ _) | (with_reducible exact Below.refl _ _) | (with_reducible apply Below.drew) | (with_reducible apply below_drewN) | (with_reducible refine Below.alloc ?_ ?_ _) | (with_reducible refine Below.setCell ?_ ?_ _)))); all_goals (first | exact Nat.le_refl _ | (simp; done) | (simp; omega) | omega | (dsimp only; omega)))⟩
  · by_cases c2 : (x2 == y2) = true
    · have c2' : x2 = y2 := by simpa using c2
      by_cases c3 : x0 < y0
      · have hr : decide (cfU ⟨x0, x1, x2⟩ ⟨y0, y1, y2⟩ < 0) = true := by rw [decide_eq_true_eq, hn]; omega
        rw [hr]
        clear hr hn c2'
        go_enter Try.func77, Try.ntmps77
        go_wp2
        go_ret
        exact ⟨rfl, by ((try change Below _ _ _); (repeat (any_goals (first | (with_reducible exact Below.refl _ _) | (with_reducible exact Below.refl _ _) | (with_reducible apply Below.drew) | (with_reducible apply below_drewN) | (with_reducible refine Below.alloc ?_ ?_ _) | (with_reducible refine Below.setCell ?_ ?_ _)))); all_goals (first | exact Nat.le_refl _ | (simp; done) | (simp; omega) | omega | (dsimp only; omega)))⟩
      · have hr : decide (cfU ⟨x0, x1, x2⟩ ⟨y0, y1, y2⟩ < 0) = false := by rw [decide_eq_false_iff_not, hn]; omega
        rw [hr]
        clear hr hn c2'
        go_enter Try.func77, Try.ntmps77
        go_wp2
        go_ret
        exact ⟨rfl, by ((try change Below _ _ _); (repeat (any_goals (first | (with_reducible exact Below.refl _ _) | (with_reducible exact Below.refl _ _) | (with_reducible apply Below.drew) | (with_reducible apply below_drewN) | (with_reducible refine Below.alloc ?_ ?_ _) | (with_reducible refine Below.setCell ?_ ?_ _)))); all_goals (first | exact Nat.le_refl _ | (simp; done) | (simp; omega) | omega | (dsimp only; omega)))⟩
    · have c2' : ¬ x2 = y2 := by simpa using c2
      have c2f : (x2 == y2) = false := by simpa using c2
      have hr : decide (cfU ⟨x0, x1, x2⟩ ⟨y0, y1, y2⟩ < 0) = false := by rw [decide_eq_false_iff_not, hn]; omega
      rw [hr]
      clear hr hn c2' c2
      go_enter Try.func77, Try.ntmps77
      go_wp2
      go_ret
      exact ⟨rfl, by ((try change Below _ _ _); (repeat (any_goals (first | (with_reducible exact Below.refl _ _) | (with_reducible exact Below.refl _ _) | (with_reducible apply Below.drew) | (with_reducible apply below_drewN) | (with_reducible refine Below.alloc ?_ ?_ _) | (with_reducible refine Below.setCell ?_ ?_ _)))); all_goals (first | exact Nat.le_refl _ | (simp; done) | (simp; omega) | omega | (dsimp only; omega)))⟩
set_option maxHeartbeats 8000000 in
theorem refRoom_any (lines a b : Int) (ha : 0 ≤ a) (ha' : a ≤ 100000) (hb : 0 ≤ b) (hb' : b ≤ 100000) (w : World) : Calls Try.prog 79 #[.int .i64 lines, .int .i64 a, .int .i64 b] w fun e w' => e = .returned (.bool (decide (a + b ≤ 3 * lines))) ∧ w = w' := by
  have q1 := Int.emod_nonneg a (show (3 : Int) ≠ 0 by omega)
  have q2 := Int.emod_nonneg b (show (3 : Int) ≠ 0 by omega)
  have q3 := Int.emod_lt_of_pos a (show (0 : Int) < 3 by omega)
  have q4 := Int.emod_lt_of_pos b (show (0 : Int) < 3 by omega)
  have q5 : 0 ≤ a % 3 + b % 3 := by omega
  by_cases c1 : a / 3 + b / 3 + (a % 3 + b % 3) / 3 < lines
  · have hr : decide (a + b ≤ 3 * lines) = true := by simp; omega
    rw [hr]
    clear hr
    go_enter Try.func79, Try.ntmps79
    go_wp2
    go_ret
    exact ⟨rfl, rfl⟩
  · by_cases c2 : (a / 3 + b / 3 + (a % 3 + b % 3) / 3 == lines) = true
    · by_cases c3 : ((a % 3 + b % 3) % 3 == 0) = true
      · have hr : decide (a + b ≤ 3 * lines) = true := by simp at c2 c3 ⊢; omega
        rw [hr]
        clear hr
        go_enter Try.func79, Try.ntmps79
        go_wp2
        go_ret
        exact ⟨by first | rfl | exact ret_bool (by rw [Int.add_emod]; exact c3), rfl⟩
      · have hr : decide (a + b ≤ 3 * lines) = false := by simp at c2 c3 ⊢; omega
        rw [hr]
        have c3f : ((a % 3 + b % 3) % 3 == 0) = false := by simpa using c3
        clear hr c3
        go_enter Try.func79, Try.ntmps79
        go_wp2
        go_ret
        exact ⟨by first | rfl | exact ret_bool (by rw [Int.add_emod]; exact c3f), rfl⟩
    · have hr : decide (a + b ≤ 3 * lines) = false := by simp at c2 ⊢; omega
      rw [hr]
      have c2f : (a / 3 + b / 3 + (a % 3 + b % 3) / 3 == lines) = false := by simpa using c2
      clear hr c2
      go_enter Try.func79, Try.ntmps79
      go_wp2
      go_ret
      exact ⟨by first | rfl | exact ret_bool c2f, rfl⟩
end Go.Proofs.Ytdjfkehbknbocaa

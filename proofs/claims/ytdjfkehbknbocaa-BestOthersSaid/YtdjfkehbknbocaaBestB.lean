/- The walks of Less and May, and of their references. -/
import Derived.Test.YtdjfkehbknbocaaBest
namespace Go.Proofs.Ytdjfkehbknbocaa
open Go.RowKit
set_option linter.unusedSimpArgs false
set_option linter.unusedVariables false

def orF (xs : List Int) : Int := (xs.find? (fun x => x != 0)).getD 0
theorem or_any (A : Option Addr) (n c : Nat) (xs : List Int) (w : World) (hA : Sl eInt 1 w A n xs) :
    Calls Try.prog 71 #[.slice A n c] w fun e w' => e = .returned (.int .i64 (orF xs)) ∧ Below w.heap.size w w' := by
  have hlen := hA.len
  have hbig := hA.big
  have HA := Lib.hid hA
  clear hA
  go_enter Try.func71, Try.ntmps71
  go_wp2
  go_loopw [8] (fun i wr => ∃ k : Nat, k ≤ n ∧ i = .int .i64 k ∧ Hid (xs.find? (fun x => x != 0) = (xs.drop k).find? (fun x => x != 0)) ∧ Hid (wr = w))
    (fun i _ => n - (intOf i).toNat)
  case atStart => exact ⟨0, Nat.zero_le _, rfl, rfl, rfl⟩
  case round =>
    obtain ⟨k, hk, rfl, HD, HW⟩ := hrel
    obtain rfl := HW.out
    by_cases hlt : k < n
    · obtain ⟨b, off, x, rfl, hb, hx, hc⟩ := HA.out.get_ hlt
      have c0 := hc 0 _ rfl
      simp only [Nat.mul_one, Nat.add_zero] at c0
      have hd : xs.drop k = x :: xs.drop (k + 1) := by
        have hkl : k < xs.length := by omega
        rw [List.drop_eq_getElem_cons hkl]
        rw [List.getElem?_eq_getElem hkl] at hx
        injection hx with hx
        rw [hx]
      by_cases hz : (x != 0) = true
      · have hr : orF xs = x := by unfold orF; rw [HD.out, hd, List.find?_cons]; simp only [hz]; rfl
        have HR := Lib.hid hr
        clear hr
        clear hc hd hx hb HA
        go_wp2
        go_ret
        exact ⟨by rw [HR.out]; rfl, Below.refl _ _⟩
      · have hz' : (x != 0) = false := by simpa using hz
        have HD2 : Hid (xs.find? (fun x => x != 0) = (xs.drop (k + 1)).find? (fun x => x != 0)) := by
          have := HD.out
          rw [hd, List.find?_cons] at this
          simp only [hz'] at this
          exact this
        clear hc hd hx hb HD hz
        go_wp2
        go_roundw
        case rel => exact ⟨k + 1, by omega, by go_num, HD2, Lib.hid trivial⟩
        case measure => simp [intOf]; omega
    · have : k = n := by omega
      subst this
      have hr : orF xs = 0 := by
        unfold orF
        rw [HD.out, List.drop_of_length_le (by omega)]
        rfl
      have HR := Lib.hid hr
      clear hr
      clear HD HA
      go_wp2
      go_ret
      exact ⟨by rw [HR.out]; rfl, Below.refl _ _⟩

theorem refLess_any (p q : Tg) (w : World) :
    Calls Try.prog 37 #[p.agg, q.agg] w fun e w' => e = .returned (.bool (lessF p q)) ∧ Below w.heap.size w w' := by
  obtain ⟨p1, p2, p3, p4⟩ := p
  obtain ⟨q1, q2, q3, q4⟩ := q
  simp only [Tg.agg]
  by_cases c1 : p3 < q3
  · have hr : lessF ⟨p1, p2, p3, p4⟩ ⟨q1, q2, q3, q4⟩ = true := by simp [lessF, c1]
    have HR := Lib.hid hr
    clear hr
    go_enter Try.func37, Try.ntmps37
    go_wp2
    go_ret
    exact ⟨by rw [HR.out]; rfl, by ((try change Below _ _ _); (repeat (any_goals (first | (with_reducible exact Below.refl _ _) | (with_reducible exact Below.refl _ _) | (with_reducible apply Below.drew) | (with_reducible apply below_drewN) | (with_reducible refine Below.alloc ?_ ?_ _) | (with_reducible refine Below.setCell ?_ ?_ _)))); all_goals (first | exact Nat.le_refl _ | (simp; done) | (simp; omega) | omega | (dsimp only; omega)))⟩
  by_cases c2 : p3 = q3
  · subst c2
    have hr : lessF ⟨p1, p2, p3, p4⟩ ⟨q1, q2, p3, q4⟩ = decide (p4 < q4) := by simp [lessF]
    have HR := Lib.hid hr
    clear hr
    go_enter Try.func37, Try.ntmps37
    go_wp2
    go_ret
    exact ⟨by rw [HR.out]; rfl, by ((try change Below _ _ _); (repeat (any_goals (first | (with_reducible exact Below.refl _ _) | (with_reducible exact Below.refl _ _) | (with_reducible apply Below.drew) | (with_reducible apply below_drewN) | (with_reducible refine Below.alloc ?_ ?_ _) | (with_reducible refine Below.setCell ?_ ?_ _)))); all_goals (first | exact Nat.le_refl _ | (simp; done) | (simp; omega) | omega | (dsimp only; omega)))⟩
  · have hr : lessF ⟨p1, p2, p3, p4⟩ ⟨q1, q2, q3, q4⟩ = false := by simp [lessF, c1, c2]
    have c3 : (p3 == q3) = false := by simpa using c2
    have HR := Lib.hid hr
    clear hr
    go_enter Try.func37, Try.ntmps37
    go_wp2
    go_ret
    exact ⟨by rw [HR.out]; rfl, by ((try change Below _ _ _); (repeat (any_goals (first | (with_reducible exact Below.refl _ _) | (with_reducible exact Below.refl _ _) | (with_reducible apply Below.drew) | (with_reducible apply below_drewN) | (with_reducible refine Below.alloc ?_ ?_ _) | (with_reducible refine Below.setCell ?_ ?_ _)))); all_goals (first | exact Nat.le_refl _ | (simp; done) | (simp; omega) | omega | (dsimp only; omega)))⟩

theorem orF_two (a b : Int) : orF [a, b] = if a = 0 then b else a := by
  unfold orF
  by_cases h : a = 0
  · subst h
    by_cases h2 : b = 0
    · subst h2; rfl
    · have : (b != 0) = true := by simpa using h2
      simp [List.find?_cons, this]
  · have : (a != 0) = true := by simpa using h
    simp [List.find?_cons, this, h]
theorem less_or (p3 p4 q3 q4 : Int) : decide (orF [cmpF p3 q3, cmpF p4 q4] < 0) = (decide (p3 < q3) || (p3 == q3 && decide (p4 < q4))) := by
  rw [orF_two]
  unfold cmpF
  by_cases c1 : p3 < q3
  · simp [c1]
  · by_cases c2 : q3 < p3
    · have : (p3 == q3) = false := by simp; omega
      simp [c1, c2, this]
    · have : p3 = q3 := by omega
      subst this
      by_cases c3 : p4 < q4
      · simp [c3]
      · by_cases c4 : q4 < p4 <;> simp [c3, c4]
theorem less_any (p q : Tg) (w : World) :
    Calls Try.prog 36 #[p.agg, q.agg] w fun e w' => e = .returned (.bool (lessF p q)) ∧ Below w.heap.size w w' := by
  obtain ⟨p1, p2, p3, p4⟩ := p
  obtain ⟨q1, q2, q3, q4⟩ := q
  simp only [Tg.agg]
  have hr : decide (orF [cmpF p3 q3, cmpF p4 q4] < 0) = lessF ⟨p1, p2, p3, p4⟩ ⟨q1, q2, q3, q4⟩ := less_or p3 p4 q3 q4
  have hc3 := fun W => compare_int p3 q3 W
  have hc4 := fun W => compare_int p4 q4 W
  generalize cmpF p3 q3 = x at hr hc3
  generalize cmpF p4 q4 = y at hr hc4
  have hor := fun W b c hA => or_any (some ⟨b, 0, none⟩) 2 c [x, y] W hA
  generalize orF [x, y] = z at hr hor
  have HR := Lib.hid hr
  clear hr
  have HC3 := Lib.hid hc3
  clear hc3
  have HC4 := Lib.hid hc4
  clear hc4
  have HOR := Lib.hid hor
  clear hor
  have k1 := (Blk.new w 62 #[.int .i64 p1, .int .i64 p2, .int .i64 p3, .int .i64 p4]).alloc (.cells #[.int .i64 q1, .int .i64 q2, .int .i64 q3, .int .i64 q4] 62)
  have k2 := Blk.new1 w (.cells #[.int .i64 p1, .int .i64 p2, .int .i64 p3, .int .i64 p4] 62) 62 #[.int .i64 q1, .int .i64 q2, .int .i64 q3, .int .i64 q4]
  have hb : ∀ W, Below ((w.alloc (.cells #[.int .i64 p1, .int .i64 p2, .int .i64 p3, .int .i64 p4] 62)).alloc (.cells #[.int .i64 q1, .int .i64 q2, .int .i64 q3, .int .i64 q4] 62)).heap.size ((w.alloc (.cells #[.int .i64 p1, .int .i64 p2, .int .i64 p3, .int .i64 p4] 62)).alloc (.cells #[.int .i64 q1, .int .i64 q2, .int .i64 q3, .int .i64 q4] 62)) W → W.cell? ⟨w.heap.size, 2, none⟩ = some (.int .i64 p3) ∧ W.cell? ⟨w.heap.size + 1, 2, none⟩ = some (.int .i64 q3) ∧ W.cell? ⟨w.heap.size, 3, none⟩ = some (.int .i64 p4) ∧ W.cell? ⟨w.heap.size + 1, 3, none⟩ = some (.int .i64 q4) := fun W hW =>
    ⟨((k1.below_ hW).cell 2).trans rfl, ((k2.below_ hW).cell 2).trans rfl, ((k1.below_ hW).cell 3).trans rfl, ((k2.below_ hW).cell 3).trans rfl⟩
  have hw0 : Below w.heap.size w ((w.alloc (.cells #[.int .i64 p1, .int .i64 p2, .int .i64 p3, .int .i64 p4] 62)).alloc (.cells #[.int .i64 q1, .int .i64 q2, .int .i64 q3, .int .i64 q4] 62)) := by ((try change Below _ _ _); (repeat (any_goals (first | (with_reducible exact Below.refl _ _) | (with_reducible exact Below.refl _ _) | (with_reducible apply Below.drew) | (with_reducible apply below_drewN) | (with_reducible refine Below.alloc ?_ ?_ _) | (with_reducible refine Below.setCell ?_ ?_ _)))); all_goals (first | exact Nat.le_refl _ | (simp; done) | (simp; omega) | omega | (dsimp only; omega)))
  have k0 := hb _ (Below.refl _ _).drew
  have hb1 : Below ((w.alloc (.cells #[.int .i64 p1, .int .i64 p2, .int .i64 p3, .int .i64 p4] 62)).alloc (.cells #[.int .i64 q1, .int .i64 q2, .int .i64 q3, .int .i64 q4] 62)).heap.size ((w.alloc (.cells #[.int .i64 p1, .int .i64 p2, .int .i64 p3, .int .i64 p4] 62)).alloc (.cells #[.int .i64 q1, .int .i64 q2, .int .i64 q3, .int .i64 q4] 62)) (((w.alloc (.cells #[.int .i64 p1, .int .i64 p2, .int .i64 p3, .int .i64 p4] 62)).alloc (.cells #[.int .i64 q1, .int .i64 q2, .int .i64 q3, .int .i64 q4] 62)).alloc (.cells #[.int .i64 x, .int .i64 y] 3)).drew := ((Below.refl _ _).alloc (Nat.le_refl _) _).drew
  have hsl : Sl eInt 1 (((w.alloc (.cells #[.int .i64 p1, .int .i64 p2, .int .i64 p3, .int .i64 p4] 62)).alloc (.cells #[.int .i64 q1, .int .i64 q2, .int .i64 q3, .int .i64 q4] 62)).alloc (.cells #[.int .i64 x, .int .i64 y] 3)).drew (some ⟨w.heap.size + 1 + 1, 0, none⟩) 2 [x, y] := by
    have h := Blk.new ((w.alloc (.cells #[.int .i64 p1, .int .i64 p2, .int .i64 p3, .int .i64 p4] 62)).alloc (.cells #[.int .i64 q1, .int .i64 q2, .int .i64 q3, .int .i64 q4] 62)) 3 #[.int .i64 x, .int .i64 y]
    simp only [World.size_alloc] at h
    exact Sl.of_blk (enc := eInt) (k := 1) (fun _ => rfl) h.drew rfl rfl (by omega)
  have HB := Lib.hid hb
  clear hb
  have HW0 := Lib.hid hw0
  clear hw0
  have HB1 := Lib.hid hb1
  clear hb1
  have HSL := Lib.hid hsl
  clear hsl
  clear k1 k2
  obtain ⟨b0, b1, b2, b3⟩ := id k0
  go_enter Try.func36, Try.ntmps36
  go_wp2_with fail
  go_region_held3 (fun W => W.cell? ⟨w.heap.size, 2, none⟩ = some (.int .i64 p3) ∧ W.cell? ⟨w.heap.size + 1, 2, none⟩ = some (.int .i64 q3) ∧ W.cell? ⟨w.heap.size, 3, none⟩ = some (.int .i64 p4) ∧ W.cell? ⟨w.heap.size + 1, 3, none⟩ = some (.int .i64 q4)) (first | go_keep | (exact k0) | (exact kk))
    (first | (go_at_call 72; first | ((with_reducible refine (HC3.out _).mono ?_); rintro e w3 ⟨rfl, rfl⟩; have k3 := k0) | ((with_reducible refine (HC4.out _).mono ?_); rintro e w4 ⟨rfl, rfl⟩; have k4 := k0)) | (go_at_call 71; refine (HOR.out _ _ _ HSL.out).mono ?_; rintro e w5 ⟨rfl, hb5⟩; have hb6 := below_tr HB1.out hb5; have kk := HB.out _ hb6))
  go_wp2
  go_ret
  exact ⟨by rw [← HR.out]; rfl, below_tr HW0.out hb6⟩
#print axioms less_any
#print axioms refLess_any
end Go.Proofs.Ytdjfkehbknbocaa

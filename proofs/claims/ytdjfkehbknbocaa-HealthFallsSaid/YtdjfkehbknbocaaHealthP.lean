/- Plain facts of a health: what lies between what. -/
import Derived.Test.YtdjfkehbknbocaaHealthT
namespace Go.Proofs.Ytdjfkehbknbocaa
open Go.RowKit
set_option linter.unusedSimpArgs false
set_option linter.unusedVariables false

theorem g3_mid (l : List Int) (hl : ∀ x ∈ l, 0 ≤ x ∧ x ≤ 16777215) (k : Nat) (hk : k ≤ l.length) : (g3 l k).least * k ≤ (g3 l k).all ∧ (g3 l k).all ≤ (g3 l k).most * k ∧ 0 ≤ (g3 l k).least ∧ 0 ≤ (g3 l k).most := by
  induction k with
  | zero => simp [g3]
  | succ k ih =>
    obtain ⟨h1, h2, h3, h4⟩ := ih (by omega)
    have hx : l.getD k 0 ∈ l := by rw [List.getD_eq_getElem?_getD, List.getElem?_eq_getElem (by omega)]; simp
    obtain ⟨hx0, hx1⟩ := hl _ hx
    simp only [g3]
    generalize l.getD k 0 = x at *
    have hm1 : mx (g3 l k).most x ≥ (g3 l k).most ∧ mx (g3 l k).most x ≥ x := by unfold mx; split <;> omega
    have hn1 : mn (if k = 0 then x else (g3 l k).least) x ≤ x ∧ 0 ≤ mn (if k = 0 then x else (g3 l k).least) x ∧ (k = 0 ∨ mn (if k = 0 then x else (g3 l k).least) x ≤ (g3 l k).least) := by
      unfold mn; (repeat' split) <;> omega
    generalize mx (g3 l k).most x = M at *
    generalize mn (if k = 0 then x else (g3 l k).least) x = m at *
    obtain ⟨a1, a2, a3⟩ := hn1
    refine ⟨?_, ?_, a2, by omega⟩
    · rw [show ((k + 1 : Nat) : Int) = (k : Int) + 1 from rfl, Int.mul_add, Int.mul_one]
      rcases a3 with rfl | a3
      · have hz : (g3 l 0).all = 0 := rfl
        rw [hz]
        simp
        omega
      · have := Int.mul_le_mul_of_nonneg_right a3 (Int.natCast_nonneg k)
        omega
    · rw [show ((k + 1 : Nat) : Int) = (k : Int) + 1 from rfl, Int.mul_add, Int.mul_one]
      have := Int.mul_le_mul_of_nonneg_right hm1.1 (Int.natCast_nonneg k)
      omega
structure Hs.Mid (h : Hs) (n : Int) : Prop where
  a : h.least ≤ h.mean
  b : h.mean ≤ h.most
  c : 0 ≤ h.life
  d : h.life ≤ 100
  e : h.good + h.worn = n
  f : -1 ≤ h.left
  g0 : 0 ≤ h.good
  w0 : 0 ≤ h.worn
theorem mid_of (cs : List Int) (bs : List Bool) (h : cs.length = bs.length) (spare limit : Int) (hs : 0 ≤ spare) (hl : 1 ≤ limit) : ((Hs.zero.fold cs bs).ends spare limit).Mid cs.length := by
  have hf := fold_goods cs bs h cs.length (Nat.le_refl _)
  have hok := Hs.fold_ok Hs.zero 0 ⟨by decide, by decide, by decide, by decide, by decide, rfl⟩ cs bs cs.length (Nat.le_refl _) (by omega)
  rw [List.take_of_length_le (Nat.le_refl _), List.take_of_length_le (by omega)] at hf hok
  obtain ⟨h1, h2, h3, h4, h5, h6⟩ := hf
  have hgb := goods_bd cs bs
  have hm := g3_mid (goods cs bs) hgb _ (Nat.le_refl _)
  rw [← h3, ← h4, ← h5, ← h1] at hm
  obtain ⟨m1, m2, m3, m4⟩ := hm
  obtain ⟨g0, w0, gw, a0, a1, mm⟩ := hok
  have hz : ¬ 0 < (Hs.zero.fold cs bs).good → (goods cs bs).length = 0 := fun hh => by omega
  have hz1 : (goods cs bs).length = 0 → (Hs.zero.fold cs bs).least = 0 ∧ (Hs.zero.fold cs bs).most = 0 := fun hh => by rw [h3, h4, hh]; exact ⟨rfl, rfl⟩
  generalize Hs.zero.fold cs bs = s at *
  have hmean : s.least ≤ (if 0 < s.good then s.all / s.good else s.mean) ∧ (if 0 < s.good then s.all / s.good else s.mean) ≤ s.most ∧ 0 ≤ (if 0 < s.good then s.all / s.good else s.mean) := by
    by_cases hp : 0 < s.good
    · rw [if_pos hp]
      refine ⟨Int.le_ediv_of_mul_le hp m1, ?_, Int.ediv_nonneg a0 g0⟩
      have := Int.ediv_le_ediv hp m2
      rwa [Int.mul_ediv_cancel _ (by omega)] at this
    · rw [if_neg hp]
      have := hz1 (hz hp)
      omega
  have hu : 0 ≤ 100 * (if 0 < s.good then s.all / s.good else s.mean) / limit := Int.ediv_nonneg (by omega) (by omega)
  have e1 : ∀ a : Int, 0 ≤ mx a 0 := fun a => by unfold mx; split <;> omega
  have e2 : ∀ a : Int, a ≤ 100 → mx a 0 ≤ 100 := fun a ha => by unfold mx; split <;> omega
  have e3 : ∀ a : Int, -1 ≤ mx a (-1) := fun a => by unfold mx; split <;> omega
  refine ⟨hmean.1, hmean.2.1, e1 _, e2 _ ?_, ?_, e3 _, g0, w0⟩
  · exact Int.sub_le_self _ hu
  · show s.good + s.worn = _; omega
theorem grade_bd (h : Hs) : 0 ≤ h.grade ∧ h.grade ≤ 2 := by unfold Hs.grade; (repeat' split) <;> omega

set_option maxRecDepth 100000 in
set_option maxHeartbeats 4000000 in
theorem between_walk (A B : Option Addr) (n m ca cb : Nat) (cs : List Int) (bs : List Bool) (spare limit : Int) (w : World) (hA : Sl eInt 1 w A n cs) (hB : Sl eBool 1 w B m bs) (hs : spare ≤ 9223372036854775807) :
    Calls Try.prog 6 #[.slice A n ca, .slice B m cb, .agg #[.int .i64 spare, .int .i64 limit]] w fun e w' => e = .returned (.bool true) ∧ Below w.heap.size w w' := by
  have hbg := hA.big
  by_cases h1 : 300 < n
  · have HA := Lib.hid hA
    clear hA
    have HB := Lib.hid hB
    clear hB
    go_enter Try.func6, Try.ntmps6
    go_wp2_with fail
    refine (works40 _).mono ?_
    rintro e w1 ⟨rfl, hb1⟩
    have hw1 : Below w.heap.size w w1 := ((Below.refl _ w).alloc (Nat.le_refl _) _).trans (hb1.mono (by simp))
    have HW1 := Lib.hid hw1
    clear hw1
    clear hb1
    go_wp2
    go_ret
    exact ⟨rfl, HW1.out⟩
  · by_cases h2 : 300 < m
    · have HA := Lib.hid hA
      clear hA
      have HB := Lib.hid hB
      clear hB
      go_enter Try.func6, Try.ntmps6
      go_wp2_with fail
      refine (works40 _).mono ?_
      rintro e w1 ⟨rfl, hb1⟩
      have hw1 : Below w.heap.size w w1 := ((Below.refl _ w).alloc (Nat.le_refl _) _).trans (hb1.mono (by simp))
      have HW1 := Lib.hid hw1
      clear hw1
      clear hb1
      go_wp2
      go_ret
      exact ⟨rfl, HW1.out⟩
    · obtain ⟨h, c, o1, _, hc⟩ := of_both A B n m ca cb cs bs spare limit w (by omega) (by omega) hA hB hs
      have O1 := Lib.hid o1
      clear o1
      clear hA hB
      rcases hc with ⟨rfl, rfl, _⟩ | ⟨rfl, _, hh, hl1, hl2, rfl, l1, l2, s0⟩
      · have he := fun W => eqHealth 0 0 0 0 0 0 0 0 0 0 0 0 0 0 W
        simp only [beq_self_eq_true, Bool.and_self] at he
        go_enter Try.func6, Try.ntmps6
        go_wp2_with fail
        refine (works40 _).mono ?_
        rintro e w1 ⟨rfl, hb1⟩
        have hk1 : Blk w1 w.heap.size 23 #[.int .i64 spare, .int .i64 limit] := (Blk.new w _ _).below_ hb1
        have hw1 : Below w.heap.size w w1 := ((Below.refl _ w).alloc (Nat.le_refl _) _).trans (hb1.mono (by simp))
        have c0 := (hk1.cell 0).trans rfl
        have c1 := (hk1.cell 1).trans rfl
        have HW1 := Lib.hid hw1
        clear hw1
        clear hb1 hk1
        go_wp2_with fail
        refine (O1.out _ HW1.out).mono ?_
        rintro e w2 ⟨rfl, hb2⟩
        have hw2 := below_tr HW1.out hb2
        simp only [Hs.agg, Hs.zero]
        have HW2 := Lib.hid hw2
        clear hw2
        clear hb2
        go_wp2
        go_ret
        exact ⟨rfl, by (have bsz_ := (HW2.out).size; (repeat (any_goals (first | (with_reducible exact HW2.out) | (with_reducible exact Below.refl _ _) | (with_reducible apply Below.drew) | (with_reducible apply below_drewN) | (with_reducible refine Below.alloc ?_ ?_ _) | (with_reducible refine Below.setCell ?_ ?_ _)))); all_goals (first | exact Nat.le_refl _ | (simp; done) | (simp; omega) | omega))⟩
      · have hm := mid_of cs bs (by omega) spare limit s0 l1
        rw [← hh, hl1] at hm
        have hg := grade_any h
        have hgb := grade_bd h
        generalize h.grade = gr at hg hgb
        obtain ⟨y1, y2, y3, y4, y5, y6, y7, y8⟩ := hm
        clear hh
        obtain ⟨x0, x1, x2, x3, x4, x5, x6, x7⟩ := h
        simp only [Hs.agg] at y1 y2 y3 y4 y5 y6 y7 y8 hg
        obtain ⟨gb1, gb2⟩ := hgb
        have y5' : (x0 + x1 == (n : Int)) = true := by simpa using y5
        have y56 : x0 + x1 ≤ 1000 := by omega
        have HG := Lib.hid hg
        clear hg
        clear y5
        go_enter Try.func6, Try.ntmps6
        go_wp2_with fail
        refine (works40 _).mono ?_
        rintro e w1 ⟨rfl, hb1⟩
        have hk1 : Blk w1 w.heap.size 23 #[.int .i64 spare, .int .i64 limit] := (Blk.new w _ _).below_ hb1
        have hw1 : Below w.heap.size w w1 := ((Below.refl _ w).alloc (Nat.le_refl _) _).trans (hb1.mono (by simp))
        have c0 := (hk1.cell 0).trans rfl
        have c1 := (hk1.cell 1).trans rfl
        have HW1 := Lib.hid hw1
        clear hw1
        clear hb1 hk1
        go_wp2_with fail
        refine (O1.out _ HW1.out).mono ?_
        rintro e w2 ⟨rfl, hb2⟩
        have hw2 := below_tr HW1.out hb2
        simp only [Hs.agg]
        have HW2 := Lib.hid hw2
        clear hw2
        clear hb2
        go_wp2_with fail
        refine (HG.out _).mono ?_
        rintro e w3 ⟨rfl, hb3⟩
        have hk3 : Blk w3 w2.heap.size 35 #[.int .i64 x0, .int .i64 x1, .int .i64 x2, .int .i64 x3, .int .i64 x4, .int .i64 x5, .int .i64 x6] := (Blk.new w2 _ _).below_ hb3
        have hw3 := below_tr (HW2.out.alloc HW2.out.size (.cells #[.int .i64 x0, .int .i64 x1, .int .i64 x2, .int .i64 x3, .int .i64 x4, .int .i64 x5, .int .i64 x6] 35)) hb3
        have e0 := (hk3.cell 0).trans rfl
        have e1 := (hk3.cell 1).trans rfl
        have e2 := (hk3.cell 2).trans rfl
        have e3 := (hk3.cell 3).trans rfl
        have e4 := (hk3.cell 4).trans rfl
        have e5 := (hk3.cell 5).trans rfl
        have e6 := (hk3.cell 6).trans rfl
        have HW3 := Lib.hid hw3
        clear hw3
        clear hb3 hk3
        go_wp2
        go_ret
        exact ⟨rfl, by (have bsz_ := (HW3.out).size; (repeat (any_goals (first | (with_reducible exact HW3.out) | (with_reducible exact Below.refl _ _) | (with_reducible apply Below.drew) | (with_reducible apply below_drewN) | (with_reducible refine Below.alloc ?_ ?_ _) | (with_reducible refine Below.setCell ?_ ?_ _)))); all_goals (first | exact Nat.le_refl _ | (simp; done) | (simp; omega) | omega))⟩
end Go.Proofs.Ytdjfkehbknbocaa

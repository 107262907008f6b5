/- The walk of HealthFalls. -/
import Derived.Test.YtdjfkehbknbocaaHealthF
namespace Go.Proofs.Ytdjfkehbknbocaa
open Go.RowKit
set_option linter.unusedSimpArgs false
set_option linter.unusedVariables false

theorem info_bool : (Try.prog.info? 4).map (fun i => (i.zero, i.size, i.bytes)) = some (some (.bool false), 1, 1) := by kernel_rfl
set_option maxRecDepth 100000 in
set_option maxHeartbeats 8000000 in
theorem falls_walk (A B : Option Addr) (n m ca cb : Nat) (cs : List Int) (bs : List Bool) (spare limit third : Int) (w : World) (hA : Sl eInt 1 w A n cs) (hB : Sl eBool 1 w B m bs) (hs : spare ≤ 9223372036854775807) (h3 : Fits' third) :
    Calls Try.prog 7 #[.slice A n ca, .slice B m cb, .agg #[.int .i64 spare, .int .i64 limit, .int .i64 third]] w fun e w' => e = .returned (.bool true) ∧ Below w.heap.size w w' := by
  have hbg := hA.big
  have hbg2 := hB.big
  have HA := Lib.hid hA
  clear hA
  have HB := Lib.hid hB
  clear hB
  by_cases c1 : 300 < n
  · go_enter Try.func7, Try.ntmps7
    go_wp2_with fail
    refine (works40 _).mono ?_
    rintro e w1 ⟨rfl, hb1⟩
    have hk1 : Blk w1 w.heap.size 41 #[.int .i64 spare, .int .i64 limit, .int .i64 third] := (Blk.new w _ _).below_ hb1
    have hw1 : Below w.heap.size w w1 := ((Below.refl _ w).alloc (Nat.le_refl _) _).trans (hb1.mono (by simp))
    have c0 := (hk1.cell 0).trans rfl
    have c1 := (hk1.cell 1).trans rfl
    have c2 := (hk1.cell 2).trans rfl
    have HW1 := Lib.hid hw1
    clear hw1
    clear hb1 hk1
    go_wp2
    go_ret
    exact ⟨rfl, HW1.out⟩
  by_cases c2 : ((n : Int) == 0) = true
  · go_enter Try.func7, Try.ntmps7
    go_wp2_with fail
    refine (works40 _).mono ?_
    rintro e w1 ⟨rfl, hb1⟩
    have hk1 : Blk w1 w.heap.size 41 #[.int .i64 spare, .int .i64 limit, .int .i64 third] := (Blk.new w _ _).below_ hb1
    have hw1 : Below w.heap.size w w1 := ((Below.refl _ w).alloc (Nat.le_refl _) _).trans (hb1.mono (by simp))
    have c0 := (hk1.cell 0).trans rfl
    have c1 := (hk1.cell 1).trans rfl
    have c2 := (hk1.cell 2).trans rfl
    have HW1 := Lib.hid hw1
    clear hw1
    clear hb1 hk1
    go_wp2
    go_ret
    exact ⟨rfl, HW1.out⟩
  have c2' : ((n : Int) == 0) = false := by simpa using c2
  have hn0 : 0 < n := by simp at c2'; omega
  clear c2
  by_cases c3 : ((m : Int) != n) = true
  · go_enter Try.func7, Try.ntmps7
    go_wp2_with fail
    refine (works40 _).mono ?_
    rintro e w1 ⟨rfl, hb1⟩
    have hk1 : Blk w1 w.heap.size 41 #[.int .i64 spare, .int .i64 limit, .int .i64 third] := (Blk.new w _ _).below_ hb1
    have hw1 : Below w.heap.size w w1 := ((Below.refl _ w).alloc (Nat.le_refl _) _).trans (hb1.mono (by simp))
    have c0 := (hk1.cell 0).trans rfl
    have c1 := (hk1.cell 1).trans rfl
    have c2 := (hk1.cell 2).trans rfl
    have HW1 := Lib.hid hw1
    clear hw1
    clear hb1 hk1
    go_wp2
    go_ret
    exact ⟨rfl, HW1.out⟩
  have c3' : m = n := by simp at c3; omega
  subst c3'
  clear c3
  by_cases c4 : spare < 0
  · go_enter Try.func7, Try.ntmps7
    go_wp2_with fail
    refine (works40 _).mono ?_
    rintro e w1 ⟨rfl, hb1⟩
    have hk1 : Blk w1 w.heap.size 41 #[.int .i64 spare, .int .i64 limit, .int .i64 third] := (Blk.new w _ _).below_ hb1
    have hw1 : Below w.heap.size w w1 := ((Below.refl _ w).alloc (Nat.le_refl _) _).trans (hb1.mono (by simp))
    have c0 := (hk1.cell 0).trans rfl
    have c1 := (hk1.cell 1).trans rfl
    have c2 := (hk1.cell 2).trans rfl
    have HW1 := Lib.hid hw1
    clear hw1
    clear hb1 hk1
    go_wp2
    go_ret
    exact ⟨rfl, HW1.out⟩
  by_cases c5 : limit < 1
  · go_enter Try.func7, Try.ntmps7
    go_wp2_with fail
    refine (works40 _).mono ?_
    rintro e w1 ⟨rfl, hb1⟩
    have hk1 : Blk w1 w.heap.size 41 #[.int .i64 spare, .int .i64 limit, .int .i64 third] := (Blk.new w _ _).below_ hb1
    have hw1 : Below w.heap.size w w1 := ((Below.refl _ w).alloc (Nat.le_refl _) _).trans (hb1.mono (by simp))
    have c0 := (hk1.cell 0).trans rfl
    have c1 := (hk1.cell 1).trans rfl
    have c2 := (hk1.cell 2).trans rfl
    have HW1 := Lib.hid hw1
    clear hw1
    clear hb1 hk1
    go_wp2
    go_ret
    exact ⟨rfl, HW1.out⟩
  by_cases c6 : 16777215 < limit
  · go_enter Try.func7, Try.ntmps7
    go_wp2_with fail
    refine (works40 _).mono ?_
    rintro e w1 ⟨rfl, hb1⟩
    have hk1 : Blk w1 w.heap.size 41 #[.int .i64 spare, .int .i64 limit, .int .i64 third] := (Blk.new w _ _).below_ hb1
    have hw1 : Below w.heap.size w w1 := ((Below.refl _ w).alloc (Nat.le_refl _) _).trans (hb1.mono (by simp))
    have c0 := (hk1.cell 0).trans rfl
    have c1 := (hk1.cell 1).trans rfl
    have c2 := (hk1.cell 2).trans rfl
    have HW1 := Lib.hid hw1
    clear hw1
    clear hb1 hk1
    go_wp2
    go_ret
    exact ⟨rfl, HW1.out⟩
  have hat0 := Int.emod_nonneg third (show (m : Int) ≠ 0 by omega)
  have hat1 := Int.emod_lt_of_pos third (show (0 : Int) < m by omega)
  obtain ⟨j, hj⟩ := Int.eq_ofNat_of_zero_le hat0
  have hbw := fun W => below_any third m h3 (by omega) (by omega) W
  rw [hj] at hbw hat1
  have hjm : j < m := by omega
  have hlA := HA.out.len
  have hlB := HB.out.len
  obtain ⟨x, hx⟩ : ∃ x, cs[j]? = some x := ⟨cs[j]'(by omega), List.getElem?_eq_getElem (by omega)⟩
  have hcx := clampC_bd x
  have hmore := falls_more cs bs (by omega) j x (clampC x + 5) hx (by unfold clampC mn mx at *; (repeat' split) <;> omega) spare limit (by omega)
  have hgone := falls_gone cs bs (by omega) j spare limit
  have o1 := fun W hW => of_ok A B m ca cb cs bs spare limit W (by omega) (HA.out.below hW) (HB.out.below hW) (by omega) hs (by omega) (by omega)
  have o2 := fun W V vc hV hW => of_ok V B m vc cb (cs.set j (clampC x + 5)) bs spare limit W (by omega) hV (HB.out.below hW) (by omega) hs (by omega) (by omega)
  have o3 := fun W V vc hV hW => of_ok A V m ca vc cs (bs.set j true) spare limit W (by omega) (HA.out.below hW) hV (by omega) hs (by omega) (by omega)
  generalize (Hs.zero.fold cs bs).ends spare limit = p at *
  generalize (Hs.zero.fold (cs.set j (clampC x + 5)) bs).ends spare limit = q at *
  generalize (Hs.zero.fold cs (bs.set j true)).ends spare limit = r at *
  have hgp := grade_any p
  have hgq := grade_any q
  obtain ⟨m1, m2⟩ := hmore
  obtain ⟨n1, n2⟩ := hgone
  generalize p.grade = gp at *
  generalize q.grade = gq at *
  obtain ⟨p0, p1, p2, p3, p4, p5, p6, p7⟩ := p
  obtain ⟨q0, q1, q2, q3, q4, q5, q6, q7⟩ := q
  obtain ⟨r0, r1, r2, r3, r4, r5, r6, r7⟩ := r
  simp only [Hs.agg] at m1 m2 n1 n2 o1 o2 o3 hgp hgq
  unfold clampC at hcx
  obtain ⟨hcx0, hcx1⟩ := hcx
  have HX := Lib.hid hx
  have HJ := Lib.hid hj
  have HBW := Lib.hid hbw
  clear hbw
  have O1 := Lib.hid o1
  clear o1
  have O2 := Lib.hid o2
  clear o2
  have O3 := Lib.hid o3
  clear o3
  have HGP := Lib.hid hgp
  clear hgp
  have HGQ := Lib.hid hgq
  clear hgq
  clear hx hj hat0
  go_enter Try.func7, Try.ntmps7
  go_wp2_with fail
  refine (works40 _).mono ?_
  rintro e w1 ⟨rfl, hb1⟩
  have hk1 : Blk w1 w.heap.size 41 #[.int .i64 spare, .int .i64 limit, .int .i64 third] := (Blk.new w _ _).below_ hb1
  have hw1 : Below w.heap.size w w1 := ((Below.refl _ w).alloc (Nat.le_refl _) _).trans (hb1.mono (by simp))
  have c0 := (hk1.cell 0).trans rfl
  have c1 := (hk1.cell 1).trans rfl
  have c2 := (hk1.cell 2).trans rfl
  have HK1 := Lib.hid hk1
  have HW1 := Lib.hid hw1
  clear hw1
  clear hb1 hk1
  go_wp2_with fail
  refine (O1.out _ HW1.out).mono ?_
  rintro e w2 ⟨rfl, hb2⟩
  have hk2 := HK1.out.below_ hb2
  have hw2 := below_tr HW1.out hb2
  clear c0 c1 c2
  have c0 := (hk2.cell 0).trans rfl
  have c1 := (hk2.cell 1).trans rfl
  have c2 := (hk2.cell 2).trans rfl
  have hlt2 := hk2.lt
  have HK2 := Lib.hid hk2
  have HW2 := Lib.hid hw2
  clear hw2
  clear hb2 hk2
  go_wp2_with fail
  refine (HBW.out _).mono ?_
  rintro e w3 ⟨rfl, rfl⟩
  have hsA := ((HA.out.below HW2.out).below ((Below.refl _ w2).alloc (Nat.le_refl _) (.cells #[.int .i64 p0, .int .i64 p1, .int .i64 p2, .int .i64 p3, .int .i64 p4, .int .i64 p5, .int .i64 p6] 35))).below ((Below.refl _ _).alloc (Nat.le_refl _) (.cells #[] 3))
  have HSA := Lib.hid hsA
  clear hsA
  go_wp2_with (first | (at_builtin; refine wpList_apps rfl (.tmp 63) (.tmp 64) 32 rfl Try.underlying32 info_int rfl (by omega) (by omega) (fun _ => rfl) (by simp [eInt, Value.oneCell']) (v := .slice (some ⟨w2.heap.size + 1, 0, none⟩) 0 0) rfl (own_empty1 (base := w2.heap.size + 1) w2 _ 3 1 (Nat.le_refl _)) rfl HSA.out hn0 (by omega) (by simp) ?_; intro g cap w4 hown4 hg4 hor4 hlt4; simp only [Nat.zero_add, List.nil_append] at hown4 ⊢; go_must (have hxc := own_cell hown4 j _ (eInts_get cs j x HX.out); have hxf := own_frozen hown4 j; have HK4 := Lib.hid (((HK2.out.alloc _).alloc _).grown hg4 (by intro e; simp [Value.ownBlock] at e; omega)); have h40 := (HK4.out.cell 0).trans rfl; have h41 := (HK4.out.cell 1).trans rfl; have HG4 := Lib.hid hg4; have HO4 := Lib.hid hown4; have hgb := own_base hown4 g rfl; have HLT4 := Lib.hid hlt4; clear hg4 hown4 hor4 c0 c1 c2 hlt4)))
  have hgne : g ≠ w.heap.size := by have := HK2.out.lt; omega
  have hst := HO4.out.stored j (.int .i64 (mn (mx x 0) 16777215 + 5))
  rw [eInts_set] at hst
  have hw4 : Below w.heap.size w w4 := ((HW2.out.alloc HW2.out.size _).alloc (by have := HW2.out.size; simp; omega) _).grown HG4.out (by have := HW2.out.size; simp; omega) (fun k hk => by simp [Value.ownBlock] at hk; have := HW2.out.size; omega)
  have hw5 : Below w.heap.size w (w4.setCell ⟨g, j, none⟩ (.int .i64 (mn (mx x 0) 16777215 + 5))) := hw4.setCell (by have := HW2.out.size; show w.heap.size ≤ g; omega) _
  refine (O2.out _ _ _ (Sl.own (enc := eInt) (k := 1) (fun _ => rfl) (by omega) hst.1) hw5).mono ?_
  rintro e w6 ⟨rfl, hb6⟩
  have hp4 : Blk w4 w2.heap.size 35 #[.int .i64 p0, .int .i64 p1, .int .i64 p2, .int .i64 p3, .int .i64 p4, .int .i64 p5, .int .i64 p6] := ((Blk.new w2 _ _).alloc _).grown HG4.out (by simp [Value.ownBlock])
  have hk6 := (HK4.out.far (p := ⟨g, j, none⟩) (fun e => hgne e.symm) (.int .i64 (mn (mx x 0) 16777215 + 5))).below_ hb6
  have hp6 := (hp4.far (p := ⟨g, j, none⟩) (by show w2.heap.size ≠ g; omega) (.int .i64 (mn (mx x 0) 16777215 + 5))).below_ hb6
  have hw6 := below_tr hw5 hb6
  clear hst hw4 hw5 hp4 hb6 HG4 HO4 h40 h41 hxc hxf
  have c0 := (hk6.cell 0).trans rfl
  have c1 := (hk6.cell 1).trans rfl
  have hlt6 := hk6.lt
  have hlp6 := hp6.lt
  have HK6 := Lib.hid hk6
  have HP6 := Lib.hid hp6
  clear hp6
  have HW6 := Lib.hid hw6
  clear hw6
  clear hk6 HK2 HW2 HSA HK4 HLT4
  have hsB := ((HB.out.below HW6.out).below ((Below.refl _ w6).alloc (Nat.le_refl _) (.cells #[.int .i64 q0, .int .i64 q1, .int .i64 q2, .int .i64 q3, .int .i64 q4, .int .i64 q5, .int .i64 q6] 35))).below ((Below.refl _ _).alloc (Nat.le_refl _) (.cells #[] 4))
  obtain ⟨y, hy⟩ : ∃ y, bs[j]? = some y := ⟨bs[j]'(by omega), List.getElem?_eq_getElem (by omega)⟩
  have HY := Lib.hid hy
  clear hy
  have HSB := Lib.hid hsB
  clear hsB
  go_wp2_with (first | (at_builtin; refine wpList_apps rfl (.tmp 86) (.tmp 87) 33 rfl Try.underlying33 info_bool rfl (by omega) (by omega) (fun _ => rfl) (by simp [eBool, Value.oneCell']) (v := .slice (some ⟨w6.heap.size + 1, 0, none⟩) 0 0) rfl (own_empty1 (base := w6.heap.size + 1) w6 _ 4 1 (Nat.le_refl _)) rfl HSB.out hn0 (by omega) (by simp) ?_; intro g2 cap2 w8 hown8 hg8 hor8 hlt8; simp only [Nat.zero_add, List.nil_append] at hown8 ⊢; go_must (have hxc := own_cell hown8 j _ (eBools_get bs j y HY.out); have hxf := own_frozen hown8 j; have HK8 := Lib.hid (((HK6.out.alloc _).alloc _).grown hg8 (by intro e; simp [Value.ownBlock] at e; omega)); have h80 := (HK8.out.cell 0).trans rfl; have h81 := (HK8.out.cell 1).trans rfl; have HG8 := Lib.hid hg8; have HO8 := Lib.hid hown8; have hgb2 := own_base hown8 g2 rfl; clear hg8 hown8 hor8 c0 c1 hlt8)))
  have hgne2 : g2 ≠ w.heap.size := by omega
  have hst := HO8.out.stored j (.bool true)
  rw [eBools_set] at hst
  have hw8 : Below w.heap.size w w8 := ((HW6.out.alloc HW6.out.size _).alloc (by have := HW6.out.size; simp; omega) _).grown HG8.out (by have := HW6.out.size; simp; omega) (fun k hk => by simp [Value.ownBlock] at hk; have := HW6.out.size; omega)
  have hw9 : Below w.heap.size w (w8.setCell ⟨g2, j, none⟩ (.bool true)) := hw8.setCell (by have := HW6.out.size; show w.heap.size ≤ g2; omega) _
  refine (O3.out _ _ _ (Sl.own (enc := eBool) (k := 1) (fun _ => rfl) (by omega) hst.1) hw9).mono ?_
  rintro e w10 ⟨rfl, hb10⟩
  have hq8 : Blk w8 w6.heap.size 35 #[.int .i64 q0, .int .i64 q1, .int .i64 q2, .int .i64 q3, .int .i64 q4, .int .i64 q5, .int .i64 q6] := ((Blk.new w6 _ _).alloc _).grown HG8.out (by simp [Value.ownBlock])
  have hp8 : Blk w8 w2.heap.size 35 #[.int .i64 p0, .int .i64 p1, .int .i64 p2, .int .i64 p3, .int .i64 p4, .int .i64 p5, .int .i64 p6] := ((HP6.out.alloc _).alloc _).grown HG8.out (by intro e; simp [Value.ownBlock] at e; omega)
  have hp10 := (hp8.far (p := ⟨g2, j, none⟩) (by show w2.heap.size ≠ g2; omega) (.bool true)).below_ hb10
  have hq10 := (hq8.far (p := ⟨g2, j, none⟩) (by show w6.heap.size ≠ g2; omega) (.bool true)).below_ hb10
  have hw10 := below_tr hw9 hb10
  have ht : ∀ W, Below (w10.alloc (.cells #[.int .i64 r0, .int .i64 r1, .int .i64 r2, .int .i64 r3, .int .i64 r4, .int .i64 r5, .int .i64 r6] 35)).drew.heap.size (w10.alloc (.cells #[.int .i64 r0, .int .i64 r1, .int .i64 r2, .int .i64 r3, .int .i64 r4, .int .i64 r5, .int .i64 r6] 35)).drew W → W.cell? ⟨w2.heap.size, 0, none⟩ = some (.int .i64 p0) ∧ W.cell? ⟨w2.heap.size, 1, none⟩ = some (.int .i64 p1) ∧ W.cell? ⟨w2.heap.size, 2, none⟩ = some (.int .i64 p2) ∧ W.cell? ⟨w2.heap.size, 3, none⟩ = some (.int .i64 p3) ∧ W.cell? ⟨w2.heap.size, 4, none⟩ = some (.int .i64 p4) ∧ W.cell? ⟨w2.heap.size, 5, none⟩ = some (.int .i64 p5) ∧ W.cell? ⟨w2.heap.size, 6, none⟩ = some (.int .i64 p6) ∧ W.cell? ⟨w6.heap.size, 0, none⟩ = some (.int .i64 q0) ∧ W.cell? ⟨w6.heap.size, 1, none⟩ = some (.int .i64 q1) ∧ W.cell? ⟨w6.heap.size, 2, none⟩ = some (.int .i64 q2) ∧ W.cell? ⟨w6.heap.size, 3, none⟩ = some (.int .i64 q3) ∧ W.cell? ⟨w6.heap.size, 4, none⟩ = some (.int .i64 q4) ∧ W.cell? ⟨w6.heap.size, 5, none⟩ = some (.int .i64 q5) ∧ W.cell? ⟨w6.heap.size, 6, none⟩ = some (.int .i64 q6) ∧ W.cell? ⟨w10.heap.size, 0, none⟩ = some (.int .i64 r0) ∧ W.cell? ⟨w10.heap.size, 2, none⟩ = some (.int .i64 r2) := fun W hb =>
    ⟨(((hp10.alloc _).drew.below_ hb).cell 0).trans rfl, (((hp10.alloc _).drew.below_ hb).cell 1).trans rfl, (((hp10.alloc _).drew.below_ hb).cell 2).trans rfl, (((hp10.alloc _).drew.below_ hb).cell 3).trans rfl, (((hp10.alloc _).drew.below_ hb).cell 4).trans rfl, (((hp10.alloc _).drew.below_ hb).cell 5).trans rfl, (((hp10.alloc _).drew.below_ hb).cell 6).trans rfl, (((hq10.alloc _).drew.below_ hb).cell 0).trans rfl, (((hq10.alloc _).drew.below_ hb).cell 1).trans rfl, (((hq10.alloc _).drew.below_ hb).cell 2).trans rfl, (((hq10.alloc _).drew.below_ hb).cell 3).trans rfl, (((hq10.alloc _).drew.below_ hb).cell 4).trans rfl, (((hq10.alloc _).drew.below_ hb).cell 5).trans rfl, (((hq10.alloc _).drew.below_ hb).cell 6).trans rfl, (((Blk.new w10 _ _).drew.below_ hb).cell 0).trans rfl, (((Blk.new w10 _ _).drew.below_ hb).cell 2).trans rfl⟩
  have hw11 := hw10.alloc hw10.size (.cells #[.int .i64 r0, .int .i64 r1, .int .i64 r2, .int .i64 r3, .int .i64 r4, .int .i64 r5, .int .i64 r6] 35)
  have ht0 : (w10.alloc (.cells #[.int .i64 r0, .int .i64 r1, .int .i64 r2, .int .i64 r3, .int .i64 r4, .int .i64 r5, .int .i64 r6] 35)).cell? ⟨w2.heap.size, 0, none⟩ = some (.int .i64 p0) ∧ (w10.alloc (.cells #[.int .i64 r0, .int .i64 r1, .int .i64 r2, .int .i64 r3, .int .i64 r4, .int .i64 r5, .int .i64 r6] 35)).cell? ⟨w2.heap.size, 1, none⟩ = some (.int .i64 p1) ∧ (w10.alloc (.cells #[.int .i64 r0, .int .i64 r1, .int .i64 r2, .int .i64 r3, .int .i64 r4, .int .i64 r5, .int .i64 r6] 35)).cell? ⟨w2.heap.size, 2, none⟩ = some (.int .i64 p2) ∧ (w10.alloc (.cells #[.int .i64 r0, .int .i64 r1, .int .i64 r2, .int .i64 r3, .int .i64 r4, .int .i64 r5, .int .i64 r6] 35)).cell? ⟨w2.heap.size, 3, none⟩ = some (.int .i64 p3) ∧ (w10.alloc (.cells #[.int .i64 r0, .int .i64 r1, .int .i64 r2, .int .i64 r3, .int .i64 r4, .int .i64 r5, .int .i64 r6] 35)).cell? ⟨w2.heap.size, 4, none⟩ = some (.int .i64 p4) ∧ (w10.alloc (.cells #[.int .i64 r0, .int .i64 r1, .int .i64 r2, .int .i64 r3, .int .i64 r4, .int .i64 r5, .int .i64 r6] 35)).cell? ⟨w2.heap.size, 5, none⟩ = some (.int .i64 p5) ∧ (w10.alloc (.cells #[.int .i64 r0, .int .i64 r1, .int .i64 r2, .int .i64 r3, .int .i64 r4, .int .i64 r5, .int .i64 r6] 35)).cell? ⟨w2.heap.size, 6, none⟩ = some (.int .i64 p6) ∧ (w10.alloc (.cells #[.int .i64 r0, .int .i64 r1, .int .i64 r2, .int .i64 r3, .int .i64 r4, .int .i64 r5, .int .i64 r6] 35)).cell? ⟨w6.heap.size, 0, none⟩ = some (.int .i64 q0) ∧ (w10.alloc (.cells #[.int .i64 r0, .int .i64 r1, .int .i64 r2, .int .i64 r3, .int .i64 r4, .int .i64 r5, .int .i64 r6] 35)).cell? ⟨w6.heap.size, 1, none⟩ = some (.int .i64 q1) ∧ (w10.alloc (.cells #[.int .i64 r0, .int .i64 r1, .int .i64 r2, .int .i64 r3, .int .i64 r4, .int .i64 r5, .int .i64 r6] 35)).cell? ⟨w6.heap.size, 2, none⟩ = some (.int .i64 q2) ∧ (w10.alloc (.cells #[.int .i64 r0, .int .i64 r1, .int .i64 r2, .int .i64 r3, .int .i64 r4, .int .i64 r5, .int .i64 r6] 35)).cell? ⟨w6.heap.size, 3, none⟩ = some (.int .i64 q3) ∧ (w10.alloc (.cells #[.int .i64 r0, .int .i64 r1, .int .i64 r2, .int .i64 r3, .int .i64 r4, .int .i64 r5, .int .i64 r6] 35)).cell? ⟨w6.heap.size, 4, none⟩ = some (.int .i64 q4) ∧ (w10.alloc (.cells #[.int .i64 r0, .int .i64 r1, .int .i64 r2, .int .i64 r3, .int .i64 r4, .int .i64 r5, .int .i64 r6] 35)).cell? ⟨w6.heap.size, 5, none⟩ = some (.int .i64 q5) ∧ (w10.alloc (.cells #[.int .i64 r0, .int .i64 r1, .int .i64 r2, .int .i64 r3, .int .i64 r4, .int .i64 r5, .int .i64 r6] 35)).cell? ⟨w6.heap.size, 6, none⟩ = some (.int .i64 q6) ∧ (w10.alloc (.cells #[.int .i64 r0, .int .i64 r1, .int .i64 r2, .int .i64 r3, .int .i64 r4, .int .i64 r5, .int .i64 r6] 35)).cell? ⟨w10.heap.size, 0, none⟩ = some (.int .i64 r0) ∧ (w10.alloc (.cells #[.int .i64 r0, .int .i64 r1, .int .i64 r2, .int .i64 r3, .int .i64 r4, .int .i64 r5, .int .i64 r6] 35)).cell? ⟨w10.heap.size, 2, none⟩ = some (.int .i64 r2) := ht (w10.alloc (.cells #[.int .i64 r0, .int .i64 r1, .int .i64 r2, .int .i64 r3, .int .i64 r4, .int .i64 r5, .int .i64 r6] 35)).drew (Below.refl _ _)
  obtain ⟨t0, t1, t2, t3, t4, t5, t6, t7, t8, t9, t10, t11, t12, t13, t14, t15⟩ := ht0
  have HT := Lib.hid ht
  clear ht
  have HW11 := Lib.hid hw11
  clear hw11
  clear hst hw8 hw9 hp8 hq8 hp10 hq10 hb10 HG8 HO8 h80 h81 hxc hxf hw10 HP6 HK6 HW6 HK8 HSB
  go_wp2_with fail
  go_region_held3 (fun w' => w'.cell? ⟨w2.heap.size, 0, none⟩ = some (.int .i64 p0) ∧ w'.cell? ⟨w2.heap.size, 1, none⟩ = some (.int .i64 p1) ∧ w'.cell? ⟨w2.heap.size, 2, none⟩ = some (.int .i64 p2) ∧ w'.cell? ⟨w2.heap.size, 3, none⟩ = some (.int .i64 p3) ∧ w'.cell? ⟨w2.heap.size, 4, none⟩ = some (.int .i64 p4) ∧ w'.cell? ⟨w2.heap.size, 5, none⟩ = some (.int .i64 p5) ∧ w'.cell? ⟨w2.heap.size, 6, none⟩ = some (.int .i64 p6) ∧ w'.cell? ⟨w6.heap.size, 0, none⟩ = some (.int .i64 q0) ∧ w'.cell? ⟨w6.heap.size, 1, none⟩ = some (.int .i64 q1) ∧ w'.cell? ⟨w6.heap.size, 2, none⟩ = some (.int .i64 q2) ∧ w'.cell? ⟨w6.heap.size, 3, none⟩ = some (.int .i64 q3) ∧ w'.cell? ⟨w6.heap.size, 4, none⟩ = some (.int .i64 q4) ∧ w'.cell? ⟨w6.heap.size, 5, none⟩ = some (.int .i64 q5) ∧ w'.cell? ⟨w6.heap.size, 6, none⟩ = some (.int .i64 q6) ∧ w'.cell? ⟨w10.heap.size, 0, none⟩ = some (.int .i64 r0) ∧ w'.cell? ⟨w10.heap.size, 2, none⟩ = some (.int .i64 r2)) (first | go_keep | (exact k1) | (exact k2))
    (first | (go_at_call 23; first | ((with_reducible refine (HGQ.out _).mono ?_); rintro e w12 ⟨rfl, hb12⟩; have k1 := HT.out _ hb12) | ((with_reducible refine (HGP.out _).mono ?_); rintro e w13 ⟨rfl, hb13⟩; have hb14 := below_tr hb12 hb13; have k2 := HT.out _ hb14)))
  go_wp2
  go_ret
  exact ⟨rfl, below_tr HW11.out.drew hb14⟩
end Go.Proofs.Ytdjfkehbknbocaa

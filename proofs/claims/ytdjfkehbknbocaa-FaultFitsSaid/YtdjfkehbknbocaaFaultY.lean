/- The walk of FaultFits. -/
import Derived.Test.YtdjfkehbknbocaaFaultX
namespace Go.Proofs.Ytdjfkehbknbocaa
open Go.RowKit Go.Shelf
set_option linter.unusedSimpArgs false
set_option linter.unusedVariables false

abbrev fcells (W : World) (g x0 x1 : Nat) (a b : Int) : Prop := W.cell? ⟨g, x0, none⟩ = some (.int .i64 a) ∧ W.cell? ⟨g, x1, none⟩ = some (.int .i64 b)
theorem fits_split {kind op : Int} (h : fitsB kind op = true) : (kind = 1 ∧ 1 ≤ op ∧ op ≤ 5) ∨ (kind = 2 ∧ 1 < op ∧ op ≤ 5) ∨ (kind = 3 ∧ op = 1) := by
  simp only [fitsB, Bool.or_eq_true, Bool.and_eq_true, beq_iff_eq, decide_eq_true_eq] at h
  omega
set_option maxRecDepth 100000 in
set_option maxHeartbeats 8000000 in
theorem fits_walk (A : Option Addr) (n c : Nat) (xs : List Ft) (at_ op : Int) (w : World) (hA : Sl eFt 4 w A n xs) :
    Calls Try.prog 8 #[.slice A n c, .int .i64 at_, .int .i64 op] w fun e w' => e = .returned (.bool true) ∧ Below w.heap.size w w' := by
  have hbig := hA.big
  have hlen := hA.len
  have HA := Lib.hid hA
  clear hA
  by_cases c1 : 300 < n
  · go_enter Try.func8, Try.ntmps8
    go_wp2_with fail
    refine (works09 _).mono ?_
    rintro e w1 ⟨rfl, hb1⟩
    have HB1 := Lib.hid hb1
    clear hb1
    go_wp2
    go_ret
    exact ⟨rfl, HB1.out⟩
  have c2 : ¬ (300 : Int) < (n : Int) := by omega
  have m1 := fun W hW => meets_any A n c xs at_ op W (HA.out.below hW)
  rcases find_split (hit at_ op) xs with ⟨k0, x, hx, hf, hp, _⟩ | ⟨hf, _⟩
  · rw [hf] at m1
    have hxm := List.mem_of_getElem? hx
    have he := fun y0 y1 y2 y3 W => eqFault y0 y1 y2 y3 x.at_ x.kind x.a x.b W
    have hself : eqF x.at_ x.kind x.a x.b x = true := by simp [eqF]
    obtain ⟨x0, x1, x2, x3⟩ := x
    simp only [met, Ft.agg] at m1 he hself
    simp only [hit, Bool.and_eq_true, beq_iff_eq] at hp
    obtain ⟨h0, hfit⟩ := hp
    have hks := fits_split hfit
    have hk0 : x1 ≠ 0 := by omega
    have hfits : Hid ((x1 = 1 ∧ 1 ≤ op ∧ op ≤ 5) ∨ (x1 = 2 ∧ 1 < op ∧ op ≤ 5) ∨ (x1 = 3 ∧ op = 1)) := hks
    subst h0
    have HXM := Lib.hid hxm
    have HSELF := Lib.hid hself
    have M1 := Lib.hid m1
    clear m1
    have HK0 := Lib.hid hk0
    clear hf hfit hks hxm hx hself hk0 hbig
    go_enter Try.func8, Try.ntmps8
    go_wp2_with fail
    refine (works09 _).mono ?_
    rintro e w1 ⟨rfl, hb1⟩
    have HB1 := Lib.hid hb1
    clear hb1
    go_wp2_with fail
    refine (M1.out _ HB1.out).mono ?_
    rintro e w2 ⟨rfl, hb2⟩
    have hw2 := below_tr HB1.out hb2
    have HS : Hid (Below w.heap.size w (w2.alloc (.cells #[.int .i64 x0, .int .i64 x1, .int .i64 x2, .int .i64 x3] 26)) ∧ Blk (w2.alloc (.cells #[.int .i64 x0, .int .i64 x1, .int .i64 x2, .int .i64 x3] 26)) w2.heap.size 26 #[.int .i64 x0, .int .i64 x1, .int .i64 x2, .int .i64 x3]) :=
      ⟨hw2.alloc hw2.size _, Blk.new _ _ _⟩
    have HLT2 : Hid (w.heap.size ≤ w2.heap.size) := hw2.size
    clear hb2 hw2 M1 HB1
    go_wp2
    go_loopw [9, 33] (fun i j wr => ∃ (k : Nat) (b : Bool), k ≤ n ∧ i = .bool b ∧ j = .int .i64 k ∧ Hid (b = (xs.take k).any (eqF x0 x1 x2 x3)) ∧ Hid (Below w.heap.size w wr ∧ Blk wr w2.heap.size 26 #[.int .i64 x0, .int .i64 x1, .int .i64 x2, .int .i64 x3]))
      (fun _ j _ => n - (intOf j).toNat)
    case atStart => exact ⟨0, false, Nat.zero_le _, rfl, rfl, rfl, HS⟩
    case round =>
      clear HS
      obtain ⟨k, b, hk, rfl, rfl, HB, H⟩ := hrel
      by_cases hlt : k < n
      · obtain ⟨bl, off, y, rfl, hb, hy, c0, c1, c2, c3⟩ := (HA.out.below H.out.1).ft_ hlt
        have hsn := any_snoc (eqF x0 x1 x2 x3) xs k y hy
        rw [← HB.out] at hsn
        obtain ⟨y0, y1, y2, y3⟩ := y
        simp only [eqF] at hsn c0 c1 c2 c3
        have hkk := H.out.2
        have d0 := (hkk.cell 0).trans rfl
        have d1 := (hkk.cell 1).trans rfl
        have d2 := (hkk.cell 2).trans rfl
        have d3 := (hkk.cell 3).trans rfl
        have hkl := hkk.lt
        have H2 : Hid (Below w.heap.size w (wr.alloc (.cells #[.int .i64 y0, .int .i64 y1, .int .i64 y2, .int .i64 y3] 26)) ∧ Blk (wr.alloc (.cells #[.int .i64 y0, .int .i64 y1, .int .i64 y2, .int .i64 y3] 26)) w2.heap.size 26 #[.int .i64 x0, .int .i64 x1, .int .i64 x2, .int .i64 x3]) :=
          ⟨H.out.1.alloc H.out.1.size _, H.out.2.alloc _⟩
        clear hy HB H hkk
        have hez := he y0 y1 y2 y3
        cases b with
        | true =>
          simp only [Bool.true_or] at hsn
          have HSN := Lib.hid hsn
          clear hsn
          clear hez he
          go_wp2
          go_roundw
          case rel => exact ⟨k + 1, true, by omega, rfl, by go_num, HSN.out.symm, H2⟩
          case measure => simp [intOf]; omega
        | false =>
          generalize (y0 == x0 && (y1 == x1 && (y2 == x2 && (y3 == x3 && true)))) = q at hez hsn
          simp only [Bool.false_or] at hsn
          have HSN := Lib.hid hsn
          clear hsn
          clear he
          go_wp2
          go_roundw
          case rel => exact ⟨k + 1, q, by omega, rfl, by go_num, HSN.out.symm, H2⟩
          case measure => simp [intOf]; omega
      · have : k = n := by omega
        subst this
        have hbt : b = true := by
          rw [HB.out, List.take_of_length_le (by omega), List.any_eq_true]
          exact ⟨_, HXM.out, HSELF.out⟩
        subst hbt
        have hwi := fun W hW => without_any A k c xs x1 W (by omega) (HA.out.below hW)
        obtain ⟨z0, z1, z2, z3, zb, hz, hzk⟩ := find_filter x1 x0 op xs HK0.out
        have m2 := fun W A2 n2 c2 hA2 => meets_any A2 n2 c2 (xs.filter (keepK x1)) x0 op W hA2
        rw [hz] at m2
        have hct := fun W A2 n2 c2 below hA2 => count_any A2 n2 c2 (xs.filter (keepK x1)) x1 below W hA2
        simp only [count_filter] at hct
        have hkk := H.out.2
        have d0 := (hkk.cell 0).trans rfl
        have d1 := (hkk.cell 1).trans rfl
        have d2 := (hkk.cell 2).trans rfl
        have d3 := (hkk.cell 3).trans rfl
        have hkl := hkk.lt
        have H3 := Lib.hid (And.intro H.out.1 hkk)
        have HWI := Lib.hid hwi
        clear hwi
        have M2 := Lib.hid m2
        clear m2
        have HCT := Lib.hid hct
        clear hct
        clear HB H hkk hz HSELF HXM HA he
        have hzk' : (z1 != x1) = true := by rw [bne, hzk]; rfl
        have HZ := Lib.hid hzk'
        clear hzk hzk'
        have fin : ∀ (W : World) (g : Nat), Blk W g 26 #[.int .i64 x0, .int .i64 x1, .int .i64 x2, .int .i64 x3] → W.cell? ⟨g, 1, none⟩ = some (.int .i64 x1) := fun W g h => (h.cell 1).trans rfl
        have FIN := Lib.hid fin
        clear fin
        have hc5 : (x1 = 1 ∧ op = 1) ∨ (x1 = 1 ∧ 1 < op ∧ op ≤ 5) ∨ (x1 = 2 ∧ 1 < op ∧ op ≤ 5) ∨ (x1 = 3 ∧ op = 1) := by
          have := hfits.out
          omega
        clear hfits HK0
        rcases hc5 with ⟨ek, rfl⟩ | ⟨ek, o1, o5⟩ | ⟨ek, o1, o5⟩ | ⟨ek, rfl⟩
        all_goals
          first
            | (have e2 : (x1 == 2) = true := by (simp; omega))
            | (have e2 : (x1 == 2) = false := by (simp; omega))
          first
            | (have e3 : (x1 == 3) = true := by (simp; omega))
            | (have e3 : (x1 == 3) = false := by (simp; omega))
          clear ek
          try (have o1a : (op == 1) = false := by simp; omega)
          try (have o1b : (op != 1) = true := by simp; omega)
          go_wp2_with fail
          refine (HWI.out _ H3.out.1).mono ?_
          rintro e w3 ⟨A3, n3, c3, rfl, hs3, hb3⟩
          have hk3 := H3.out.2.below_ hb3
          have hw3 := below_tr H3.out.1 hb3
          clear d0 d1 d2 d3 hkl
          have d0 := (hk3.cell 0).trans rfl
          have d1 := (hk3.cell 1).trans rfl
          have d2 := (hk3.cell 2).trans rfl
          have d3 := (hk3.cell 3).trans rfl
          have hkl := hk3.lt
          have HS3 := Lib.hid hs3
          clear hs3
          have HW3 := Lib.hid hw3
          clear hw3
          have HK3 := Lib.hid hk3
          clear hk3
          clear hb3 H3
          go_wp2_with fail
          refine (M2.out _ A3 n3 c3 HS3.out).mono ?_
          rintro e w4 ⟨rfl, hb4⟩
          have hk4 := HK3.out.below_ hb4
          have hw4 := below_tr HW3.out hb4
          clear d0 d1 d2 d3 hkl
          have d0 := (hk4.cell 0).trans rfl
          have d1 := (hk4.cell 1).trans rfl
          have d2 := (hk4.cell 2).trans rfl
          have d3 := (hk4.cell 3).trans rfl
          have hkl := hk4.lt
          have HW4 := Lib.hid hw4
          clear hw4
          have HK4 := Lib.hid hk4
          clear hk4
          clear hb4 HW3 HK3 HS3
          have hzz := HZ.out
          have hwd := (HW4.out.alloc HW4.out.size (.cells #[.int .i64 z0, .int .i64 z1, .int .i64 z2, .int .i64 z3] 26)).drew
          have hcells : ∀ W, Below (w4.alloc (.cells #[.int .i64 z0, .int .i64 z1, .int .i64 z2, .int .i64 z3] 26)).drew.heap.size (w4.alloc (.cells #[.int .i64 z0, .int .i64 z1, .int .i64 z2, .int .i64 z3] 26)).drew W → W.cell? ⟨w2.heap.size, 1, none⟩ = some (.int .i64 x1) ∧ W.cell? ⟨w4.heap.size, 1, none⟩ = some (.int .i64 z1) := fun W hb =>
            ⟨FIN.out W _ ((HK4.out.alloc _).drew.below_ hb), (((Blk.new w4 _ _).drew.below_ hb).cell 1).trans rfl⟩
          have hc0 := hcells _ (Below.refl _ _)
          obtain ⟨e0, e1⟩ := hc0
          have HWD := Lib.hid hwd
          clear hwd
          have HCELLS := Lib.hid hcells
          clear hcells
          clear HW4 HK4
          go_wp2_with fail
          go_region_held3 (fun w' => w'.cell? ⟨w2.heap.size, 1, none⟩ = some (.int .i64 x1) ∧ w'.cell? ⟨w4.heap.size, 1, none⟩ = some (.int .i64 z1)) (first | go_keep | (exact k1) | (exact k2))
            (first | (go_at_call 26; refine (HWI.out _ HWD.out).mono ?_; rintro e w5 ⟨A5, n5, c5, rfl, hs5, hb5⟩; have k1 := HCELLS.out _ hb5) | (go_at_call 27; refine (HCT.out _ A5 n5 c5 _ hs5).mono ?_; rintro e w6 ⟨rfl, hb6⟩; have hb7 := below_tr hb5 hb6; have k2 := HCELLS.out _ hb7))
          go_wp2
          go_ret
          exact ⟨rfl, below_tr HWD.out hb7⟩
  · rw [hf] at m1
    have he := fun W => eqFault 0 0 0 0 0 0 0 0 W
    simp only [beq_self_eq_true, Bool.and_self] at he
    simp only [met, Ft.agg, Ft.zero] at m1
    have M1 := Lib.hid m1
    clear m1
    clear hf hbig
    go_enter Try.func8, Try.ntmps8
    go_wp2_with fail
    refine (works09 _).mono ?_
    rintro e w1 ⟨rfl, hb1⟩
    have HB1 := Lib.hid hb1
    clear hb1
    go_wp2_with fail
    refine (M1.out _ HB1.out).mono ?_
    rintro e w2 ⟨rfl, hb2⟩
    have hw2 := below_tr HB1.out hb2
    have HW2 := Lib.hid hw2
    clear hw2
    clear hb2 M1 HB1
    go_wp2
    go_ret
    exact ⟨rfl, by ((try change Below _ _ _); have bsz_ := (HW2.out).size; (repeat (any_goals (first | (with_reducible exact HW2.out) | (with_reducible exact Below.refl _ _) | (with_reducible apply Below.drew) | (with_reducible apply below_drewN) | (with_reducible refine Below.alloc ?_ ?_ _) | (with_reducible refine Below.setCell ?_ ?_ _)))); all_goals (first | exact Nat.le_refl _ | (simp; done) | (simp; omega) | omega | (dsimp only; omega)))⟩
#print axioms fits_walk
end Go.Proofs.Ytdjfkehbknbocaa

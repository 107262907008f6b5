/- The example of chapter 24 is true. -/
import Derived.Test.YtdjfkehbknbocaaVictW
namespace Go.Proofs.Ytdjfkehbknbocaa
open Go.RowKit
set_option linter.unusedSimpArgs false
set_option linter.unusedVariables false

theorem exL_bd : ∀ x ∈ exL, x.valid ≤ 9223372036854775807 := by decide +kernel
theorem sl3 (a b c : Int) (w : World) : Sl eInt 1 (w.alloc (.cells #[.int .i64 a, .int .i64 b, .int .i64 c] 3)) (some ⟨w.heap.size, 0, none⟩) 3 [a, b, c] :=
  Sl.of_blk (enc := eInt) (k := 1) (n := 3) (fun _ => rfl) (Blk.new w _ _) rfl rfl (by omega)
set_option maxRecDepth 100000 in
set_option maxHeartbeats 4000000 in
theorem works24 (w : World) : Calls Try.prog 43 #[] w fun e w' => e = .returned (.bool true) ∧ Below w.heap.size w w' := by
  have g1 := fun W A c hA => gather_any 10 A 4 c exL W (by omega) (by omega) hA exL_bd
  have t1 := fun W A c hA => triple_any 10 A 4 c exL W (by omega) (by omega) hA exL_bd
  have t2 := fun W A c hA => triple_any 12 A 4 c exL W (by omega) (by omega) hA exL_bd
  have hk0 := Blk.new w 83 (eList eUs exL).toArray
  have hs0 : Sl eUs 3 (w.alloc (.cells (eList eUs exL).toArray 83)) (some ⟨w.heap.size, 0, none⟩) 4 exL := Sl.of_blk (enc := eUs) (k := 3) (n := 4) (fun _ => rfl) hk0 rfl rfl (by omega)
  have hw0 : Below w.heap.size w (w.alloc (.cells (eList eUs exL).toArray 83)) := (Below.refl _ w).alloc (Nat.le_refl _) _
  simp only [eList, eUs, exL, List.map_cons, List.map_nil, List.flatten_cons, List.flatten_nil, List.cons_append, List.nil_append] at hs0 hw0
  have G1 := Lib.hid g1
  clear g1
  have T1 := Lib.hid t1
  clear t1
  have T2 := Lib.hid t2
  clear t2
  have HS0 := Lib.hid hs0
  clear hs0
  have HW0 := Lib.hid hw0
  clear hw0
  clear hk0
  go_enter Try.func43, Try.ntmps43
  go_wp2_with fail
  refine (G1.out _ _ _ HS0.out).mono ?_
  rintro e w1 ⟨A1, n1, c1, M, T, hR, hG, rfl, ho1, hb1⟩
  rw [ex_gath hR hG] at ho1
  have hw1 := below_tr HW0.out hb1
  have hs1 := HS0.out.below hb1
  have hl1 := ho1.1
  have hn1 : n1 = 3 := by simpa [eList, eInt] using hl1.symm
  subst hn1
  have ho2 := own_below ho1 ((Below.refl _ w1).alloc (Nat.le_refl _) (.cells #[.int .i64 2, .int .i64 3, .int .i64 1] 3))
  have hsa := sameInts_any A1 (some ⟨w1.heap.size, 0, none⟩) 3 c1 3 3 [2, 3, 1] [2, 3, 1] _ (Sl.own (k := 1) (fun _ => rfl) (by omega) ho2) (sl3 2 3 1 w1)
  simp only [decide_true] at hsa
  have HSA := Lib.hid hsa
  clear hsa
  have HW1 := Lib.hid hw1
  clear hw1
  have HS1 := Lib.hid hs1
  clear hs1
  clear hR hG ho1 ho2 hb1 hl1 G1 HW0 HS0
  go_wp2_with fail
  refine HSA.out.mono ?_
  rintro e w2 ⟨rfl, hb2⟩
  have hw2 := below_tr (HW1.out.alloc HW1.out.size _) hb2
  have hs2 := (HS1.out.below ((Below.refl _ w1).alloc (Nat.le_refl _) _)).below hb2
  have HW2 := Lib.hid hw2
  clear hw2
  have HS2 := Lib.hid hs2
  clear hs2
  clear hb2 HSA HS1 HW1
  go_wp2_with fail
  refine (T1.out _ _ _ HS2.out).mono ?_
  rintro e w3 ⟨A3, n3, c3, M3, hR3, rfl, ho3, hb3⟩
  rw [ex_trip10 hR3] at ho3
  have hn3 : n3 = 0 := by have := ho3.1; simpa [eList] using this.symm
  subst hn3
  have hw3 := below_tr HW2.out hb3
  have hs3 := HS2.out.below hb3
  have HW3 := Lib.hid hw3
  clear hw3
  have HS3 := Lib.hid hs3
  clear hs3
  clear hR3 ho3 hb3 T1 HS2 HW2
  go_wp2_with fail
  refine (T2.out _ _ _ HS3.out).mono ?_
  rintro e w4 ⟨A4, n4, c4, M4, hR4, rfl, ho4, hb4⟩
  rw [ex_trip12 hR4] at ho4
  have hl4 := ho4.1
  have hn4 : n4 = 3 := by simpa [eList, eInt] using hl4.symm
  subst hn4
  have hw4 := below_tr HW3.out hb4
  have ho5 := own_below ho4 ((Below.refl _ w4).alloc (Nat.le_refl _) (.cells #[.int .i64 3, .int .i64 1, .int .i64 4] 3))
  have hsb := sameInts_any A4 (some ⟨w4.heap.size, 0, none⟩) 3 c4 3 3 [3, 1, 4] [3, 1, 4] _ (Sl.own (k := 1) (fun _ => rfl) (by omega) ho5) (sl3 3 1 4 w4)
  simp only [decide_true] at hsb
  have HSB := Lib.hid hsb
  clear hsb
  have HW4 := Lib.hid hw4
  clear hw4
  clear hR4 ho4 ho5 hb4 hl4 T2 HS3 HW3
  go_wp2_with fail
  refine HSB.out.mono ?_
  rintro e w5 ⟨rfl, hb5⟩
  have hw5 := below_tr (HW4.out.alloc HW4.out.size _) hb5
  have HW5 := Lib.hid hw5
  clear hw5
  clear hb5 HSB HW4
  go_wp2
  go_ret
  exact ⟨rfl, HW5.out⟩
end Go.Proofs.Ytdjfkehbknbocaa

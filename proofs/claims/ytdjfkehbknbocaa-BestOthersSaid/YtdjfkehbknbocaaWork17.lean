/- The chapter's example (decklelaw17.works) is true. -/
import Derived.Test.YtdjfkehbknbocaaMap
import Derived.Test.YtdjfkehbknbocaaSame
namespace Go.Proofs.Ytdjfkehbknbocaa
open Go.RowKit
set_option linter.unusedSimpArgs false
set_option linter.unusedVariables false

/-- Two rows that Map hands back, read. -/
theorem Two.sl {base : Nat} {w0 W : World} {ads : List Ad} {ns : List Int} {n : Nat} {v8 v9 : Value} (h : Two base w0 ads ns n v8 v9 W) : ∃ A c B d, v8 = .slice A n c ∧ v9 = .slice B n d ∧ Sl eAd 3 W A n ads ∧ Sl eInt 1 W B n ns := by
  obtain ⟨A, c, rfl, hA⟩ := Sl.of_own (k := 3) (fun _ => rfl) (by omega) h.a
  obtain ⟨B, d, rfl, hB⟩ := Sl.of_own (k := 1) (fun _ => rfl) (by omega) h.i
  exact ⟨A, c, B, d, rfl, rfl, hA, hB⟩
abbrev noSv : Sv := ⟨none, 0, 0⟩
theorem Sl.nil {α : Type} {enc : α → List Value} {k : Nat} (w : World) : Sl enc k w none 0 ([] : List α) := ⟨rfl, by omega, fun h => absurd h (by omega)⟩
abbrev wPs : List Pg := [⟨2, ⟨1, 1, 5, 9⟩, ⟨#[]⟩⟩, ⟨2, ⟨1, 1, 7, 2⟩, ⟨#[]⟩⟩]
abbrev wBs (g : Nat) : List Bl := [⟨⟨1, false, ⟨some ⟨g, 0, none⟩, 2, 2⟩⟩, wPs⟩]
theorem w17a (g : Nat) : whereF 4 [] [] (wBs g) 4 = [⟨-1, 0, 0⟩, ⟨0, 1, 0⟩, ⟨-1, 0, 0⟩, ⟨-1, 0, 0⟩] := rfl
theorem w17n (g : Nat) : seqsF 4 [] [] (wBs g) 4 = [0, 7, 0, 0] := rfl
theorem w17b (g : Nat) : whereF 4 [0, 8] [] (wBs g) 4 = [⟨-1, 0, 0⟩, ⟨-1, 0, 0⟩, ⟨-1, 0, 0⟩, ⟨-1, 0, 0⟩] := rfl
theorem w17m (g : Nat) : seqsF 4 [0, 8] [] (wBs g) 4 = [0, 0, 0, 0] := rfl
set_option maxRecDepth 100000 in
set_option maxHeartbeats 40000000 in
theorem works17_any (w : World) : Calls Try.prog 29 #[] w fun e w' => e = .returned (.bool true) ∧ Below w.heap.size w w' := by
  go_enter Try.func29, Try.ntmps29
  go_wp2_with fail
  refine (page17_any 1 5 9 w).mono ?_
  rintro e w1 ⟨rfl, hb1⟩
  simp only [Pg.agg]
  go_wp2_with fail
  refine (page17_any 1 7 2 w1).mono ?_
  rintro e w2 ⟨rfl, hb2⟩
  simp only [Pg.agg]
  go_wp2_with fail
  have kP := (Blk.new w2 64 #[.int .i64 2, .int .i64 1, .int .i64 1, .int .i64 5, .int .i64 9, .string ⟨#[]⟩, .int .i64 2, .int .i64 1, .int .i64 1, .int .i64 7, .int .i64 2, .string ⟨#[]⟩]).alloc (.cells #[.int .i64 1, .bool false, .slice (some ⟨w2.heap.size, 0, none⟩) 2 2] 60)
  have kB := Blk.new1 w2 (.cells #[.int .i64 2, .int .i64 1, .int .i64 1, .int .i64 5, .int .i64 9, .string ⟨#[]⟩, .int .i64 2, .int .i64 1, .int .i64 1, .int .i64 7, .int .i64 2, .string ⟨#[]⟩] 64) 60 #[.int .i64 1, .bool false, .slice (some ⟨w2.heap.size, 0, none⟩) 2 2]
  have hb3 : Below w.heap.size w ((w2.alloc (.cells #[.int .i64 2, .int .i64 1, .int .i64 1, .int .i64 5, .int .i64 9, .string ⟨#[]⟩, .int .i64 2, .int .i64 1, .int .i64 1, .int .i64 7, .int .i64 2, .string ⟨#[]⟩] 64)).alloc (.cells #[.int .i64 1, .bool false, .slice (some ⟨w2.heap.size, 0, none⟩) 2 2] 60)) := by ((try change Below _ _ _); have bsz_ := (below_tr hb1 hb2).size; (repeat (any_goals (first | (with_reducible exact below_tr hb1 hb2) | (with_reducible exact Below.refl _ _) | (with_reducible apply Below.drew) | (with_reducible apply below_drewN) | (with_reducible refine Below.alloc ?_ ?_ _) | (with_reducible refine Below.setCell ?_ ?_ _)))); all_goals (first | exact Nat.le_refl _ | (simp; done) | (simp; omega) | omega | (dsimp only; omega)))
  obtain ⟨w3, hw3⟩ : ∃ w3, (w2.alloc (.cells #[.int .i64 2, .int .i64 1, .int .i64 1, .int .i64 5, .int .i64 9, .string ⟨#[]⟩, .int .i64 2, .int .i64 1, .int .i64 1, .int .i64 7, .int .i64 2, .string ⟨#[]⟩] 64)).alloc (.cells #[.int .i64 1, .bool false, .slice (some ⟨w2.heap.size, 0, none⟩) 2 2] 60) = w3 := ⟨_, rfl⟩
  rw [hw3] at kP kB hb3 ⊢
  clear hw3 hb1 hb2
  have hsl : ∀ W, Below w3.heap.size w3 W → Sl eBl 3 W (some ⟨w2.heap.size + 1, 0, none⟩) 1 (wBs w2.heap.size) ∧ Deep W (wBs w2.heap.size) := fun W hW =>
    ⟨Sl.of_blk (enc := eBl) (k := 3) (xs := wBs w2.heap.size) (fun _ => rfl) (kB.below_ hW) rfl rfl (show 1 ≤ 9223372036854775807 by decide), fun x hx => by
      obtain rfl : x = ⟨⟨1, false, ⟨some ⟨w2.heap.size, 0, none⟩, 2, 2⟩⟩, wPs⟩ := by simpa using hx
      exact Sl.of_blk (enc := ePg) (k := 6) (xs := wPs) (fun _ => rfl) (kP.below_ hW) rfl rfl (show 2 ≤ 9223372036854775807 by decide)⟩
  have HSL := Lib.hid hsl
  clear hsl
  have HB3 := Lib.hid hb3
  clear hb3
  clear kP kB
  refine (geo17_any w3).mono ?_
  rintro e w4 ⟨rfl, hb4⟩
  simp only [Geo.agg]
  have hm1 := map_any ⟨8, 6, 64, 4, 0, 4⟩ ⟨noSv, noSv, noSv, noSv⟩ [] [] (some ⟨w2.heap.size + 1, 0, none⟩) 1 1 (wBs w2.heap.size) w4 (Sl.nil _) (Sl.nil _) (HSL.out w4 hb4).1 (HSL.out w4 hb4).2 (by decide) (by omega) (by intro x hx; obtain rfl : x = ⟨⟨1, false, ⟨some ⟨w2.heap.size, 0, none⟩, 2, 2⟩⟩, wPs⟩ := (by simpa using hx); exact (show 2 ≤ 80 by decide))
  simp only [Geo.agg, St.agg, Sv.v] at hm1
  go_wp2_with fail
  refine hm1.mono ?_
  rintro e w5 ⟨v8, v9, rfl, hT⟩
  have hT : Two w4.heap.size w4 (whereF 4 [] [] (wBs w2.heap.size) 4) (seqsF 4 [] [] (wBs w2.heap.size) 4) 4 v8 v9 w5 := hT
  rw [w17a, w17n] at hT
  have HT1 := Lib.hid hT
  have HB5 := Lib.hid (below_tr hb4 hT.below)
  clear hT hm1 hb4
  go_wp2_with fail
  refine (geo17_any w5).mono ?_
  rintro e w6 ⟨rfl, hb6⟩
  simp only [Geo.agg]
  have kF := Blk.new w6 3 #[.int .i64 0, .int .i64 8]
  have hb7 := below_tr HB5.out (below_tr hb6 ((Below.refl _ w6).alloc (Nat.le_refl _) (.cells #[.int .i64 0, .int .i64 8] 3)))
  have hm2 := map_any ⟨8, 6, 64, 4, 0, 4⟩ ⟨⟨some ⟨w6.heap.size, 0, none⟩, 2, 2⟩, noSv, noSv, noSv⟩ [0, 8] [] (some ⟨w2.heap.size + 1, 0, none⟩) 1 1 (wBs w2.heap.size) (w6.alloc (.cells #[.int .i64 0, .int .i64 8] 3)) (Sl.of_blk (enc := eInt) (k := 1) (xs := [0, 8]) (fun _ => rfl) kF rfl rfl (show 2 ≤ 9223372036854775807 by decide)) (Sl.nil _) (HSL.out _ hb7).1 (HSL.out _ hb7).2 (by decide) (by omega) (by intro x hx; obtain rfl : x = ⟨⟨1, false, ⟨some ⟨w2.heap.size, 0, none⟩, 2, 2⟩⟩, wPs⟩ := (by simpa using hx); exact (show 2 ≤ 80 by decide))
  simp only [Geo.agg, St.agg, Sv.v] at hm2
  go_wp2_with fail
  refine hm2.mono ?_
  rintro e w7 ⟨u8, u9, rfl, hU⟩
  have hU : Two (w6.alloc (.cells #[.int .i64 0, .int .i64 8] 3)).heap.size (w6.alloc (.cells #[.int .i64 0, .int .i64 8] 3)) (whereF 4 [0, 8] [] (wBs w2.heap.size) 4) (seqsF 4 [0, 8] [] (wBs w2.heap.size) 4) 4 u8 u9 w7 := hU
  rw [w17b, w17m] at hU
  have hT7 := HT1.out.below_ (below_tr (below_tr hb6 ((Below.refl _ w6).alloc (Nat.le_refl _) (.cells #[.int .i64 0, .int .i64 8] 3))) hU.below)
  have hend : Below w.heap.size w w7 := below_tr HB3.out (below_tr hb7 hU.below)
  obtain ⟨g1, c1, rfl, _, _⟩ := hT7.a.form (by omega)
  obtain ⟨g2, c2, rfl, _, _⟩ := hT7.i.form (by omega)
  obtain ⟨g3, c3, rfl, _, _⟩ := hU.a.form (by omega)
  obtain ⟨g4, c4, rfl, _, _⟩ := hU.i.form (by omega)
  have e0 := own_cell hT7.a 0 (.int .i64 (-1)) rfl
  have e1 := own_cell hT7.a 3 (.int .i64 0) rfl
  have e2 := own_cell hT7.a 4 (.int .i64 1) rfl
  have e3 := own_cell hT7.a 5 (.int .i64 0) rfl
  have e4 := own_cell hT7.i 1 (.int .i64 7) rfl
  have e5 := own_cell hU.a 3 (.int .i64 (-1)) rfl
  have e6 := own_cell hU.i 1 (.int .i64 0) rfl
  have he := fun W => eqAddr 0 1 0 0 1 0 W
  simp only [beq_self_eq_true, Bool.and_self] at he
  have HEND := Lib.hid hend
  clear hend
  clear hm2 kF hb7 hU hT7 hb6
  go_wp2
  go_ret
  exact ⟨rfl, HEND.out⟩
end Go.Proofs.Ytdjfkehbknbocaa

/- The chapter's example of health, walked; the plain law between health.Of and the reference. -/
import Derived.Test.YtdjfkehbknbocaaHealthR
import Derived.Test.YtdjfkehbknbocaaEqs
namespace Go.Proofs.Ytdjfkehbknbocaa
open Go.RowKit
set_option linter.unusedSimpArgs false
set_option linter.unusedVariables false

theorem hs_ex : ((Hs.zero.fold [2, 4, 6] [false, false, false]).ends 1 10).agg = .agg #[.int .i64 3, .int .i64 0, .int .i64 1, .int .i64 2, .int .i64 6, .int .i64 4, .int .i64 60] := rfl
set_option maxRecDepth 100000 in
set_option maxHeartbeats 4000000 in
theorem works40 (w : World) : Calls Try.prog 20 #[] w fun e w' => e = .returned (.bool true) ∧ Below w.heap.size w w' := by
  have h1 := fun W A B ca cb hA hB => of_ok A B 3 ca cb [2, 4, 6] [false, false, false] 1 10 W (by omega) hA hB (by omega) (by omega) (by omega) (by omega)
  simp only [hs_ex] at h1
  have h2 := fun W A ca => of_bad A none 1 ca 0 0 1 10 W (by decide)
  have h3 := fun W => grade_any ⟨3, 0, 1, 2, 6, 4, 60, 0⟩ W
  have h4 := fun W => Lines_any ⟨3, 0, 1, 2, 6, 4, 60, 0⟩ (by simp [Hs.small]) W
  have he := fun (W : World) => eqHealth 3 0 1 2 6 4 60 3 0 1 2 6 4 60 W
  rw [show (Hs.grade ⟨3, 0, 1, 2, 6, 4, 60, 0⟩) = 0 from by decide] at h3
  simp only [Hs.agg, Hs.zero] at h2 h3 h4
  have H1 := Lib.hid h1
  have H2 := Lib.hid h2
  have H3 := Lib.hid h3
  have H4 := Lib.hid h4
  clear h1 h2 h3 h4
  go_enter Try.func20, Try.ntmps20
  go_wp2_with fail
  refine (H1.out _ _ _ _ _ ?hA ?hB).mono ?_
  case hA => exact Sl.of_blk (n := 3) (enc := eInt) (k := 1) (fun _ => rfl) ((Blk.new w _ _).alloc _) rfl rfl (by omega)
  case hB => exact Sl.of_blk (n := 3) (enc := eBool) (k := 1) (fun _ => rfl) (Blk.new1 w _ _ _) rfl rfl (by omega)
  rintro e w1 ⟨rfl, hb1⟩
  have hw1 : Below w.heap.size w w1 := (((Below.refl _ w).alloc (Nat.le_refl _) _).alloc (by simp) _).trans (hb1.mono (by simp; omega))
  have HW1 := Lib.hid hw1
  clear hw1
  clear hb1
  go_wp2_with fail
  refine (H2.out _ _ _).mono ?_
  rintro e w2 ⟨rfl, hb2⟩
  have hk2 : Blk w2 w1.heap.size 35 #[.int .i64 3, .int .i64 0, .int .i64 1, .int .i64 2, .int .i64 6, .int .i64 4, .int .i64 60] := ((Blk.new w1 35 #[.int .i64 3, .int .i64 0, .int .i64 1, .int .i64 2, .int .i64 6, .int .i64 4, .int .i64 60]).alloc _).below_ hb2
  have hw2 : Below w.heap.size w w2 := ((HW1.out.alloc HW1.out.size _).alloc (by have := HW1.out.size; simp; omega) _).trans (hb2.mono (by have := HW1.out.size; simp; omega))
  have c0 := (hk2.cell 0).trans rfl
  have c1 := (hk2.cell 1).trans rfl
  have c2 := (hk2.cell 2).trans rfl
  have c3 := (hk2.cell 3).trans rfl
  have c4 := (hk2.cell 4).trans rfl
  have c5 := (hk2.cell 5).trans rfl
  have c6 := (hk2.cell 6).trans rfl
  have hlt2 := hk2.lt
  have HK2 := Lib.hid hk2
  have HW2 := Lib.hid hw2
  clear hw2
  clear hb2 hk2
  go_wp2_with fail
  refine (H3.out _).mono ?_
  rintro e w3 ⟨rfl, hb3⟩
  have hk3 : Blk w3 w1.heap.size 35 #[.int .i64 3, .int .i64 0, .int .i64 1, .int .i64 2, .int .i64 6, .int .i64 4, .int .i64 60] := (HK2.out.alloc _).below_ hb3
  have hw3 : Below w.heap.size w w3 := (HW2.out.alloc HW2.out.size _).trans (hb3.mono (by have := HW2.out.size; simp; omega))
  clear hb3 hlt2 c0 c1 c2 c3 c4 c5 c6
  have c0 := (hk3.cell 0).trans rfl
  have c1 := (hk3.cell 1).trans rfl
  have c2 := (hk3.cell 2).trans rfl
  have c3 := (hk3.cell 3).trans rfl
  have c4 := (hk3.cell 4).trans rfl
  have c5 := (hk3.cell 5).trans rfl
  have c6 := (hk3.cell 6).trans rfl
  have hlt3 := hk3.lt
  have HK3 := Lib.hid hk3
  have HW3 := Lib.hid hw3
  clear hw3
  clear hk3
  go_wp2_with fail
  refine (H4.out _).mono ?_
  rintro e w4 ⟨v, ys, rfl, ho, hb4⟩
  obtain ⟨V, vc, rfl⟩ := own_slice ho
  have hw4 : Below w.heap.size w w4 := HW3.out.trans (hb4.mono HW3.out.size)
  have HW4 := Lib.hid hw4
  clear hw4
  clear ho hb4
  go_wp2
  go_ret
  exact ⟨rfl, HW4.out⟩

theorem g3_snoc (l : List Int) (x : Int) (k : Nat) (hk : k ≤ l.length) : g3 (l ++ [x]) k = g3 l k := by
  induction k with
  | zero => rfl
  | succ k ih =>
    have e : (l ++ [x]).getD k 0 = l.getD k 0 := by simp only [List.getD_eq_getElem?_getD]; rw [List.getElem?_append_left (by omega)]
    simp only [g3, ih (by omega), e]
def FG (s : Hs) (g : List Int) (k : Int) : Prop := s.good = g.length ∧ s.worn = k - g.length ∧ s.least = (g3 g g.length).least ∧ s.most = (g3 g g.length).most ∧ s.all = (g3 g g.length).all ∧ s.mean = 0
theorem FG.step {s : Hs} {g : List Int} {k : Int} (h : FG s g k) (c : Int) (b : Bool) : FG (s.add c b) (g ++ if b then [] else [clampC c]) (k + 1) := by
  obtain ⟨h1, h2, h3, h4, h5, h6⟩ := h
  cases b with
  | true => simp [FG, Hs.add, h1, h2, h3, h4, h5, h6]; omega
  | false =>
    simp only [FG, Hs.add, List.length_append, List.length_singleton, g3, Bool.false_eq_true, if_false]
    have e : (g ++ [clampC c]).getD g.length 0 = clampC c := by simp [List.getD_eq_getElem?_getD]
    rw [g3_snoc g _ _ (Nat.le_refl _), e]
    refine ⟨by rw [h1]; omega, by rw [h2]; omega, ?_, by rw [h4], by rw [h5], h6⟩
    rw [h1, h3]
    by_cases h0 : g.length = 0
    · rw [if_pos (.inl (by omega)), if_pos h0]; simp [mn]
    · rw [if_neg h0]
      unfold mn
      by_cases hl : clampC c < (g3 g g.length).least
      · rw [if_pos (.inr hl), if_pos hl]
      · rw [if_neg (by omega), if_neg hl]
/-- The fold is the reference's count. -/
theorem fold_goods (cs : List Int) (bs : List Bool) (h : cs.length = bs.length) (k : Nat) (hk : k ≤ cs.length) : FG (Hs.zero.fold (cs.take k) (bs.take k)) (goods (cs.take k) (bs.take k)) k := by
  induction k with
  | zero => simp [FG, Hs.fold, Hs.zero, goods, g3]
  | succ k ih =>
    have hc : cs[k]? = some cs[k] := List.getElem?_eq_getElem (by omega)
    have hb : bs[k]? = some (bs[k]'(by omega)) := List.getElem?_eq_getElem (by omega)
    rw [Hs.fold_snoc _ _ _ k _ _ hc hb, goods_snoc cs bs k _ _ hc hb]
    exact (ih (by omega)).step _ _
theorem of_same (cs : List Int) (bs : List Bool) (h : cs.length = bs.length) (spare limit : Int) (hs : 0 ≤ spare) (hl : 1 ≤ limit) :
    ((Hs.zero.fold cs bs).ends spare limit).agg = (refOf cs bs spare limit).agg := by
  have hf := fold_goods cs bs h cs.length (Nat.le_refl _)
  rw [List.take_of_length_le (Nat.le_refl _), List.take_of_length_le (by omega)] at hf
  obtain ⟨h1, h2, h3, h4, h5, h6⟩ := hf
  have hok := Hs.fold_ok Hs.zero 0 ⟨by decide, by decide, by decide, by decide, by decide, rfl⟩ cs bs cs.length (Nat.le_refl _) (by omega)
  rw [List.take_of_length_le (Nat.le_refl _), List.take_of_length_le (by omega)] at hok
  have hg := goods_len cs bs
  simp only [Hs.ends, refOf, Hs.agg, h1, h2, h3, h4, h5, h6]
  have e1 : mx (spare - ((cs.length : Int) - (goods cs bs).length)) (-1) = if spare < (cs.length : Int) - (goods cs bs).length then -1 else spare - ((cs.length : Int) - (goods cs bs).length) := by
    unfold mx; split <;> split <;> omega
  rw [e1]
  generalize (if (0 : Int) < (goods cs bs).length then (g3 (goods cs bs) (goods cs bs).length).all / (goods cs bs).length else 0) = m
  have e2 : mx (100 - 100 * m / limit) 0 = if 100 * m / limit < 100 then 100 - 100 * m / limit else 0 := by
    unfold mx; split <;> split <;> omega
  rw [e2]
end Go.Proofs.Ytdjfkehbknbocaa

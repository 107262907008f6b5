/- The walk of the reference's Of and Grade. -/
import Derived.Test.YtdjfkehbknbocaaHealthC
namespace Go.Proofs.Ytdjfkehbknbocaa
open Go.RowKit

theorem info_int : (Try.prog.info? 3).map (fun i => (i.zero, i.size, i.bytes)) = some (some (.int .i64 0), 1, 8) := by kernel_rfl
def goods : List Int → List Bool → List Int
  | c :: cs, b :: bs => if b then goods cs bs else clampC c :: goods cs bs
  | _, _ => []
theorem goods_snoc (cs : List Int) (bs : List Bool) (k : Nat) (c : Int) (b : Bool) (hc : cs[k]? = some c) (hb : bs[k]? = some b) :
    goods (cs.take (k + 1)) (bs.take (k + 1)) = goods (cs.take k) (bs.take k) ++ if b then [] else [clampC c] := by
  induction k generalizing cs bs with
  | zero =>
    cases cs with
    | nil => simp at hc
    | cons x cs =>
      cases bs with
      | nil => simp at hb
      | cons y bs => simp at hc hb; subst hc hb; cases y <;> simp [goods]
  | succ k ih =>
    cases cs with
    | nil => simp at hc
    | cons x cs =>
      cases bs with
      | nil => simp at hb
      | cons y bs =>
        simp only [List.take_succ_cons, goods]
        rw [ih cs bs (by simpa using hc) (by simpa using hb)]
        cases y <;> simp
theorem goods_len (cs : List Int) (bs : List Bool) : (goods cs bs).length ≤ cs.length := by
  induction cs generalizing bs with
  | nil => simp [goods]
  | cons x cs ih =>
    cases bs with
    | nil => simp [goods]
    | cons y bs => simp only [goods]; split <;> simp <;> have := ih bs <;> omega
theorem goods_bd (cs : List Int) (bs : List Bool) : ∀ x ∈ goods cs bs, 0 ≤ x ∧ x ≤ 16777215 := by
  induction cs generalizing bs with
  | nil => simp [goods]
  | cons x cs ih =>
    cases bs with
    | nil => simp [goods]
    | cons y bs =>
      simp only [goods]
      split
      · exact ih bs
      · intro z hz
        rcases List.mem_cons.1 hz with rfl | hz
        · exact clampC_bd x
        · exact ih bs z hz
theorem clampR (x : Int) : mx (mn x 16777215) 0 = clampC x := by unfold clampC mx mn; (repeat' split) <;> omega

/-- Least, most, all of the first so many. -/
structure G3 where
  least : Int
  most : Int
  all : Int
def g3 (l : List Int) (k : Nat) : G3 :=
  match k with
  | 0 => ⟨0, 0, 0⟩
  | k + 1 => ⟨mn (if k = 0 then l.getD k 0 else (g3 l k).least) (l.getD k 0), mx (g3 l k).most (l.getD k 0), (g3 l k).all + l.getD k 0⟩
theorem g3_bd (l : List Int) (hl : ∀ x ∈ l, 0 ≤ x ∧ x ≤ 16777215) (k : Nat) (hk : k ≤ l.length) : 0 ≤ (g3 l k).all ∧ (g3 l k).all ≤ k * 16777215 := by
  induction k with
  | zero => simp [g3]
  | succ k ih =>
    have h := ih (by omega)
    have hx : l.getD k 0 ∈ l := by rw [List.getD_eq_getElem?_getD, List.getElem?_eq_getElem (by omega)]; simp
    have hb := hl _ hx
    simp only [g3]
    omega
def refOf (cs : List Int) (bs : List Bool) (spare limit : Int) : Hs :=
  let g := goods cs bs
  let n : Int := g.length
  let s := g3 g g.length
  let mean := if 0 < n then s.all / n else 0
  let used := 100 * mean / limit
  { good := n, worn := cs.length - n, left := if spare < cs.length - n then -1 else spare - (cs.length - n), least := s.least, most := s.most, mean := mean, life := if used < 100 then 100 - used else 0, all := 0 }

set_option linter.unusedSimpArgs false
set_option linter.unusedVariables false
set_option maxRecDepth 100000 in
set_option maxHeartbeats 8000000 in
theorem refOf_ok (A B : Option Addr) (n ca cb : Nat) (cs : List Int) (bs : List Bool) (spare limit : Int) (w : World) (hn : n ≤ 1000) (hA : Sl eInt 1 w A n cs) (hB : Sl eBool 1 w B n bs)
    (hs : 0 ≤ spare) (hs' : spare ≤ 9223372036854775807) (hl : 1 ≤ limit) (hl' : limit ≤ 16777215) :
    Calls Try.prog 22 #[.slice A n ca, .slice B n cb, .int .i64 spare, .int .i64 limit] w fun e w' => e = .returned (.tuple #[(refOf cs bs spare limit).agg, .int .i64 0]) ∧ Below w.heap.size w w' := by
  have HA := Lib.hid hA
  clear hA
  have HB := Lib.hid hB
  clear hB
  go_enter Try.func22, Try.ntmps22
  go_wp2
  go_loopw [10, 11] (fun v i wr => ∃ k : Nat, k ≤ n ∧ i = .int .i64 k ∧ Hid (wr.ownsRow (w.heap.size + 1) 3 1 v (goods (cs.take k) (bs.take k)).length (eList eInt (goods (cs.take k) (bs.take k))) ∧ Blk wr w.heap.size 35 #[.int .i64 0, .int .i64 0, .int .i64 0, .int .i64 0, .int .i64 0, .int .i64 0, .int .i64 0] ∧ Below w.heap.size w wr))
    (fun _ i _ => n - (intOf i).toNat)
  case atStart => exact ⟨0, Nat.zero_le _, rfl, own_nil _ _ _ _, Blk.new _ _ _, by ((try change Below _ _ _); (repeat (any_goals (first | (with_reducible exact Below.refl _ _) | (with_reducible exact Below.refl _ _) | (with_reducible apply Below.drew) | (with_reducible apply below_drewN) | (with_reducible refine Below.alloc ?_ ?_ _) | (with_reducible refine Below.setCell ?_ ?_ _)))); all_goals (first | exact Nat.le_refl _ | (simp; done) | (simp; omega) | omega | (dsimp only; omega)))⟩
  case round =>
    obtain ⟨k, hk, rfl, H⟩ := hrel
    by_cases hlt : k < n
    · obtain ⟨b, off, x, rfl, hb, hx, hc⟩ := (HA.out.below H.out.2.2).int_ hlt
      obtain ⟨b2, off2, y, rfl, hb2, hy, hc2⟩ := (HB.out.below H.out.2.2).bool_ hlt
      have HX := Lib.hid (goods_snoc cs bs k x y hx hy)
      have hgl : (goods (cs.take k) (bs.take k)).length ≤ 1000 := by have := goods_len (cs.take k) (bs.take k); simp at this; omega
      clear hx hy hb hb2 HA HB
      cases y with
      | true =>
        have HF : Hid (wr.ownsRow (w.heap.size + 1) 3 1 u10 (goods (cs.take (k + 1)) (bs.take (k + 1))).length (eList eInt (goods (cs.take (k + 1)) (bs.take (k + 1)))) ∧ Blk wr w.heap.size 35 #[.int .i64 0, .int .i64 0, .int .i64 0, .int .i64 0, .int .i64 0, .int .i64 0, .int .i64 0] ∧ Below w.heap.size w wr) := by
          rw [HX.out]; simp only [if_true, List.append_nil]; exact H.out
        clear H HX
        go_wp2
        go_roundw
        case rel => exact ⟨k + 1, by omega, by go_num, HF⟩
        case measure => simp [intOf]; omega
      | false =>
        go_wp2_with (first | (at_builtin; refine wpList_app rfl (.tmp 51) (.tmp 58) 32 rfl Try.underlying32 info_int rfl (by omega) (by omega) rfl (H.out.1.alloc _) rfl (heap_alloc_new wr _) rfl (by simp [Value.oneCell']) (by omega) (by have := H.out.2.2.size; have := H.out.2.1.lt; simp; omega) ?_; intro g cap w2 hown2 hg hor hlt2))
        have HF : Hid (w2.ownsRow (w.heap.size + 1) 3 1 (.slice (some ⟨g, 0, none⟩) ((goods (cs.take k) (bs.take k)).length + 1) cap) (goods (cs.take (k + 1)) (bs.take (k + 1))).length (eList eInt (goods (cs.take (k + 1)) (bs.take (k + 1)))) ∧ Blk w2 w.heap.size 35 #[.int .i64 0, .int .i64 0, .int .i64 0, .int .i64 0, .int .i64 0, .int .i64 0, .int .i64 0] ∧ Below w.heap.size w w2) := by
          have e : goods (cs.take (k + 1)) (bs.take (k + 1)) = goods (cs.take k) (bs.take k) ++ [clampC x] := by rw [HX.out]; simp
          rw [e, List.length_append, eList_snoc]
          refine ⟨by rw [← clampR]; exact hown2, (H.out.2.1.alloc _).grown hg (fun e => ?_), (H.out.2.2.alloc H.out.2.2.size _).grown hg (by have := H.out.2.2.size; simp; omega) (fun j hj => ?_)⟩
          · have := own_base H.out.1 _ e.symm; omega
          · have := own_base H.out.1 _ hj; omega
        clear H HX hown2 hg hor hlt2
        go_wp2
        go_roundw
        case rel => exact ⟨k + 1, by omega, by go_num, HF⟩
        case measure => simp [intOf]; omega
    · have : k = n := by omega
      subst this
      have hcl := HA.out.len
      have hcb := HB.out.len
      rw [List.take_of_length_le (by omega), List.take_of_length_le (by omega)] at H
      have hgl := goods_len cs bs
      have hgb := goods_bd cs bs
      generalize hgg : goods cs bs = gs at *
      have HGG := Lib.hid hgg
      have HGB := Lib.hid hgb
      clear hgg hgb HA HB
      obtain ⟨V, vc, rfl, hsl⟩ := Sl.of_own (enc := eInt) (k := 1) (fun _ => rfl) (by omega) H.out.1
      have hZ := Lib.hid H.out.2.1
      have HBW0 := Lib.hid H.out.2.2
      have HSL := Lib.hid hsl
      clear hsl
      clear H
      have hg3 := fun j hj => g3_bd gs HGB.out j hj
      have HG3 := Lib.hid hg3
      clear hg3
      obtain ⟨wo, rfl⟩ : ∃ wo : World, wo = wr := ⟨_, rfl⟩
      obtain ⟨L, hL⟩ : ∃ L : Int, L = if spare < (k : Int) - gs.length then -1 else spare - ((k : Int) - gs.length) := ⟨_, rfl⟩
      have hfin : ∀ (mean life : Int), (mean = if 0 < gs.length then (g3 gs gs.length).all / gs.length else 0) → (life = if 100 * mean / limit < 100 then 100 - 100 * mean / limit else 0) → (.agg #[.int .i64 gs.length, .int .i64 (k - gs.length), .int .i64 L, .int .i64 (g3 gs gs.length).least, .int .i64 (g3 gs gs.length).most, .int .i64 mean, .int .i64 life] : Value) = (refOf cs bs spare limit).agg := by
        intro mean life h1 h2
        subst h1 h2 hL
        simp only [refOf, HGG.out, Hs.agg, hcl]
        simp
      have HFIN := Lib.hid hfin
      clear hfin
      have HL := Lib.hid hL
      clear hL
      by_cases hle : spare < (k : Int) - gs.length
      · have eL : L = (-1) := by rw [HL.out]; simp only [hle, if_true, if_false]
        subst eL
        go_wp2
        go_loopw [13, 14] (fun s i wr2 => ∃ j : Nat, j ≤ gs.length ∧ i = .int .i64 j ∧ s = .int .i64 (g3 gs j).all ∧ Hid (Blk wr2 wo.heap.size 35 #[.int .i64 gs.length, .int .i64 (k - gs.length), .int .i64 (-1), .int .i64 (g3 gs j).least, .int .i64 (g3 gs j).most, .int .i64 0, .int .i64 0] ∧ Below wo.heap.size wo wr2))
          (fun _ i _ => gs.length - (intOf i).toNat)
        case atStart => exact ⟨0, Nat.zero_le _, rfl, rfl, Blk.new _ _ _, by ((try change Below _ _ _); (repeat (any_goals (first | (with_reducible exact Below.refl _ _) | (with_reducible exact Below.refl _ _) | (with_reducible apply Below.drew) | (with_reducible apply below_drewN) | (with_reducible refine Below.alloc ?_ ?_ _) | (with_reducible refine Below.setCell ?_ ?_ _)))); all_goals (first | exact Nat.le_refl _ | (simp; done) | (simp; omega) | omega | (dsimp only; omega)))⟩
        case round =>
          obtain ⟨j, hj, rfl, rfl, H⟩ := hrel
          have hg3 := HG3.out j hj
          obtain ⟨hg0, hg1⟩ := hg3
          by_cases hlt : j < gs.length
          · obtain ⟨b, off, x, rfl, hb, hx, hc⟩ := (HSL.out.below H.out.2).int_ hlt
            have hxb := HGB.out x (List.mem_of_getElem? hx)
            obtain ⟨hx0, hx1⟩ := hxb
            have hgd : gs.getD j 0 = x := by rw [List.getD_eq_getElem?_getD, hx]; rfl
            have hstep : g3 gs (j + 1) = ⟨mn (if j = 0 then x else (g3 gs j).least) x, mx (g3 gs j).most x, (g3 gs j).all + x⟩ := by simp only [g3, hgd]
            have HST := Lib.hid hstep
            have hne : wo.heap.size ≠ b := by
              have := HSL.out.2.2 (by omega)
              obtain ⟨b', off', e, hb', _⟩ := this
              injection e with e; injection e with e1; omega
            obtain ⟨hB, hBW⟩ := H.out
            have f3 := hB.frozen 3
            have f4 := hB.frozen 4
            have c3 := (hB.cell 3).trans rfl
            have c4 := (hB.cell 4).trans rfl
            have HB2 := Lib.hid hB
            have HBW2 := Lib.hid hBW
            have d1 : ∀ i v, (wr.setCell ⟨wo.heap.size, i, none⟩ v).cell? ⟨b, off + j, none⟩ = some (.int .i64 x) := fun i v => (World.cell?_setCell_other _ _ _ _ (fun e => by injection e with e; exact hne e)).trans hc
            have d2 : ∀ i v i' v', ((wr.setCell ⟨wo.heap.size, i, none⟩ v).setCell ⟨wo.heap.size, i', none⟩ v').cell? ⟨b, off + j, none⟩ = some (.int .i64 x) := fun i v i' v' => (World.cell?_setCell_other _ _ _ _ (fun e => by injection e with e; exact hne e)).trans (d1 i v)
            have d3 : ∀ i v i' v' i2 v2, (((wr.setCell ⟨wo.heap.size, i, none⟩ v).setCell ⟨wo.heap.size, i', none⟩ v').setCell ⟨wo.heap.size, i2, none⟩ v2).cell? ⟨b, off + j, none⟩ = some (.int .i64 x) := fun i v i' v' i2 v2 => (World.cell?_setCell_other _ _ _ _ (fun e => by injection e with e; exact hne e)).trans (d2 i v i' v')
            clear hstep hgd hx hb H hB hBW
            generalize g3 gs j = G at *
            obtain ⟨ml, mm, ma⟩ := G
            simp only at hg0 hg1 c3 c4
            by_cases hj0 : ((j : Int) == 0) = true
            · go_wp2
              go_region
              go_wp2
              go_region
              go_wp2
              have ej : j = 0 := by simpa using hj0
              go_roundw
              case rel => exact ⟨j + 1, by omega, by go_num, by rw [HST.out], (((HB2.out.set_ 3 _).set_ 3 _).set_ 4 _).of_eq (by rw [HST.out]; simp [ej]), by ((try change Below _ _ _); have bsz_ := (HBW2.out).size; (repeat (any_goals (first | (with_reducible exact HBW2.out) | (with_reducible exact Below.refl _ _) | (with_reducible apply Below.drew) | (with_reducible apply below_drewN) | (with_reducible refine Below.alloc ?_ ?_ _) | (with_reducible refine Below.setCell ?_ ?_ _)))); all_goals (first | exact Nat.le_refl _ | (simp; done) | (simp; omega) | omega | (dsimp only; omega)))⟩
              case measure => simp [intOf]; omega
            · have ej : ¬ j = 0 := by simpa using hj0
              have hj0' : ((j : Int) == 0) = false := by simpa using hj0
              clear hj0
              go_wp2
              go_region
              go_wp2
              go_region
              go_wp2
              go_roundw
              case rel => exact ⟨j + 1, by omega, by go_num, by rw [HST.out], ((HB2.out.set_ 3 _).set_ 4 _).of_eq (by rw [HST.out]; simp [ej]), by ((try change Below _ _ _); have bsz_ := (HBW2.out).size; (repeat (any_goals (first | (with_reducible exact HBW2.out) | (with_reducible exact Below.refl _ _) | (with_reducible apply Below.drew) | (with_reducible apply below_drewN) | (with_reducible refine Below.alloc ?_ ?_ _) | (with_reducible refine Below.setCell ?_ ?_ _)))); all_goals (first | exact Nat.le_refl _ | (simp; done) | (simp; omega) | omega | (dsimp only; omega)))⟩
              case measure => simp [intOf]; omega
          · have ej : j = gs.length := by omega
            subst ej
            obtain ⟨hB, hBW⟩ := H.out
            have c0 := (hB.cell 0).trans rfl
            have c1 := (hB.cell 1).trans rfl
            have c2 := (hB.cell 2).trans rfl
            have c3 := (hB.cell 3).trans rfl
            have c4 := (hB.cell 4).trans rfl
            have c5 := (hB.cell 5).trans rfl
            have c6 := (hB.cell 6).trans rfl
            have f5 := hB.frozen 5
            have f6 := hB.frozen 6
            have hlo := hZ.out.lt
            have hz2 := hZ.out.below hBW hlo
            have z0 := (hz2.cell 0).trans rfl
            have z1 := (hz2.cell 1).trans rfl
            have z2 := (hz2.cell 2).trans rfl
            have z3 := (hz2.cell 3).trans rfl
            have z4 := (hz2.cell 4).trans rfl
            have z5 := (hz2.cell 5).trans rfl
            have z6 := (hz2.cell 6).trans rfl
            have y0 := hz2.frozen 0
            have y1 := hz2.frozen 1
            have y2 := hz2.frozen 2
            have y3 := hz2.frozen 3
            have y4 := hz2.frozen 4
            have y5 := hz2.frozen 5
            have y6 := hz2.frozen 6
            have hne : w.heap.size ≠ wo.heap.size := by omega
            have HBW2 := Lib.hid (HBW0.out.trans (hBW.mono (by omega)))
            clear H hB hBW hz2 HSL HGB HG3
            by_cases hp : 0 < gs.length
            · have hm0 : 0 ≤ (g3 gs gs.length).all / gs.length := Int.ediv_nonneg hg0 (by omega)
              have hm1 : (g3 gs gs.length).all / gs.length ≤ gs.length * 16777215 := Int.le_trans (Int.ediv_le_self _ hg0) hg1
              have hu0 : 0 ≤ 100 * ((g3 gs gs.length).all / gs.length) / limit := Int.ediv_nonneg (by omega) (by omega)
              have hu1 : 100 * ((g3 gs gs.length).all / gs.length) / limit ≤ 100 * ((g3 gs gs.length).all / gs.length) := Int.ediv_le_self _ (by omega)
              by_cases hu : 100 * ((g3 gs gs.length).all / gs.length) / limit < 100
              · have hF := HFIN.out ((g3 gs gs.length).all / gs.length) (100 - 100 * ((g3 gs gs.length).all / gs.length) / limit) (by rw [if_pos hp]) (by rw [if_pos hu])
                have HF := Lib.hid hF
                clear hF
                go_wp2
                refine bodyPost_ret (v := .tuple #[.agg #[.int .i64 gs.length, .int .i64 (k - gs.length), .int .i64 (-1), .int .i64 (g3 gs gs.length).least, .int .i64 (g3 gs gs.length).most, .int .i64 ((g3 gs gs.length).all / gs.length), .int .i64 (100 - 100 * ((g3 gs gs.length).all / gs.length) / limit)], .int .i64 0]) (by simp [results, Try.results22, go_sem, *]) rfl ⟨by rw [← HF.out], ?_⟩
                ((try change Below _ _ _); have bsz_ := (HBW2.out).size; (repeat (any_goals (first | (with_reducible exact HBW2.out) | (with_reducible exact Below.refl _ _) | (with_reducible apply Below.drew) | (with_reducible apply below_drewN) | (with_reducible refine Below.alloc ?_ ?_ _) | (with_reducible refine Below.setCell ?_ ?_ _)))); all_goals (first | exact Nat.le_refl _ | (simp; done) | (simp; omega) | omega | (dsimp only; omega)))
              · have hF := HFIN.out ((g3 gs gs.length).all / gs.length) 0 (by rw [if_pos hp]) (by rw [if_neg hu])
                have HF := Lib.hid hF
                clear hF
                go_wp2
                refine bodyPost_ret (v := .tuple #[.agg #[.int .i64 gs.length, .int .i64 (k - gs.length), .int .i64 (-1), .int .i64 (g3 gs gs.length).least, .int .i64 (g3 gs gs.length).most, .int .i64 ((g3 gs gs.length).all / gs.length), .int .i64 (0)], .int .i64 0]) (by simp [results, Try.results22, go_sem, *]) rfl ⟨by rw [← HF.out], ?_⟩
                ((try change Below _ _ _); have bsz_ := (HBW2.out).size; (repeat (any_goals (first | (with_reducible exact HBW2.out) | (with_reducible exact Below.refl _ _) | (with_reducible apply Below.drew) | (with_reducible apply below_drewN) | (with_reducible refine Below.alloc ?_ ?_ _) | (with_reducible refine Below.setCell ?_ ?_ _)))); all_goals (first | exact Nat.le_refl _ | (simp; done) | (simp; omega) | omega | (dsimp only; omega)))
            · have e0 : gs = [] := List.eq_nil_of_length_eq_zero (by omega)
              subst e0
              have hF := HFIN.out 0 100 (by simp) (by simp)
              have HF := Lib.hid hF
              clear hF
              go_wp2
              refine bodyPost_ret (v := .tuple #[.agg #[.int .i64 0, .int .i64 k, .int .i64 (-1), .int .i64 0, .int .i64 0, .int .i64 0, .int .i64 100], .int .i64 0]) (by simp [results, Try.results22, go_sem, g3, *]) rfl ⟨by rw [← HF.out]; simp [g3], ?_⟩
              ((try change Below _ _ _); have bsz_ := (HBW2.out).size; (repeat (any_goals (first | (with_reducible exact HBW2.out) | (with_reducible exact Below.refl _ _) | (with_reducible apply Below.drew) | (with_reducible apply below_drewN) | (with_reducible refine Below.alloc ?_ ?_ _) | (with_reducible refine Below.setCell ?_ ?_ _)))); all_goals (first | exact Nat.le_refl _ | (simp; done) | (simp; omega) | omega | (dsimp only; omega)))
      · have eL : L = (spare - ((k : Int) - gs.length)) := by rw [HL.out]; simp only [hle, if_true, if_false]
        subst eL
        go_wp2
        go_loopw [13, 14] (fun s i wr2 => ∃ j : Nat, j ≤ gs.length ∧ i = .int .i64 j ∧ s = .int .i64 (g3 gs j).all ∧ Hid (Blk wr2 wo.heap.size 35 #[.int .i64 gs.length, .int .i64 (k - gs.length), .int .i64 (spare - ((k : Int) - gs.length)), .int .i64 (g3 gs j).least, .int .i64 (g3 gs j).most, .int .i64 0, .int .i64 0] ∧ Below wo.heap.size wo wr2))
          (fun _ i _ => gs.length - (intOf i).toNat)
        case atStart => exact ⟨0, Nat.zero_le _, rfl, rfl, Blk.new _ _ _, by ((try change Below _ _ _); (repeat (any_goals (first | (with_reducible exact Below.refl _ _) | (with_reducible exact Below.refl _ _) | (with_reducible apply Below.drew) | (with_reducible apply below_drewN) | (with_reducible refine Below.alloc ?_ ?_ _) | (with_reducible refine Below.setCell ?_ ?_ _)))); all_goals (first | exact Nat.le_refl _ | (simp; done) | (simp; omega) | omega | (dsimp only; omega)))⟩
        case round =>
          obtain ⟨j, hj, rfl, rfl, H⟩ := hrel
          have hg3 := HG3.out j hj
          obtain ⟨hg0, hg1⟩ := hg3
          by_cases hlt : j < gs.length
          · obtain ⟨b, off, x, rfl, hb, hx, hc⟩ := (HSL.out.below H.out.2).int_ hlt
            have hxb := HGB.out x (List.mem_of_getElem? hx)
            obtain ⟨hx0, hx1⟩ := hxb
            have hgd : gs.getD j 0 = x := by rw [List.getD_eq_getElem?_getD, hx]; rfl
            have hstep : g3 gs (j + 1) = ⟨mn (if j = 0 then x else (g3 gs j).least) x, mx (g3 gs j).most x, (g3 gs j).all + x⟩ := by simp only [g3, hgd]
            have HST := Lib.hid hstep
            have hne : wo.heap.size ≠ b := by
              have := HSL.out.2.2 (by omega)
              obtain ⟨b', off', e, hb', _⟩ := this
              injection e with e; injection e with e1; omega
            obtain ⟨hB, hBW⟩ := H.out
            have f3 := hB.frozen 3
            have f4 := hB.frozen 4
            have c3 := (hB.cell 3).trans rfl
            have c4 := (hB.cell 4).trans rfl
            have HB2 := Lib.hid hB
            have HBW2 := Lib.hid hBW
            have d1 : ∀ i v, (wr.setCell ⟨wo.heap.size, i, none⟩ v).cell? ⟨b, off + j, none⟩ = some (.int .i64 x) := fun i v => (World.cell?_setCell_other _ _ _ _ (fun e => by injection e with e; exact hne e)).trans hc
            have d2 : ∀ i v i' v', ((wr.setCell ⟨wo.heap.size, i, none⟩ v).setCell ⟨wo.heap.size, i', none⟩ v').cell? ⟨b, off + j, none⟩ = some (.int .i64 x) := fun i v i' v' => (World.cell?_setCell_other _ _ _ _ (fun e => by injection e with e; exact hne e)).trans (d1 i v)
            have d3 : ∀ i v i' v' i2 v2, (((wr.setCell ⟨wo.heap.size, i, none⟩ v).setCell ⟨wo.heap.size, i', none⟩ v').setCell ⟨wo.heap.size, i2, none⟩ v2).cell? ⟨b, off + j, none⟩ = some (.int .i64 x) := fun i v i' v' i2 v2 => (World.cell?_setCell_other _ _ _ _ (fun e => by injection e with e; exact hne e)).trans (d2 i v i' v')
            clear hstep hgd hx hb H hB hBW
            generalize g3 gs j = G at *
            obtain ⟨ml, mm, ma⟩ := G
            simp only at hg0 hg1 c3 c4
            by_cases hj0 : ((j : Int) == 0) = true
            · go_wp2
              go_region
              go_wp2
              go_region
              go_wp2
              have ej : j = 0 := by simpa using hj0
              go_roundw
              case rel => exact ⟨j + 1, by omega, by go_num, by rw [HST.out], (((HB2.out.set_ 3 _).set_ 3 _).set_ 4 _).of_eq (by rw [HST.out]; simp [ej]), by ((try change Below _ _ _); have bsz_ := (HBW2.out).size; (repeat (any_goals (first | (with_reducible exact HBW2.out) | (with_reducible exact Below.refl _ _) | (with_reducible apply Below.drew) | (with_reducible apply below_drewN) | (with_reducible refine Below.alloc ?_ ?_ _) | (with_reducible refine Below.setCell ?_ ?_ _)))); all_goals (first | exact Nat.le_refl _ | (simp; done) | (simp; omega) | omega | (dsimp only; omega)))⟩
              case measure => simp [intOf]; omega
            · have ej : ¬ j = 0 := by simpa using hj0
              have hj0' : ((j : Int) == 0) = false := by simpa using hj0
              clear hj0
              go_wp2
              go_region
              go_wp2
              go_region
              go_wp2
              go_roundw
              case rel => exact ⟨j + 1, by omega, by go_num, by rw [HST.out], ((HB2.out.set_ 3 _).set_ 4 _).of_eq (by rw [HST.out]; simp [ej]), by ((try change Below _ _ _); have bsz_ := (HBW2.out).size; (repeat (any_goals (first | (with_reducible exact HBW2.out) | (with_reducible exact Below.refl _ _) | (with_reducible apply Below.drew) | (with_reducible apply below_drewN) | (with_reducible refine Below.alloc ?_ ?_ _) | (with_reducible refine Below.setCell ?_ ?_ _)))); all_goals (first | exact Nat.le_refl _ | (simp; done) | (simp; omega) | omega | (dsimp only; omega)))⟩
              case measure => simp [intOf]; omega
          · have ej : j = gs.length := by omega
            subst ej
            obtain ⟨hB, hBW⟩ := H.out
            have c0 := (hB.cell 0).trans rfl
            have c1 := (hB.cell 1).trans rfl
            have c2 := (hB.cell 2).trans rfl
            have c3 := (hB.cell 3).trans rfl
            have c4 := (hB.cell 4).trans rfl
            have c5 := (hB.cell 5).trans rfl
            have c6 := (hB.cell 6).trans rfl
            have f5 := hB.frozen 5
            have f6 := hB.frozen 6
            have hlo := hZ.out.lt
            have hz2 := hZ.out.below hBW hlo
            have z0 := (hz2.cell 0).trans rfl
            have z1 := (hz2.cell 1).trans rfl
            have z2 := (hz2.cell 2).trans rfl
            have z3 := (hz2.cell 3).trans rfl
            have z4 := (hz2.cell 4).trans rfl
            have z5 := (hz2.cell 5).trans rfl
            have z6 := (hz2.cell 6).trans rfl
            have y0 := hz2.frozen 0
            have y1 := hz2.frozen 1
            have y2 := hz2.frozen 2
            have y3 := hz2.frozen 3
            have y4 := hz2.frozen 4
            have y5 := hz2.frozen 5
            have y6 := hz2.frozen 6
            have hne : w.heap.size ≠ wo.heap.size := by omega
            have HBW2 := Lib.hid (HBW0.out.trans (hBW.mono (by omega)))
            clear H hB hBW hz2 HSL HGB HG3
            by_cases hp : 0 < gs.length
            · have hm0 : 0 ≤ (g3 gs gs.length).all / gs.length := Int.ediv_nonneg hg0 (by omega)
              have hm1 : (g3 gs gs.length).all / gs.length ≤ gs.length * 16777215 := Int.le_trans (Int.ediv_le_self _ hg0) hg1
              have hu0 : 0 ≤ 100 * ((g3 gs gs.length).all / gs.length) / limit := Int.ediv_nonneg (by omega) (by omega)
              have hu1 : 100 * ((g3 gs gs.length).all / gs.length) / limit ≤ 100 * ((g3 gs gs.length).all / gs.length) := Int.ediv_le_self _ (by omega)
              by_cases hu : 100 * ((g3 gs gs.length).all / gs.length) / limit < 100
              · have hF := HFIN.out ((g3 gs gs.length).all / gs.length) (100 - 100 * ((g3 gs gs.length).all / gs.length) / limit) (by rw [if_pos hp]) (by rw [if_pos hu])
                have HF := Lib.hid hF
                clear hF
                go_wp2
                refine bodyPost_ret (v := .tuple #[.agg #[.int .i64 gs.length, .int .i64 (k - gs.length), .int .i64 (spare - ((k : Int) - gs.length)), .int .i64 (g3 gs gs.length).least, .int .i64 (g3 gs gs.length).most, .int .i64 ((g3 gs gs.length).all / gs.length), .int .i64 (100 - 100 * ((g3 gs gs.length).all / gs.length) / limit)], .int .i64 0]) (by simp [results, Try.results22, go_sem, *]) rfl ⟨by rw [← HF.out], ?_⟩
                ((try change Below _ _ _); have bsz_ := (HBW2.out).size; (repeat (any_goals (first | (with_reducible exact HBW2.out) | (with_reducible exact Below.refl _ _) | (with_reducible apply Below.drew) | (with_reducible apply below_drewN) | (with_reducible refine Below.alloc ?_ ?_ _) | (with_reducible refine Below.setCell ?_ ?_ _)))); all_goals (first | exact Nat.le_refl _ | (simp; done) | (simp; omega) | omega | (dsimp only; omega)))
              · have hF := HFIN.out ((g3 gs gs.length).all / gs.length) 0 (by rw [if_pos hp]) (by rw [if_neg hu])
                have HF := Lib.hid hF
                clear hF
                go_wp2
                refine bodyPost_ret (v := .tuple #[.agg #[.int .i64 gs.length, .int .i64 (k - gs.length), .int .i64 (spare - ((k : Int) - gs.length)), .int .i64 (g3 gs gs.length).least, .int .i64 (g3 gs gs.length).most, .int .i64 ((g3 gs gs.length).all / gs.length), .int .i64 (0)], .int .i64 0]) (by simp [results, Try.results22, go_sem, *]) rfl ⟨by rw [← HF.out], ?_⟩
                ((try change Below _ _ _); have bsz_ := (HBW2.out).size; (repeat (any_goals (first | (with_reducible exact HBW2.out) | (with_reducible exact Below.refl _ _) | (with_reducible apply Below.drew) | (with_reducible apply below_drewN) | (with_reducible refine Below.alloc ?_ ?_ _) | (with_reducible refine Below.setCell ?_ ?_ _)))); all_goals (first | exact Nat.le_refl _ | (simp; done) | (simp; omega) | omega | (dsimp only; omega)))
            · have e0 : gs = [] := List.eq_nil_of_length_eq_zero (by omega)
              subst e0
              have hF := HFIN.out 0 100 (by simp) (by simp)
              have HF := Lib.hid hF
              clear hF
              go_wp2
              refine bodyPost_ret (v := .tuple #[.agg #[.int .i64 0, .int .i64 k, .int .i64 (spare - (k : Int)), .int .i64 0, .int .i64 0, .int .i64 0, .int .i64 100], .int .i64 0]) (by simp [results, Try.results22, go_sem, g3, *]) rfl ⟨by rw [← HF.out]; simp [g3], ?_⟩
              ((try change Below _ _ _); have bsz_ := (HBW2.out).size; (repeat (any_goals (first | (with_reducible exact HBW2.out) | (with_reducible exact Below.refl _ _) | (with_reducible apply Below.drew) | (with_reducible apply below_drewN) | (with_reducible refine Below.alloc ?_ ?_ _) | (with_reducible refine Below.setCell ?_ ?_ _)))); all_goals (first | exact Nat.le_refl _ | (simp; done) | (simp; omega) | omega | (dsimp only; omega)))
set_option maxHeartbeats 1000000 in
theorem refOf_bad (A B : Option Addr) (n ca m cb : Nat) (spare limit : Int) (w : World) (hbad : ofBad n m spare limit = true) :
    Calls Try.prog 22 #[.slice A n ca, .slice B m cb, .int .i64 spare, .int .i64 limit] w fun e w' => e = .returned (.tuple #[Hs.zero.agg, .int .i64 1]) ∧ Below w.heap.size w w' := by
  by_cases c1 : (n : Int) = m
  · have b1 : ((n : Int) != m) = false := by simpa using c1
    have hn' : n = m := by omega
    subst hn'
    clear c1 b1
    by_cases c2 : limit < 1
    · clear hbad
      go_enter Try.func22, Try.ntmps22
      go_wp2
      refine bodyPost_ret (v := .tuple #[Hs.zero.agg, .int .i64 1]) (by simp [results, Try.results22, go_sem, Hs.zero, Hs.agg]) rfl ⟨rfl, ?_⟩
      ((try change Below _ _ _); (repeat (any_goals (first | (with_reducible exact Below.refl _ _) | (with_reducible exact Below.refl _ _) | (with_reducible apply Below.drew) | (with_reducible apply below_drewN) | (with_reducible refine Below.alloc ?_ ?_ _) | (with_reducible refine Below.setCell ?_ ?_ _)))); all_goals (first | exact Nat.le_refl _ | (simp; done) | (simp; omega) | omega | (dsimp only; omega)))
    · by_cases c3 : 16777215 < limit
      · clear hbad
        go_enter Try.func22, Try.ntmps22
        go_wp2
        refine bodyPost_ret (v := .tuple #[Hs.zero.agg, .int .i64 1]) (by simp [results, Try.results22, go_sem, Hs.zero, Hs.agg]) rfl ⟨rfl, ?_⟩
        ((try change Below _ _ _); (repeat (any_goals (first | (with_reducible exact Below.refl _ _) | (with_reducible exact Below.refl _ _) | (with_reducible apply Below.drew) | (with_reducible apply below_drewN) | (with_reducible refine Below.alloc ?_ ?_ _) | (with_reducible refine Below.setCell ?_ ?_ _)))); all_goals (first | exact Nat.le_refl _ | (simp; done) | (simp; omega) | omega | (dsimp only; omega)))
      · have c4 : spare < 0 := by simp [ofBad] at hbad; omega
        clear hbad
        go_enter Try.func22, Try.ntmps22
        go_wp2
        refine bodyPost_ret (v := .tuple #[Hs.zero.agg, .int .i64 1]) (by simp [results, Try.results22, go_sem, Hs.zero, Hs.agg]) rfl ⟨rfl, ?_⟩
        ((try change Below _ _ _); (repeat (any_goals (first | (with_reducible exact Below.refl _ _) | (with_reducible exact Below.refl _ _) | (with_reducible apply Below.drew) | (with_reducible apply below_drewN) | (with_reducible refine Below.alloc ?_ ?_ _) | (with_reducible refine Below.setCell ?_ ?_ _)))); all_goals (first | exact Nat.le_refl _ | (simp; done) | (simp; omega) | omega | (dsimp only; omega)))
  · have b1 : ((n : Int) != m) = true := by simpa using c1
    clear hbad
    go_enter Try.func22, Try.ntmps22
    go_wp2
    refine bodyPost_ret (v := .tuple #[Hs.zero.agg, .int .i64 1]) (by simp [results, Try.results22, go_sem, Hs.zero, Hs.agg]) rfl ⟨rfl, ?_⟩
    ((try change Below _ _ _); (repeat (any_goals (first | (with_reducible exact Below.refl _ _) | (with_reducible exact Below.refl _ _) | (with_reducible apply Below.drew) | (with_reducible apply below_drewN) | (with_reducible refine Below.alloc ?_ ?_ _) | (with_reducible refine Below.setCell ?_ ?_ _)))); all_goals (first | exact Nat.le_refl _ | (simp; done) | (simp; omega) | omega | (dsimp only; omega)))

end Go.Proofs.Ytdjfkehbknbocaa

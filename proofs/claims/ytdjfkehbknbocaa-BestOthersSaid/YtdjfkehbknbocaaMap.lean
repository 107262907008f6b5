/- The walk of best.Map. -/
import Derived.Deep.Cut
import Derived.Test.YtdjfkehbknbocaaMapB
namespace Go.Proofs.Ytdjfkehbknbocaa
open Go.RowKit Go.Shelf
set_option linter.unusedSimpArgs false
set_option linter.unusedVariables false
attribute [local go_sem] Oper.semAt_some

set_option maxRecDepth 100000 in
set_option maxHeartbeats 40000000 in
theorem map_any (g : Geo) (s : St) (fl co : List Int) (A : Option Addr) (n c : Nat) (bs : List Bl) (w : World) (hf : Sl eInt 1 w s.f.A s.f.n fl) (hc : Sl eInt 1 w s.c.A s.c.n co) (hA : Sl eBl 3 w A n bs) (hD : Deep w bs) (hl : g.lbas ≤ 100) (hn : n ≤ 12) (hpp : ∀ x ∈ bs, x.pages.length ≤ 80) :
    Calls Try.prog 30 #[g.agg, s.agg, .slice A n c] w (MapPost w (whereF g.lbas fl co bs g.lbas.toNat) (seqsF g.lbas fl co bs g.lbas.toNat) g.lbas.toNat) := by
  have hlen := hA.len
  have hmay := fun W (hW : Below w.heap.size w W) block b p => may_any g s fl co block b p W (hf.below hW) (hc.below hW)
  have hless := fun p q W => less_any p q W
  obtain ⟨N, hN⟩ : ∃ N, g.lbas.toNat = N := ⟨_, rfl⟩
  rw [hN]
  obtain ⟨g0, g1, G2, g3, g4, g5⟩ := g
  obtain ⟨⟨fA, fn, fc⟩, ⟨cA, cn, cc⟩, ⟨sA, sn, sc⟩, ⟨tA, tn, tc⟩⟩ := s
  simp only [Geo.agg, St.agg, Sv.v] at hmay hl hN ⊢
  have HA := Lib.hid (And.intro hA hD)
  have HMAY := Lib.hid hmay
  clear hmay
  have HLESS := Lib.hid hless
  clear hless
  clear hf hc hA hD
  refine (callsIn_wide (n := 3)).1 ?_
  refine callsIn_of_wp_marks Try.func30 rfl trivial ?_ rfl
  refine wpIn_wide.2 ?_
  simp only [Try.ntmps30, List.size_toArray, List.length_cons, List.length_nil, Nat.reduceAdd, Nat.reduceSub, Array.replicate_succ, Array.replicate_zero, List.push_toArray, List.append_toArray, List.nil_append, List.cons_append]
  have hmm := @run_makeMap Try.prog
  go_wp2_with fail
  clear hmm
  refine wp_loop (fun a' w' => ∃ u9 u10 u23 u24 u25 u26 u27 u28 u29 u30 u31 u73 ds, (∃ i : Nat, i ≤ n ∧ u23 = .int .i64 i ∧ Hid (Fix w ⟨g0, g1, G2, g3, g4, g5⟩ ⟨⟨fA, fn, fc⟩, ⟨cA, cn, cc⟩, ⟨sA, sn, sc⟩, ⟨tA, tn, tc⟩⟩ w' ∧ Rep g3 (w.heap.size + 2) (100 * i) (fun l => toO (blocksF g3 fl co l bs i)) w' ∧ Marks (w.heap.size + 4) w'.heap.size ds w')) ∧
      a' = { tmps := #[.agg #[.int .i64 g0, .int .i64 g1, .int .i64 G2, .int .i64 g3, .int .i64 g4, .int .i64 g5], .agg #[.slice fA fn fc, .slice cA cn cc, .slice sA sn sc, .slice tA tn tc], .slice A n c, .pointer (some ⟨w.heap.size, 0, none⟩), .pointer (some ⟨w.heap.size + 1, 0, none⟩), undef, .slice none 0 0, .slice none 0 0, .pointer (some ⟨w.heap.size + 3, 0, none⟩), u9, u10, undef, undef, undef, undef, undef, undef, undef, undef, undef, .map (some (w.heap.size + 2)), .slice A n c, .int .i64 n, u23, u24, u25, u26, u27, u28, u29, u30, u31, undef, undef, undef, undef, undef, undef, undef, undef, undef, undef, undef, undef, undef, undef, undef, undef, undef, undef, undef, undef, undef, undef, undef, undef, undef, undef, undef, undef, undef, undef, undef, undef, undef, undef, undef, undef, undef, undef, undef, undef, undef, u73, undef, undef, undef, undef, undef, undef, undef, undef, undef, undef, undef, undef, undef, undef, undef, undef, undef, undef, undef, undef, undef, undef, undef, undef, undef, undef, undef, undef, undef], defers := ds }) (fun a' _ => n - (intOf (a'.tmps.getD 23 undef)).toNat) ?_ ?_
  · have k0 := ((Blk.new w 48 #[.int .i64 g0, .int .i64 g1, .int .i64 G2, .int .i64 g3, .int .i64 g4, .int .i64 g5]).alloc (.cells #[.slice fA fn fc, .slice cA cn cc, .slice sA sn sc, .slice tA tn tc] 50)).alloc (.map #[] 0) |>.alloc (.cells #[.map (some (w.heap.size + 1 + 1))] 102)
    have k1 := (Blk.new1 w (.cells #[.int .i64 g0, .int .i64 g1, .int .i64 G2, .int .i64 g3, .int .i64 g4, .int .i64 g5] 48) 50 #[.slice fA fn fc, .slice cA cn cc, .slice sA sn sc, .slice tA tn tc]).alloc (.map #[] 0) |>.alloc (.cells #[.map (some (w.heap.size + 1 + 1))] 102)
    have k2 := Blk.new (((w.alloc (.cells #[.int .i64 g0, .int .i64 g1, .int .i64 G2, .int .i64 g3, .int .i64 g4, .int .i64 g5] 48)).alloc (.cells #[.slice fA fn fc, .slice cA cn cc, .slice sA sn sc, .slice tA tn tc] 50)).alloc (.map #[] 0)) 102 #[.map (some (w.heap.size + 1 + 1))]
    have k3 := (Rep.made ((w.alloc (.cells #[.int .i64 g0, .int .i64 g1, .int .i64 G2, .int .i64 g3, .int .i64 g4, .int .i64 g5] 48)).alloc (.cells #[.slice fA fn fc, .slice cA cn cc, .slice sA sn sc, .slice tA tn tc] 50)) g3).alloc (.cells #[.map (some (w.heap.size + 1 + 1))] 102)
    simp only [World.size_alloc] at k2 k3
    refine ⟨_, _, _, _, _, _, _, _, _, _, _, _, _, ⟨0, Nat.zero_le _, rfl, ⟨⟨k0, k1⟩, k2, by ((try change Below _ _ _); (repeat (any_goals (first | (with_reducible exact Below.refl _ _) | (with_reducible exact Below.refl _ _) | (with_reducible apply Below.drew) | (with_reducible apply below_drewN) | (with_reducible refine Below.alloc ?_ ?_ _) | (with_reducible refine Below.setCell ?_ ?_ _)))); all_goals (first | exact Nat.le_refl _ | (simp; done) | (simp; omega) | omega | (dsimp only; omega)))⟩, k3.of_eq (fun l => rfl), Marks.nil _ _ _⟩, rfl⟩
  · rintro a' wr ⟨u9, u10, u23, u24, u25, u26, u27, u28, u29, u30, u31, u73, ds, ⟨i, hi, rfl, H⟩, rfl⟩
    dsimp only
    obtain ⟨wo, rfl⟩ : ∃ wo : World, wo = wr := ⟨_, rfl⟩
    by_cases hlt : i < n
    · have hlt' : (i : Int) < (n : Int) := by omega
      obtain ⟨b, off, x, rfl, hb, hx, hcb⟩ := (HA.out.1.below H.out.1.below).get_ hlt
      have hxm := List.mem_of_getElem? hx
      have hp80 := hpp x hxm
      have hpgs := HA.out.2 x hxm
      obtain ⟨⟨bm, bb, ⟨pA, pn, pcc⟩⟩, pages⟩ := x
      have bc0 := hcb 0 _ rfl
      have bc1 := hcb 1 _ rfl
      have bc2 := hcb 2 _ rfl
      simp only [Nat.add_zero] at bc0
      simp only [Sv.v] at bc0 bc1 bc2 hpgs hp80
      have hgeo : Blk wo w.heap.size 48 #[.int .i64 g0, .int .i64 g1, .int .i64 G2, .int .i64 g3, .int .i64 g4, .int .i64 g5] := H.out.1.gs.geo
      have hgeo2 := (hgeo.alloc (.cells #[.int .i64 i] 3)).alloc (.cells #[.int .i64 bm, .bool bb, .slice pA pn pcc] 60)
      have q0 := (hgeo2.cell 0).trans rfl
      have q1 := (hgeo2.cell 1).trans rfl
      have q2 := (hgeo2.cell 2).trans rfl
      have q3 := (hgeo2.cell 3).trans rfl
      have q4 := (hgeo2.cell 4).trans rfl
      have q5 := (hgeo2.cell 5).trans rfl
      have HX := Lib.hid hx
      clear hcb hgeo hgeo2 hx
      go_wp2_with fail
      refine (where_any ⟨g0, g1, G2, g3, g4, g5⟩ (i : Int) ⟨bm, bb, ⟨pA, pn, pcc⟩⟩ _).mono ?_
      rintro e w5 ⟨rfl, hWP⟩
      have hpl := hpgs.len
      have hbW3 : Below wo.heap.size wo ((wo.alloc (.cells #[.int .i64 i] 3)).alloc (.cells #[.int .i64 bm, .bool bb, .slice pA pn pcc] 60)) := by ((try change Below _ _ _); (repeat (any_goals (first | (with_reducible exact Below.refl _ _) | (with_reducible exact Below.refl _ _) | (with_reducible apply Below.drew) | (with_reducible apply below_drewN) | (with_reducible refine Below.alloc ?_ ?_ _) | (with_reducible refine Below.setCell ?_ ?_ _)))); all_goals (first | exact Nat.le_refl _ | (simp; done) | (simp; omega) | omega | (dsimp only; omega)))
      have hsz : ((wo.alloc (.cells #[.int .i64 i] 3)).alloc (.cells #[.int .i64 bm, .bool bb, .slice pA pn pcc] 60)).heap.size = wo.heap.size + 2 := by simp
      have k9 := ((Blk.new wo 3 #[.int .i64 i]).alloc (.cells #[.int .i64 bm, .bool bb, .slice pA pn pcc] 60)).below_ hWP.below
      have k10 := (Blk.new1 wo (.cells #[.int .i64 i] 3) 60 #[.int .i64 bm, .bool bb, .slice pA pn pcc]).below_ hWP.below
      have hb5 := below_tr hbW3 hWP.below
      rw [hsz] at hWP ⊢
      obtain ⟨B1, hB1⟩ : ∃ B1, wo.heap.size + 2 + 1 = B1 := ⟨_, rfl⟩
      obtain ⟨B2, hB2⟩ : ∃ B2, wo.heap.size + 2 + 2 = B2 := ⟨_, rfl⟩
      rw [hB1, hB2] at hWP
      rw [hB1, hB2]
      have h4 : w.heap.size + 3 < wo.heap.size := H.out.1.so.lt
      have hl1 := hWP.b1.lt
      have hl2 := hWP.b2.lt
      have ib0 : IB w5.heap.size w ⟨g0, g1, G2, g3, g4, g5⟩ ⟨⟨fA, fn, fc⟩, ⟨cA, cn, cc⟩, ⟨sA, sn, sc⟩, ⟨tA, tn, tc⟩⟩ ds wo.heap.size (wo.heap.size + 1) i bm bb (.slice pA pn pcc) fl co (fun l => toO (blocksF g3 fl co l bs i)) [] w5 :=
        ⟨H.out.1.grown (below_grown hb5) (fun k e => by cases e), H.out.2.1.below_ hb5, k9, k10, (H.out.2.2.mono hb5.size).grown (below_grown hb5) (fun k e => by cases e), Nat.le_refl _⟩
      have hw5 : Below w.heap.size w w5 := ib0.fx.below
      have hstops := where_stops 2 B1 B2 i ⟨bm, bb, ⟨pA, pn, pcc⟩⟩ pages w w5 (by omega) hpgs hw5 hWP.b1 hWP.b2 (by omega) (by omega)
      have HIB0 := Lib.hid ib0
      have HST := Lib.hid hstops
      have HB5 := Lib.hid hb5
      clear q0 q1 q2 q3 q4 q5 bc0 bc1 bc2 k9 k10 hWP hbW3 hsz ib0 hstops hpgs hb5
      dsimp only
      go_wp2_with fail
      refine (wpIn_wide (n := 3)).1 ?_
      refine wpIn_rangeFunc_ownH (F := Fence.wide) (n := 3) rfl (by omega) (gf := 83) (lb := #[.pointer (some ⟨B2, 0, none⟩), .pointer (some ⟨B1, 0, none⟩)]) rfl trivial (enters_of Try.func83 (by kernel_rfl) rfl) HST.out kpW_t (kpW_b (by omega) hl1 hl2) (Below.refl _ _) (fun _ => rfl)
        (fun pre W => IB w5.heap.size w ⟨g0, g1, G2, g3, g4, g5⟩ ⟨⟨fA, fn, fc⟩, ⟨cA, cn, cc⟩, ⟨sA, sn, sc⟩, ⟨tA, tn, tc⟩⟩ ds wo.heap.size (wo.heap.size + 1) i bm bb (.slice pA pn pcc) fl co (fun l => toO (blocksF g3 fl co l bs i)) pre W) (fun _ _ _ => False) (IB.own (by omega) (by omega) (by omega)) (fun _ _ _ _ _ hs _ _ => hs) HIB0.out
        (fun x a' W => ∃ Bx By, AxB w5.heap.size x ((fun x Bx By => #[.agg #[.int .i64 g0, .int .i64 g1, .int .i64 G2, .int .i64 g3, .int .i64 g4, .int .i64 g5], .agg #[.slice fA fn fc, .slice cA cn cc, .slice sA sn sc, .slice tA tn tc], .slice (some ⟨b, off, none⟩) n c, .pointer (some ⟨w.heap.size, 0, none⟩), .pointer (some ⟨w.heap.size + 1, 0, none⟩), undef, .slice none 0 0, .slice none 0 0, .pointer (some ⟨w.heap.size + 3, 0, none⟩), .pointer (some ⟨wo.heap.size, 0, none⟩), .pointer (some ⟨wo.heap.size + 1, 0, none⟩), .pointer (some ⟨Bx, 0, none⟩), .pointer (some ⟨By, 0, none⟩), undef, undef, undef, undef, undef, undef, undef, .map (some (w.heap.size + 2)), .slice (some ⟨b, off, none⟩) n c, .int .i64 n, .int .i64 i, .bool true, .int .i64 i, .pointer (some ⟨b, off + i * 3, none⟩), .agg #[.int .i64 bm, .bool bb, .slice pA pn pcc], .agg #[.int .i64 g0, .int .i64 g1, .int .i64 G2, .int .i64 g3, .int .i64 g4, .int .i64 g5], .int .i64 i, .agg #[.int .i64 bm, .bool bb, .slice pA pn pcc], .func (.func 83) #[] #[.pointer (some ⟨B2, 0, none⟩), .pointer (some ⟨B1, 0, none⟩)], x.1.agg, x.2.agg, undef, undef, undef, undef, undef, undef, undef, undef, undef, undef, undef, undef, undef, undef, undef, undef, undef, undef, undef, undef, undef, undef, undef, undef, undef, undef, undef, undef, undef, undef, undef, undef, undef, undef, undef, undef, undef, undef, undef, u73, undef, undef, undef, undef, undef, undef, undef, undef, undef, undef, undef, undef, undef, undef, undef, undef, undef, undef, undef, undef, undef, undef, undef, undef, undef, undef, undef, undef, undef]) x) a' Bx By W) (fun x a' => AxB.own x _ a') ?assign ?body ?done ?stop
      case assign =>
        rintro l pre ⟨⟨a0, a1, a2⟩, ⟨p0, ⟨p1, p2, p3, p4⟩, p5⟩⟩ W K hib hK
        simp only [apE, Ad.agg, Pg.agg]
        gi_wp2
        have hgr : W.grownBy ((W.alloc (.cells #[.int .i64 a0, .int .i64 a1, .int .i64 a2] 70)).alloc (.cells #[.int .i64 p0, .int .i64 p1, .int .i64 p2, .int .i64 p3, .int .i64 p4, .string p5] 64)) (some (w.heap.size + 2)) := grown_alloc (grown_alloc (grown_of_below (Below.refl _ W) _) _) _
        have hszW := hib.size
        exact hK _ _ (KeepsFrom.of_grownBy hgr (fun j e => by injection e with e; omega)) (kpW_of_grown hgr (by omega) (by omega) (by omega) (by omega) (by omega) (by omega)) (hib.next hgr (by omega) (by omega) ((hib.rep.alloc _).alloc _))
          ⟨W.heap.size, W.heap.size + 1, hszW, by omega, (Blk.new W _ _).alloc _, Blk.new1 W _ _ _, rfl⟩
      case body =>
        rintro l pre ⟨⟨a0, a1, a2⟩, ⟨p0, ⟨p1, p2, p3, p4⟩, p5⟩⟩ a' W hll _ hib ⟨Bx, By, lx, ly, bx, bp, rfl⟩ hlen2
        dsimp only [Ad.agg, Pg.agg, adC, pgC] at bx bp ⊢
        have HIB := Lib.hid hib
        have hm := HMAY.out W hib.fx.below (i : Int) ⟨bm, bb, ⟨pA, pn, pcc⟩⟩ ⟨p0, ⟨p1, p2, p3, p4⟩, p5⟩
        simp only [Bk.agg, Pg.agg, Sv.v] at hm
        have hskip := fun h l => stepO_not (lbas := g3) (fl := fl) (co := co) (i := i) (mode := bm) (st := foldO g3 fl co (i : Int) bm (fun l => toO (blocksF g3 fl co l bs i)) pre) (x := ((⟨a0, a1, a2⟩, ⟨p0, ⟨p1, p2, p3, p4⟩, p5⟩) : Ad × Pg)) h l
        have hput := fun h hs l => stepO_put (lbas := g3) (fl := fl) (co := co) (i := i) (mode := bm) (st := foldO g3 fl co (i : Int) bm (fun l => toO (blocksF g3 fl co l bs i)) pre) (x := ((⟨a0, a1, a2⟩, ⟨p0, ⟨p1, p2, p3, p4⟩, p5⟩) : Ad × Pg)) h hs l
        have hles := fun s hs h l => stepO_less (lbas := g3) (fl := fl) (co := co) (i := i) (mode := bm) (st := foldO g3 fl co (i : Int) bm (fun l => toO (blocksF g3 fl co l bs i)) pre) (x := ((⟨a0, a1, a2⟩, ⟨p0, ⟨p1, p2, p3, p4⟩, p5⟩) : Ad × Pg)) (s := s) hs h l
        have hrng := mayF_rng (lbas := g3) (fl := fl) (co := co) (i := i) (mode := bm) (p := ⟨p0, ⟨p1, p2, p3, p4⟩, p5⟩)
        simp only at hskip hput hles hrng
        generalize mayF g3 fl co (i : Int) bm ⟨p0, ⟨p1, p2, p3, p4⟩, p5⟩ = T at hm hskip hput hrng
        have HSKIP := Lib.hid hskip
        clear hskip
        have HPUT := Lib.hid hput
        clear hput
        have HLES := Lib.hid hles
        clear hles
        have HRNG := Lib.hid hrng
        clear hrng
        have kg := hib.fx.gs.geo
        have ks := hib.fx.gs.st
        simp only [Sv.v] at ks
        have kso := hib.fx.so
        have k9 := hib.b9
        have k10 := hib.b10
        have q0 := (kg.cell 0).trans rfl
        have q1 := (kg.cell 1).trans rfl
        have q2 := (kg.cell 2).trans rfl
        have q3 := (kg.cell 3).trans rfl
        have q4 := (kg.cell 4).trans rfl
        have q5 := (kg.cell 5).trans rfl
        have r0 := (ks.cell 0).trans rfl
        have r1 := (ks.cell 1).trans rfl
        have r2 := (ks.cell 2).trans rfl
        have r3 := (ks.cell 3).trans rfl
        have so0 := (kso.cell 0).trans rfl
        have i0 := (k9.cell 0).trans rfl
        have b0 := (k10.cell 0).trans rfl
        have b1 := (k10.cell 1).trans rfl
        have b2 := (k10.cell 2).trans rfl
        have c0 := (bp.cell 0).trans rfl
        have c1 := (bp.cell 1).trans rfl
        have c2 := (bp.cell 2).trans rfl
        have c3 := (bp.cell 3).trans rfl
        have c4 := (bp.cell 4).trans rfl
        have c5 := (bp.cell 5).trans rfl
        have x0 := (bx.cell 0).trans rfl
        have x1 := (bx.cell 1).trans rfl
        have x2 := (bx.cell 2).trans rfl
        clear hib kg ks kso k9 k10
        gi_wp2_with fail
        refine ⟨trivial, ?_⟩
        refine (CallsIn.inRound l (callsIn_wide.2 hm)).mono ?_
        rintro e W1 ⟨rfl, hb1⟩
        have hgr1 : W.grownBy W1 (some (w.heap.size + 2)) := grown_of_below hb1 _
        have HGR1 := Lib.hid hgr1
        have HSZ := Lib.hid (And.intro HIB.out.size hlen2)
        clear q0 q1 q2 q3 q4 q5 r0 r1 r2 r3 so0 i0 b0 b1 b2 c0 c1 c2 c3 c4 c5 x0 x1 x2 hm hgr1
        have hkso := HIB.out.fx.so.below_ hb1
        have hbp := bp.below_ hb1
        have hbx := bx.below_ hb1
        have hrep1 := HIB.out.rep.below_ hb1
        have HB1 := Lib.hid (And.intro hkso (And.intro hbp (And.intro hbx hrep1)))
        have so0 := (hkso.cell 0).trans rfl
        have c0 := (hbp.cell 0).trans rfl
        have c1 := (hbp.cell 1).trans rfl
        have c2 := (hbp.cell 2).trans rfl
        have c3 := (hbp.cell 3).trans rfl
        have c4 := (hbp.cell 4).trans rfl
        have c5 := (hbp.cell 5).trans rfl
        clear hkso hbp hbx hrep1 bx bp hb1
        have fin : ∀ W', W.grownBy W' (some (w.heap.size + 2)) → Rep g3 (w.heap.size + 2) (100 * i + (pre ++ [(((⟨a0, a1, a2⟩ : Ad), (⟨p0, ⟨p1, p2, p3, p4⟩, p5⟩ : Pg)) : Ad × Pg)]).length) (foldO g3 fl co (i : Int) bm (fun l => toO (blocksF g3 fl co l bs i)) (pre ++ [(((⟨a0, a1, a2⟩ : Ad), (⟨p0, ⟨p1, p2, p3, p4⟩, p5⟩ : Pg)) : Ad × Pg)])) W' →
            KeepsFrom w5.heap.size W W' ∧ KpW w.heap.size B1 B2 W W' ∧ IB w5.heap.size w ⟨g0, g1, G2, g3, g4, g5⟩ ⟨⟨fA, fn, fc⟩, ⟨cA, cn, cc⟩, ⟨sA, sn, sc⟩, ⟨tA, tn, tc⟩⟩ ds wo.heap.size (wo.heap.size + 1) i bm bb (.slice pA pn pcc) fl co (fun l => toO (blocksF g3 fl co l bs i)) (pre ++ [(((⟨a0, a1, a2⟩ : Ad), (⟨p0, ⟨p1, p2, p3, p4⟩, p5⟩ : Pg)) : Ad × Pg)]) W' := fun W' hg hr =>
          ⟨KeepsFrom.of_grownBy hg (fun j e => by injection e with e; omega), kpW_of_grown hg (by omega) (by have := HSZ.out.1; omega) (by omega) (by omega) (by have := HSZ.out.1; omega) (by have := HSZ.out.1; omega), HIB.out.next hg (by omega) (by omega) hr⟩
        have finS : ∀ W', W.grownBy W' (some (w.heap.size + 2)) → Rep g3 (w.heap.size + 2) (100 * i + pre.length) (foldO g3 fl co (i : Int) bm (fun l => toO (blocksF g3 fl co l bs i)) pre) W' → (∀ l, stepO g3 fl co (i : Int) bm (foldO g3 fl co (i : Int) bm (fun l => toO (blocksF g3 fl co l bs i)) pre) (⟨a0, a1, a2⟩, ⟨p0, ⟨p1, p2, p3, p4⟩, p5⟩) l = foldO g3 fl co (i : Int) bm (fun l => toO (blocksF g3 fl co l bs i)) pre l) → _ := fun W' hg hr he =>
          fin W' hg ((hr.mono (by simp)).of_eq (fun l => by rw [foldO_snoc]; exact (he l).symm))
        have finP : ∀ W', W.grownBy W' (some (w.heap.size + 2)) → Rep g3 (w.heap.size + 2) (100 * i + pre.length + 1) (fun l => if l = p2 then some (⟨a0, a1, a2⟩, ⟨p1, p2, p3, p4⟩) else foldO g3 fl co (i : Int) bm (fun l => toO (blocksF g3 fl co l bs i)) pre l) W' → (∀ l, (if l = p2 then some (⟨a0, a1, a2⟩, ⟨p1, p2, p3, p4⟩) else foldO g3 fl co (i : Int) bm (fun l => toO (blocksF g3 fl co l bs i)) pre l) = stepO g3 fl co (i : Int) bm (foldO g3 fl co (i : Int) bm (fun l => toO (blocksF g3 fl co l bs i)) pre) (⟨a0, a1, a2⟩, ⟨p0, ⟨p1, p2, p3, p4⟩, p5⟩) l) → _ := fun W' hg hr he =>
          fin W' hg ((hr.mono (by simp; omega)).of_eq (fun l => by rw [foldO_snoc]; exact he l))
        have HFS := Lib.hid finS
        have HFP := Lib.hid finP
        clear fin finS finP
        cases T with
        | false =>
          gi_wp2
          exact HFS.out W1 HGR1.out HB1.out.2.2.2 (HSKIP.out (by simp))
        | true =>
          obtain ⟨h0, h1⟩ := HRNG.out rfl
          have hbd : 100 * i + pre.length < 1000000 := by have := HSZ.out.2; omega
          rcases hst : foldO g3 fl co (i : Int) bm (fun l => toO (blocksF g3 fl co l bs i)) pre p2 with _ | ⟨⟨s0, s1, s2⟩, ⟨s3, s4, s5, s6⟩⟩
          · have HST2 := Lib.hid hst
            clear hst
            have kA := (HB1.out.1.alloc (.cells #[.int .i64 0, .int .i64 0, .int .i64 0, .int .i64 0, .int .i64 0, .int .i64 0, .int .i64 0] 107))
            have kB := (HB1.out.2.1.alloc (.cells #[.int .i64 0, .int .i64 0, .int .i64 0, .int .i64 0, .int .i64 0, .int .i64 0, .int .i64 0] 107))
            have kC := (HB1.out.2.2.1.alloc (.cells #[.int .i64 0, .int .i64 0, .int .i64 0, .int .i64 0, .int .i64 0, .int .i64 0, .int .i64 0] 107))
            have so0 := (kA.cell 0).trans rfl
            have c0 := (kB.cell 0).trans rfl
            have c1 := (kB.cell 1).trans rfl
            have c2 := (kB.cell 2).trans rfl
            have c3 := (kB.cell 3).trans rfl
            have c4 := (kB.cell 4).trans rfl
            have c5 := (kB.cell 5).trans rfl
            have x0 := (kC.cell 0).trans rfl
            have x1 := (kC.cell 1).trans rfl
            have x2 := (kC.cell 2).trans rfl
            clear kA kB kC
            gi_wp2_with (gi_at_lookup; refine wpListIn_lookup_one rfl _ _ rfl rfl HB1.out.2.2.2 rfl h0 h1 hl none HST2.out (.agg #[.int .i64 0, .int .i64 0, .int .i64 0, .int .i64 0, .int .i64 0, .int .i64 0, .int .i64 0]) rfl false rfl ?_)
            all_goals (try (exfalso; rename_i h1_ h2_; cases h1_; done))
            refine ⟨trivial, ?_⟩
            gi_wp2_with (gi_at_mapUpdate; refine wpListIn_update_one rfl _ _ _ rfl rfl (HB1.out.2.2.2.alloc _) hbd rfl h0 h1 hl (⟨a0, a1, a2⟩, ⟨p1, p2, p3, p4⟩) rfl ?_; intro w' hrep' hgr')
            exact HFP.out _ (grown_tr (grown_alloc HGR1.out _) hgr') hrep' (HPUT.out (by simp) (Or.inl HST2.out))
          · have HST2 := Lib.hid hst
            clear hst
            have kA := (HB1.out.1.alloc (.cells #[.int .i64 s3, .int .i64 s4, .int .i64 s5, .int .i64 s6, .int .i64 s0, .int .i64 s1, .int .i64 s2] 107))
            have kB := (HB1.out.2.1.alloc (.cells #[.int .i64 s3, .int .i64 s4, .int .i64 s5, .int .i64 s6, .int .i64 s0, .int .i64 s1, .int .i64 s2] 107))
            have kC := (HB1.out.2.2.1.alloc (.cells #[.int .i64 s3, .int .i64 s4, .int .i64 s5, .int .i64 s6, .int .i64 s0, .int .i64 s1, .int .i64 s2] 107))
            have kR := (HB1.out.2.2.2.alloc (.cells #[.int .i64 s3, .int .i64 s4, .int .i64 s5, .int .i64 s6, .int .i64 s0, .int .i64 s1, .int .i64 s2] 107))
            have HB2 := Lib.hid (And.intro kA (And.intro kB (And.intro kC kR)))
            have hgr2 := grown_alloc HGR1.out (.cells #[.int .i64 s3, .int .i64 s4, .int .i64 s5, .int .i64 s6, .int .i64 s0, .int .i64 s1, .int .i64 s2] 107)
            have HGR2 := Lib.hid hgr2
            have sn0 := (kA.cell 0).trans rfl
            have m0 := (kB.cell 0).trans rfl
            have m1 := (kB.cell 1).trans rfl
            have m2 := (kB.cell 2).trans rfl
            have m3 := (kB.cell 3).trans rfl
            have m4 := (kB.cell 4).trans rfl
            have m5 := (kB.cell 5).trans rfl
            clear kA kB kC kR hgr2
            have hne := fun W => neTag s3 s4 s5 s6 p1 p2 p3 p4 W
            cases hB : (s3 == p1 && (s4 == p2 && (s5 == p3 && (s6 == p4 && true)))) with
            | true =>
              rw [hB] at hne
              have hlf : lessF ⟨s3, s4, s5, s6⟩ ⟨p1, p2, p3, p4⟩ = false := by
                simp at hB
                obtain ⟨rfl, rfl, rfl, rfl⟩ := hB
                simp [lessF]
              have HLF := Lib.hid hlf
              clear hB hlf
              simp only [Bool.not_true] at hne
              gi_wp2_with (gi_at_lookup; refine wpListIn_lookup_one rfl _ _ rfl rfl HB1.out.2.2.2 rfl h0 h1 hl (some (⟨s0, s1, s2⟩, ⟨s3, s4, s5, s6⟩)) HST2.out (.agg #[.int .i64 s3, .int .i64 s4, .int .i64 s5, .int .i64 s6, .int .i64 s0, .int .i64 s1, .int .i64 s2]) rfl true rfl ?_)
              refine ⟨trivial, ?_⟩
              gi_wp2
              exact HFS.out _ HGR2.out HB2.out.2.2.2 (HLES.out _ HST2.out HLF.out)
            | false =>
              rw [hB] at hne
              clear hB
              simp only [Bool.not_false] at hne
              have hls := fun W => HLESS.out ⟨s3, s4, s5, s6⟩ ⟨p1, p2, p3, p4⟩ W
              simp only [Tg.agg] at hls
              have hles2 := HLES.out (⟨s0, s1, s2⟩, ⟨s3, s4, s5, s6⟩) HST2.out
              have hput2 := fun h => HPUT.out (by simp) (Or.inr ⟨_, HST2.out, h⟩)
              simp only at hles2 hput2
              generalize lessF ⟨s3, s4, s5, s6⟩ ⟨p1, p2, p3, p4⟩ = L at hls hles2 hput2
              have HLS := Lib.hid hls
              have HL2 := Lib.hid hles2
              have HP2 := Lib.hid hput2
              clear hls hles2 hput2
              gi_wp2_with (gi_at_lookup; refine wpListIn_lookup_one rfl _ _ rfl rfl HB1.out.2.2.2 rfl h0 h1 hl (some (⟨s0, s1, s2⟩, ⟨s3, s4, s5, s6⟩)) HST2.out (.agg #[.int .i64 s3, .int .i64 s4, .int .i64 s5, .int .i64 s6, .int .i64 s0, .int .i64 s1, .int .i64 s2]) rfl true rfl ?_)
              refine ⟨trivial, ?_⟩
              refine (CallsIn.inRound l (callsIn_wide.2 (HLS.out _))).mono ?_
              rintro e W3 ⟨rfl, hb3⟩
              have HGR3 := Lib.hid (grown_tr HGR2.out (grown_of_below hb3 _))
              have HRP3 := Lib.hid (HB2.out.2.2.2.below_ hb3)
              have kA := HB2.out.1.below_ hb3
              have kB := HB2.out.2.1.below_ hb3
              have kC := HB2.out.2.2.1.below_ hb3
              clear so0 c0 c1 c2 c3 c4 c5 sn0 m0 m1 m2 m3 m4 m5
              have so0 := (kA.cell 0).trans rfl
              have c0 := (kB.cell 0).trans rfl
              have c1 := (kB.cell 1).trans rfl
              have c2 := (kB.cell 2).trans rfl
              have c3 := (kB.cell 3).trans rfl
              have c4 := (kB.cell 4).trans rfl
              have c5 := (kB.cell 5).trans rfl
              have x0 := (kC.cell 0).trans rfl
              have x1 := (kC.cell 1).trans rfl
              have x2 := (kC.cell 2).trans rfl
              clear kA kB kC hb3 hne
              cases L with
              | false =>
                gi_wp2
                exact HFS.out _ HGR3.out HRP3.out (HL2.out (by simp))
              | true =>
                gi_wp2_with (gi_at_mapUpdate; refine wpListIn_update_one rfl _ _ _ rfl rfl HRP3.out hbd rfl h0 h1 hl (⟨a0, a1, a2⟩, ⟨p1, p2, p3, p4⟩) rfl ?_; intro w' hrep' hgr')
                exact HFP.out _ (grown_tr HGR3.out hgr') hrep' (HP2.out (by simp))
      case done =>
        rintro D xs W hD hxs hib hK
        dsimp only
        have hrep2 : Rep g3 (w.heap.size + 2) (100 * (i + 1)) (fun l => toO (blocksF g3 fl co l bs (i + 1))) W := (hib.rep.mono (by have := hxs.1; omega)).of_eq (fun l => by
          rw [foldO_pages g3 fl co i bm pages _ (fun l => blocksF g3 fl co l bs i) (fun l => rfl) pages.length xs (Nat.le_refl _) hxs l]
          show _ = toO (match bs[i]? with | some b => _ | none => _)
          rw [HX.out])
        have hm2 := hib.marks.cons (by omega) hD hK
        have HR2 := Lib.hid (And.intro hib.fx (And.intro hrep2 hm2))
        clear hrep2 hm2 hib hK
        go_wp2
        exact ⟨⟨_, _, _, _, _, _, _, _, _, _, _, _, _, ⟨i + 1, by omega, by go_num, HR2⟩, rfl⟩, by simp [intOf]; omega⟩
      case stop =>
        rintro D cc pre W _ _ h _
        exact h.elim
    · have hin : i = n := by omega
      subst hin
      have hge : ¬ (i : Int) < (i : Int) := by omega
      have hgeo : Blk wo w.heap.size 48 #[.int .i64 g0, .int .i64 g1, .int .i64 G2, .int .i64 g3, .int .i64 g4, .int .i64 g5] := H.out.1.gs.geo
      have q0 := (hgeo.cell 0).trans rfl
      have q1 := (hgeo.cell 1).trans rfl
      have q2 := (hgeo.cell 2).trans rfl
      have q3 := (hgeo.cell 3).trans rfl
      have q4 := (hgeo.cell 4).trans rfl
      have q5 := (hgeo.cell 5).trans rfl
      have h4 : w.heap.size + 3 < wo.heap.size := H.out.1.so.lt
      have lb0 : Two wo.heap.size w (whereF g3 fl co bs 0) (seqsF g3 fl co bs 0) 0 (.slice none 0 0) (.slice none 0 0) wo ∧ LR wo.heap.size w ⟨g0, g1, G2, g3, g4, g5⟩ ⟨⟨fA, fn, fc⟩, ⟨cA, cn, cc⟩, ⟨sA, sn, sc⟩, ⟨tA, tn, tc⟩⟩ ds (100 * i) (fun l => toO (blocksF g3 fl co l bs i)) wo :=
        ⟨⟨own_nil _ _ _ _, own_nil _ _ _ _, Or.inl rfl, H.out.1.below⟩, H.out.1, H.out.2.1, H.out.2.2, Nat.le_refl _⟩
      have HLB0 := Lib.hid lb0
      clear hgeo lb0
      go_wp2_with fail
      clear q0 q1 q2 q3 q4 q5
      go_loopw [15, 16, 76] (fun a b u wr => ∃ k : Nat, k ≤ N ∧ u = .int .i64 k ∧ Hid (Two wo.heap.size w (whereF g3 fl co bs k) (seqsF g3 fl co bs k) k a b wr ∧ LR wo.heap.size w ⟨g0, g1, G2, g3, g4, g5⟩ ⟨⟨fA, fn, fc⟩, ⟨cA, cn, cc⟩, ⟨sA, sn, sc⟩, ⟨tA, tn, tc⟩⟩ ds (100 * i) (fun l => toO (blocksF g3 fl co l bs i)) wr)) (fun _ _ u _ => N - (intOf u).toNat)
      case atStart => exact ⟨0, Nat.zero_le _, rfl, HLB0⟩
      case round =>
        obtain ⟨k, hk, rfl, HL⟩ := hrel
        by_cases hlt2 : k < N
        · have hlt3 : (k : Int) < g3 := by omega
          have kso := HL.out.2.fx.so
          have so0 := (kso.cell 0).trans rfl
          clear kso
          have hnone := blocksF_none (lbas := g3) (fl := fl) (co := co) (lba := (k : Int)) (bs := bs) i
          have hw1 := whereF_succ g3 fl co bs k
          have hs1 := seqsF_succ g3 fl co bs k
          rw [hlen] at hw1 hs1
          rcases hst : toO (blocksF g3 fl co (k : Int) bs i) with _ | ⟨⟨s0, s1, s2⟩, ⟨s3, s4, s5, s6⟩⟩
          · have HST := Lib.hid hst
            clear hst
            go_wp2_with (at_lookup; refine wpList_lookup_one rfl _ _ rfl rfl HL.out.2.rep rfl (by omega) hlt3 hl none HST.out (.agg #[.int .i64 0, .int .i64 0, .int .i64 0, .int .i64 0, .int .i64 0, .int .i64 0, .int .i64 0]) rfl false rfl ?_)
            refine (none_any _).mono ?_
            rintro e W2 ⟨rfl, hb2⟩
            have kb := (Blk.new wr 107 #[.int .i64 0, .int .i64 0, .int .i64 0, .int .i64 0, .int .i64 0, .int .i64 0, .int .i64 0]).below_ hb2
            have d0 := (kb.cell 0).trans rfl
            have d1 := (kb.cell 1).trans rfl
            have d2 := (kb.cell 2).trans rfl
            have d3 := (kb.cell 3).trans rfl
            have d4 := (kb.cell 4).trans rfl
            have d5 := (kb.cell 5).trans rfl
            have d6 := (kb.cell 6).trans rfl
            have f0 := kb.frozen 0
            have f1 := kb.frozen 1
            have f2 := kb.frozen 2
            have f3 := kb.frozen 3
            have f4 := kb.frozen 4
            have f5 := kb.frozen 5
            have f6 := kb.frozen 6
            simp only [Ad.agg]
            go_upto_region 21 with fail
            have hb0 : Below wr.heap.size wr W2 := below_tr ((Below.refl _ wr).alloc (Nat.le_refl _) _) hb2
            have hb3 : Below wr.heap.size wr (((((((W2.setCell ⟨wr.heap.size, 0, none⟩ (.int .i64 0)).setCell ⟨wr.heap.size, 1, none⟩ (.int .i64 0)).setCell ⟨wr.heap.size, 2, none⟩ (.int .i64 0)).setCell ⟨wr.heap.size, 3, none⟩ (.int .i64 0)).setCell ⟨wr.heap.size, 4, none⟩ (.int .i64 (-1))).setCell ⟨wr.heap.size, 5, none⟩ (.int .i64 0)).setCell ⟨wr.heap.size, 6, none⟩ (.int .i64 0)) := (((((((hb0.setCell (p := ⟨wr.heap.size, 0, none⟩) (Nat.le_refl _) (.int .i64 0)).setCell (p := ⟨wr.heap.size, 1, none⟩) (Nat.le_refl _) (.int .i64 0)).setCell (p := ⟨wr.heap.size, 2, none⟩) (Nat.le_refl _) (.int .i64 0)).setCell (p := ⟨wr.heap.size, 3, none⟩) (Nat.le_refl _) (.int .i64 0)).setCell (p := ⟨wr.heap.size, 4, none⟩) (Nat.le_refl _) (.int .i64 (-1))).setCell (p := ⟨wr.heap.size, 5, none⟩) (Nat.le_refl _) (.int .i64 0)).setCell (p := ⟨wr.heap.size, 6, none⟩) (Nat.le_refl _) (.int .i64 0))
            have kb3 := (((((((kb.set_ 0 (.int .i64 0)).set_ 1 (.int .i64 0)).set_ 2 (.int .i64 0)).set_ 3 (.int .i64 0)).set_ 4 (.int .i64 (-1))).set_ 5 (.int .i64 0)).set_ 6 (.int .i64 0))
            clear d0 d1 d2 d3 d4 d5 d6 f0 f1 f2 f3 f4 f5 f6 so0 kb hb0 hb2
            have hbk : (blocksF g3 fl co (k : Int) bs i) = (⟨-1, 0, 0⟩, ⟨0, 0, 0, 0⟩) := hnone (by
              have := HST.out
              unfold toO at this
              split at this
              · assumption
              · cases this)
            rw [hbk] at hw1 hs1
            clear hbk hnone
            obtain ⟨W3, hW3⟩ : ∃ W3, (((((((W2.setCell ⟨wr.heap.size, 0, none⟩ (.int .i64 0)).setCell ⟨wr.heap.size, 1, none⟩ (.int .i64 0)).setCell ⟨wr.heap.size, 2, none⟩ (.int .i64 0)).setCell ⟨wr.heap.size, 3, none⟩ (.int .i64 0)).setCell ⟨wr.heap.size, 4, none⟩ (.int .i64 (-1))).setCell ⟨wr.heap.size, 5, none⟩ (.int .i64 0)).setCell ⟨wr.heap.size, 6, none⟩ (.int .i64 0)) = W3 := ⟨_, rfl⟩
            rw [hW3] at hb3 kb3 ⊢
            clear hW3
            have HB3 := Lib.hid hb3
            have HKB := Lib.hid kb3
            clear hb3
            have e0 := (kb3.cell 0).trans rfl
            have e1 := (kb3.cell 1).trans rfl
            have e2 := (kb3.cell 2).trans rfl
            have e3 := (kb3.cell 3).trans rfl
            have e4 := (kb3.cell 4).trans rfl
            have e5 := (kb3.cell 5).trans rfl
            have e6 := (kb3.cell 6).trans rfl
            clear kb3
            have HW1 := Lib.hid hw1
            clear hw1
            have HS1 := Lib.hid hs1
            clear hs1
            go_wp2_with (first | (at_builtin; refine wpList_app rfl (.tmp 89) (.tmp 92) 53 rfl Try.underlying53 info_addr rfl (by omega) (by omega) rfl ((own_below HL.out.1.a HB3.out).alloc _) rfl (heap_alloc_new W3 _) rfl (by simp [Value.oneCell']) (by omega) (by have := HB3.out.size; have := HL.out.2.size; simp; omega) ?_; intro gg cap w4 hown4 hg4 hor4 hlt4; go_must (have hk2 := (HKB.out.alloc (.cells #[.int .i64 (-1), .int .i64 0, .int .i64 0] 70)).grown hg4 (fun e => by have := own_lt HL.out.1.a _ e.symm; omega); have e2 : w4.cell? ⟨wr.heap.size, 2, none⟩ = some (.int .i64 0) := (hk2.cell 2).trans rfl; have HG4 := Lib.hid hg4; have HO4 := Lib.hid hown4; have HOR4 := Lib.hid hor4; have HLT4 := Lib.hid hlt4; clear hk2 hg4 hown4 hor4 hlt4 e0 e1 e3 e4 e5 e6)) | (at_builtin; refine wpList_app rfl (.tmp 94) (.tmp 98) 32 rfl Try.underlying32 info_int_b rfl (by omega) (by omega) rfl ((((own_below HL.out.1.i HB3.out).alloc _).kept HG4.out HL.out.1.ne).alloc _) rfl (heap_alloc_new w4 _) rfl (by simp [Value.oneCell']) (by omega) (by have := HB3.out.size; have := HL.out.2.size; have := HG4.out.size; simp at this ⊢; omega) ?_; intro gg2 cap2 w5 hown5 hg5 hor5 hlt5))
            have hne4 : (some gg : Option Nat) ≠ u16.ownBlock := by
              intro e
              rcases HOR4.out with h | h
              · rcases HL.out.1.ne with h2 | h2
                · rw [h2] at e; cases e
                · exact h2 (e.symm.trans h.symm)
              · have h3 := own_lt HL.out.1.i _ e.symm
                have := HB3.out.size
                simp at h
                omega
            have hbw := HB3.out
            have hs4 := HG4.out.size
            have hs5 := hg5.size
            have hlo := HL.out.2.size
            have ba : ∀ q, u15.ownBlock = some q → wo.heap.size ≤ q := fun q e => own_base HL.out.1.a q e
            have bi : ∀ q, u16.ownBlock = some q → wo.heap.size ≤ q := fun q e => own_base HL.out.1.i q e
            have hT : Hid (Two wo.heap.size w (whereF g3 fl co bs (k + 1)) (seqsF g3 fl co bs (k + 1)) (k + 1) (.slice (some ⟨gg, 0, none⟩) (k + 1) cap) (.slice (some ⟨gg2, 0, none⟩) (k + 1) cap2) w5) := by
              refine ⟨?_, ?_, ?_, ?_⟩
              · rw [HW1.out, eList_snoc]
                exact (HO4.out.alloc _).kept hg5 (Or.inr hne4)
              · rw [HS1.out, eList_snoc]
                exact hown5
              · refine Or.inr ?_
                intro e
                have e : some gg2 = some gg := e
                rcases hor5 with h | h
                · exact hne4 (e.symm.trans h.symm)
                · injection e with e
                  have := HLT4.out
                  simp at h
                  omega
              · exact (((below_tr HL.out.1.below hbw).alloc (by have := hbw.size; omega) _).grown HG4.out (by have := hbw.size; simp; omega) (fun q e => by have := ba q e; omega) |>.alloc (by have := hbw.size; simp at hs4; omega) _).grown hg5 (by have := hbw.size; simp at hs4 ⊢; omega) (fun q e => by have := bi q e; omega)
            have hlr : Hid (LR wo.heap.size w ⟨g0, g1, G2, g3, g4, g5⟩ ⟨⟨fA, fn, fc⟩, ⟨cA, cn, cc⟩, ⟨sA, sn, sc⟩, ⟨tA, tn, tc⟩⟩ ds (100 * i) (fun l => toO (blocksF g3 fl co l bs i)) w5) := ((((HL.out.2.grown (by omega) (below_grown hbw) (fun q e => by cases e)).alloc (by omega) _).grown (by omega) HG4.out ba).alloc (by omega) _).grown (by omega) hg5 bi
            go_roundw
            case rel => exact ⟨k + 1, by omega, by go_num, hT.out, hlr.out⟩
            case measure => simp [intOf]; omega
          · have HST := Lib.hid hst
            clear hst
            go_upto_region 21 with (at_lookup; refine wpList_lookup_one rfl _ _ rfl rfl HL.out.2.rep rfl (by omega) hlt3 hl (some (⟨s0, s1, s2⟩, ⟨s3, s4, s5, s6⟩)) HST.out (.agg #[.int .i64 s3, .int .i64 s4, .int .i64 s5, .int .i64 s6, .int .i64 s0, .int .i64 s1, .int .i64 s2]) rfl true rfl ?_)
            have hb3 := (Below.refl _ wr).alloc (Nat.le_refl _) (.cells #[.int .i64 s3, .int .i64 s4, .int .i64 s5, .int .i64 s6, .int .i64 s0, .int .i64 s1, .int .i64 s2] 107)
            have kb3 := Blk.new wr 107 #[.int .i64 s3, .int .i64 s4, .int .i64 s5, .int .i64 s6, .int .i64 s0, .int .i64 s1, .int .i64 s2]
            have hbk : (blocksF g3 fl co (k : Int) bs i) = (⟨s0, s1, s2⟩, ⟨s3, s4, s5, s6⟩) := by
              have := HST.out
              unfold toO at this
              split at this
              · cases this
              · injection this
            rw [hbk] at hw1 hs1
            clear hbk hnone so0
            obtain ⟨W3, hW3⟩ : ∃ W3, wr.alloc (.cells #[.int .i64 s3, .int .i64 s4, .int .i64 s5, .int .i64 s6, .int .i64 s0, .int .i64 s1, .int .i64 s2] 107) = W3 := ⟨_, rfl⟩
            rw [hW3] at hb3 kb3 ⊢
            clear hW3
            have HB3 := Lib.hid hb3
            have HKB := Lib.hid kb3
            clear hb3
            have e0 := (kb3.cell 0).trans rfl
            have e1 := (kb3.cell 1).trans rfl
            have e2 := (kb3.cell 2).trans rfl
            have e3 := (kb3.cell 3).trans rfl
            have e4 := (kb3.cell 4).trans rfl
            have e5 := (kb3.cell 5).trans rfl
            have e6 := (kb3.cell 6).trans rfl
            clear kb3
            have HW1 := Lib.hid hw1
            clear hw1
            have HS1 := Lib.hid hs1
            clear hs1
            go_wp2_with (first | (at_builtin; refine wpList_app rfl (.tmp 89) (.tmp 92) 53 rfl Try.underlying53 info_addr rfl (by omega) (by omega) rfl ((own_below HL.out.1.a HB3.out).alloc _) rfl (heap_alloc_new W3 _) rfl (by simp [Value.oneCell']) (by omega) (by have := HB3.out.size; have := HL.out.2.size; simp; omega) ?_; intro gg cap w4 hown4 hg4 hor4 hlt4; go_must (have hk2 := (HKB.out.alloc (.cells #[.int .i64 s0, .int .i64 s1, .int .i64 s2] 70)).grown hg4 (fun e => by have := own_lt HL.out.1.a _ e.symm; omega); have e2 : w4.cell? ⟨wr.heap.size, 2, none⟩ = some (.int .i64 s5) := (hk2.cell 2).trans rfl; have HG4 := Lib.hid hg4; have HO4 := Lib.hid hown4; have HOR4 := Lib.hid hor4; have HLT4 := Lib.hid hlt4; clear hk2 hg4 hown4 hor4 hlt4 e0 e1 e3 e4 e5 e6)) | (at_builtin; refine wpList_app rfl (.tmp 94) (.tmp 98) 32 rfl Try.underlying32 info_int_b rfl (by omega) (by omega) rfl ((((own_below HL.out.1.i HB3.out).alloc _).kept HG4.out HL.out.1.ne).alloc _) rfl (heap_alloc_new w4 _) rfl (by simp [Value.oneCell']) (by omega) (by have := HB3.out.size; have := HL.out.2.size; have := HG4.out.size; simp at this ⊢; omega) ?_; intro gg2 cap2 w5 hown5 hg5 hor5 hlt5))
            have hne4 : (some gg : Option Nat) ≠ u16.ownBlock := by
              intro e
              rcases HOR4.out with h | h
              · rcases HL.out.1.ne with h2 | h2
                · rw [h2] at e; cases e
                · exact h2 (e.symm.trans h.symm)
              · have h3 := own_lt HL.out.1.i _ e.symm
                have := HB3.out.size
                simp at h
                omega
            have hbw := HB3.out
            have hs4 := HG4.out.size
            have hs5 := hg5.size
            have hlo := HL.out.2.size
            have ba : ∀ q, u15.ownBlock = some q → wo.heap.size ≤ q := fun q e => own_base HL.out.1.a q e
            have bi : ∀ q, u16.ownBlock = some q → wo.heap.size ≤ q := fun q e => own_base HL.out.1.i q e
            have hT : Hid (Two wo.heap.size w (whereF g3 fl co bs (k + 1)) (seqsF g3 fl co bs (k + 1)) (k + 1) (.slice (some ⟨gg, 0, none⟩) (k + 1) cap) (.slice (some ⟨gg2, 0, none⟩) (k + 1) cap2) w5) := by
              refine ⟨?_, ?_, ?_, ?_⟩
              · rw [HW1.out, eList_snoc]
                exact (HO4.out.alloc _).kept hg5 (Or.inr hne4)
              · rw [HS1.out, eList_snoc]
                exact hown5
              · refine Or.inr ?_
                intro e
                have e : some gg2 = some gg := e
                rcases hor5 with h | h
                · exact hne4 (e.symm.trans h.symm)
                · injection e with e
                  have := HLT4.out
                  simp at h
                  omega
              · exact (((below_tr HL.out.1.below hbw).alloc (by have := hbw.size; omega) _).grown HG4.out (by have := hbw.size; simp; omega) (fun q e => by have := ba q e; omega) |>.alloc (by have := hbw.size; simp at hs4; omega) _).grown hg5 (by have := hbw.size; simp at hs4 ⊢; omega) (fun q e => by have := bi q e; omega)
            have hlr : Hid (LR wo.heap.size w ⟨g0, g1, G2, g3, g4, g5⟩ ⟨⟨fA, fn, fc⟩, ⟨cA, cn, cc⟩, ⟨sA, sn, sc⟩, ⟨tA, tn, tc⟩⟩ ds (100 * i) (fun l => toO (blocksF g3 fl co l bs i)) w5) := ((((HL.out.2.grown (by omega) (below_grown hbw) (fun q e => by cases e)).alloc (by omega) _).grown (by omega) HG4.out ba).alloc (by omega) _).grown (by omega) hg5 bi
            go_roundw
            case rel => exact ⟨k + 1, by omega, by go_num, hT.out, hlr.out⟩
            case measure => simp [intOf]; omega
        · have : k = N := by omega
          subst this
          have hge2 : ¬ (k : Int) < g3 := by omega
          go_wp2
          refine HL.out.2.marks.out (Pr := fun W => Two wo.heap.size w (whereF g3 fl co bs k) (seqsF g3 fl co bs k) k u15 u16 W) (fun W D ht hl hD => ht.put_ (by omega) hD) (fun W ht => ?_) HL.out.1
          refine ⟨.tuple #[u15, u16], by simp [results, Try.results30, go_sem], _, _, rfl, own_mono ht.a (by omega), own_mono ht.i (by omega), ht.ne, ht.below⟩
end Go.Proofs.Ytdjfkehbknbocaa

/- The walk of the reference's Map. -/
import Derived.Test.YtdjfkehbknbocaaBestM
import Derived.Test.YtdjfkehbknbocaaBestD
namespace Go.Proofs.Ytdjfkehbknbocaa
open Go.RowKit
set_option linter.unusedSimpArgs false
set_option linter.unusedVariables false

/-- The two rows that Map hands back. -/
structure Two (base : Nat) (w0 : World) (ads : List Ad) (ns : List Int) (n : Nat) (v8 v9 : Value) (W : World) : Prop where
  a : W.ownsRow base 70 3 v8 n (eList eAd ads)
  i : W.ownsRow base 3 1 v9 n (eList eInt ns)
  ne : v9.ownBlock = none ∨ v9.ownBlock ≠ v8.ownBlock
  below : Below w0.heap.size w0 W
/-- What lies in the two boxes of Map's parameters. -/
structure GS (w0 : World) (g : Geo) (s : St) (W : World) : Prop where
  geo : Blk W w0.heap.size 48 #[.int .i64 g.blocks, .int .i64 g.lines, .int .i64 g.bytes, .int .i64 g.lbas, .int .i64 g.spare, .int .i64 g.wear]
  st : Blk W (w0.heap.size + 1) 50 #[s.f.v, s.c.v, s.s.v, s.t.v]
theorem GS.below_ {w0 W W' : World} {g : Geo} {s : St} (h : GS w0 g s W) (hb : Below W.heap.size W W') : GS w0 g s W' := ⟨h.geo.below_ hb, h.st.below_ hb⟩
theorem Two.below_ {base : Nat} {w0 W W' : World} {ads : List Ad} {ns : List Int} {n : Nat} {v8 v9 : Value} (h : Two base w0 ads ns n v8 v9 W) (hb : Below W.heap.size W W') : Two base w0 ads ns n v8 v9 W' :=
  ⟨own_below h.a hb, own_below h.i hb, h.ne, below_tr h.below hb⟩
def MapPost (w : World) (ads : List Ad) (ns : List Int) (n : Nat) (en : Ending) (w' : World) : Prop :=
  ∃ v8 v9, en = .returned (.tuple #[v8, v9]) ∧ Two w.heap.size w ads ns n v8 v9 w'

abbrev adC (x : Ad) : Array Value := #[.int .i64 x.block, .int .i64 x.line, .int .i64 x.part]
abbrev tgC (x : Tg) : Array Value := #[.int .i64 x.kind, .int .i64 x.lba, .int .i64 x.seq, .int .i64 x.epoch]
structure Boxes (wo : World) (B1 B2 : Nat) (st : Ad × Tg) (W : World) : Prop where
  below : Below wo.heap.size wo W
  b1 : Blk W B1 70 (adC st.1)
  b2 : Blk W B2 62 (tgC st.2)
theorem Boxes.below_ {wo W W' : World} {B1 B2 : Nat} {st : Ad × Tg} (h : Boxes wo B1 B2 st W) (hb : Below W.heap.size W W') : Boxes wo B1 B2 st W' := ⟨below_tr h.below hb, h.b1.below_ hb, h.b2.below_ hb⟩
theorem whereF_succ (lbas : Int) (fl co : List Int) (bs : List Bl) (k : Nat) : whereF lbas fl co bs (k + 1) = whereF lbas fl co bs k ++ [(blocksF lbas fl co (k : Int) bs bs.length).1] := by
  unfold whereF
  rw [List.range_succ, List.map_append]
  rfl
theorem seqsF_succ (lbas : Int) (fl co : List Int) (bs : List Bl) (k : Nat) : seqsF lbas fl co bs (k + 1) = seqsF lbas fl co bs k ++ [(blocksF lbas fl co (k : Int) bs bs.length).2.seq] := by
  unfold seqsF
  rw [List.range_succ, List.map_append]
  rfl
theorem info_int_b : (Try.prog.info? 3).map (fun i => (i.zero, i.size, i.bytes)) = some (some (.int .i64 0), 1, 8) := by kernel_rfl
theorem info_addr : (Try.prog.info? 70).map (fun i => (i.zero, i.size, i.bytes)) = some (some (.agg #[.int .i64 0, .int .i64 0, .int .i64 0]), 3, 24) := by kernel_rfl
set_option maxRecDepth 100000 in
set_option maxHeartbeats 40000000 in
theorem refMap_any (g : Geo) (s : St) (fl co : List Int) (A : Option Addr) (n c : Nat) (bs : List Bl) (w : World) (hf : Sl eInt 1 w s.f.A s.f.n fl) (hc : Sl eInt 1 w s.c.A s.c.n co) (hA : Sl eBl 3 w A n bs) (hD : Deep w bs) (hl : g.lbas ≤ 100) (hn : n ≤ 12) (hpp : ∀ x ∈ bs, x.pages.length ≤ 80) :
    Calls Try.prog 31 #[g.agg, s.agg, .slice A n c] w (MapPost w (whereF g.lbas fl co bs g.lbas.toNat) (seqsF g.lbas fl co bs g.lbas.toNat) g.lbas.toNat) := by
  have hlen := hA.len
  have hmay := fun W (hW : Below w.heap.size w W) block b p => refMay_any g s fl co block b p W (hf.below hW) (hc.below hW)
  have hless := fun p q W => refLess_any p q W
  have hgs := fun W (h : GS w g s W) => h
  obtain ⟨N, hN⟩ : ∃ N, g.lbas.toNat = N := ⟨_, rfl⟩
  rw [hN]
  obtain ⟨g0, g1, G2, g3, g4, g5⟩ := g
  obtain ⟨⟨fA, fn, fc⟩, ⟨cA, cn, cc⟩, ⟨sA, sn, sc⟩, ⟨tA, tn, tc⟩⟩ := s
  simp only [Geo.agg, St.agg, Sv.v] at hmay hl hN ⊢
  have HA := Lib.hid (And.intro hA hD)
  have HMAY := Lib.hid hmay
  clear hmay
  have HLESS := Lib.hid hless
  clear hless
  clear hf hc hA hD hgs
  go_enter Try.func31, Try.ntmps31
  go_wp2_with fail
  go_loopw [8, 9, 10] (fun a b i wr => ∃ k : Nat, k ≤ N ∧ i = .int .i64 k ∧ Hid (Two (w.heap.size + 2) w (whereF g3 fl co bs k) (seqsF g3 fl co bs k) k a b wr ∧ GS w ⟨g0, g1, G2, g3, g4, g5⟩ ⟨⟨fA, fn, fc⟩, ⟨cA, cn, cc⟩, ⟨sA, sn, sc⟩, ⟨tA, tn, tc⟩⟩ wr))
    (fun _ _ i _ => N - (intOf i).toNat)
  case atStart =>
    have k0 := (Blk.new w 48 #[.int .i64 g0, .int .i64 g1, .int .i64 G2, .int .i64 g3, .int .i64 g4, .int .i64 g5]).alloc (.cells #[.slice fA fn fc, .slice cA cn cc, .slice sA sn sc, .slice tA tn tc] 50)
    have k1 := Blk.new1 w (.cells #[.int .i64 g0, .int .i64 g1, .int .i64 G2, .int .i64 g3, .int .i64 g4, .int .i64 g5] 48) 50 #[.slice fA fn fc, .slice cA cn cc, .slice sA sn sc, .slice tA tn tc]
    exact ⟨0, Nat.zero_le _, rfl, ⟨own_nil _ _ _ _, own_nil _ _ _ _, Or.inl rfl, by ((try change Below _ _ _); (repeat (any_goals (first | (with_reducible exact Below.refl _ _) | (with_reducible exact Below.refl _ _) | (with_reducible apply Below.drew) | (with_reducible apply below_drewN) | (with_reducible refine Below.alloc ?_ ?_ _) | (with_reducible refine Below.setCell ?_ ?_ _)))); all_goals (first | exact Nat.le_refl _ | (simp; done) | (simp; omega) | omega | (dsimp only; omega)))⟩, ⟨k0, k1⟩⟩
  case round =>
    obtain ⟨k, hk, rfl, H⟩ := hrel
    have hgeo : Blk wr w.heap.size 48 #[.int .i64 g0, .int .i64 g1, .int .i64 G2, .int .i64 g3, .int .i64 g4, .int .i64 g5] := H.out.2.geo
    have q0 := (hgeo.cell 0).trans rfl
    have q1 := (hgeo.cell 1).trans rfl
    have q2 := (hgeo.cell 2).trans rfl
    have q3 := (hgeo.cell 3).trans rfl
    have q4 := (hgeo.cell 4).trans rfl
    have q5 := (hgeo.cell 5).trans rfl
    clear hgeo
    by_cases hlt : k < N
    · have hlt' : (k : Int) < g3 := by omega
      obtain ⟨wo, rfl⟩ : ∃ wo : World, wo = wr := ⟨_, rfl⟩
      go_wp2
      go_loopw [13] (fun i wr2 => ∃ m : Nat, m ≤ n ∧ i = .int .i64 m ∧ Hid (Boxes wo wo.heap.size (wo.heap.size + 1) (blocksF g3 fl co (k : Int) bs m) wr2)) (fun i _ => n - (intOf i).toNat)
      case atStart => exact ⟨0, Nat.zero_le _, rfl, ⟨by ((try change Below _ _ _); (repeat (any_goals (first | (with_reducible exact Below.refl _ _) | (with_reducible exact Below.refl _ _) | (with_reducible apply Below.drew) | (with_reducible apply below_drewN) | (with_reducible refine Below.alloc ?_ ?_ _) | (with_reducible refine Below.setCell ?_ ?_ _)))); all_goals (first | exact Nat.le_refl _ | (simp; done) | (simp; omega) | omega | (dsimp only; omega))), (Blk.new wo _ _).alloc _, Blk.new1 wo _ _ _⟩⟩
      case round =>
        clear q0 q1 q2 q3 q4 q5
        obtain ⟨m, hm, rfl, HB⟩ := hrel
        by_cases hlt2 : m < n
        · obtain ⟨w2, rfl⟩ : ∃ w2 : World, w2 = wr := ⟨_, rfl⟩
          go_wp2
          go_loopw [14] (fun i wr3 => ∃ (t : Nat) (x : Bl), bs[m]? = some x ∧ t ≤ x.pages.length ∧ i = .int .i64 t ∧ Hid (Boxes wo wo.heap.size (wo.heap.size + 1) (pagesF g3 fl co (k : Int) m x.b.mode x.pages t (blocksF g3 fl co (k : Int) bs m)) wr3)) (fun i _ => 1000 - (intOf i).toNat)
          case atStart =>
            obtain ⟨x, hx⟩ : ∃ x, bs[m]? = some x := ⟨bs[m]'(by omega), List.getElem?_eq_getElem (by omega)⟩
            exact ⟨0, x, hx, Nat.zero_le _, rfl, HB⟩
          case round =>
            obtain ⟨t, x, hx, ht, rfl, HP⟩ := hrel
            obtain ⟨w3, rfl⟩ : ∃ w3 : World, w3 = wr := ⟨_, rfl⟩
            have hw3 := below_tr H.out.1.below HP.out.below
            have hblk := (HA.out.1.below hw3).get_ hlt2
            have hpgs := HA.out.2.below hw3 x (List.mem_of_getElem? hx)
            have hpl := hpgs.len
            have hp80 := hpp x (List.mem_of_getElem? hx)
            have hpbig := hpgs.big
            obtain ⟨b, off, x', rfl, hb, hx', hcb⟩ := hblk
            obtain rfl : x' = x := by rw [hx] at hx'; injection hx' with hx'; exact hx'.symm
            have bc0 := hcb 0 _ rfl
            have bc1 := hcb 1 _ rfl
            have bc2 := hcb 2 _ rfl
            simp only [Nat.add_zero] at bc0
            clear hcb hx'
            by_cases hlt3 : t < x'.pages.length
            · obtain ⟨pb, poff, pg, hpA, hpb, hpx, hcp⟩ := hpgs.get_ (j := t) (by omega)
              have hstep : pagesF g3 fl co (k : Int) m x'.b.mode x'.pages (t + 1) (blocksF g3 fl co (k : Int) bs m) = stepF g3 fl co (k : Int) m x'.b.mode t pg (pagesF g3 fl co (k : Int) m x'.b.mode x'.pages t (blocksF g3 fl co (k : Int) bs m)) := by
                show (match x'.pages[t]? with | some p => _ | none => _) = _
                rw [hpx]
              have HX := Lib.hid hx
              have HBX := HP.out
              generalize pagesF g3 fl co (k : Int) m x'.b.mode x'.pages t (blocksF g3 fl co (k : Int) bs m) = q at hstep HBX
              have pc0 := hcp 0 _ rfl
              have pc1 := hcp 1 _ rfl
              have pc2 := hcp 2 _ rfl
              have pc3 := hcp 3 _ rfl
              have pc4 := hcp 4 _ rfl
              have pc5 := hcp 5 _ rfl
              simp only [Nat.add_zero] at pc0
              clear hcp hpx hpgs
              obtain ⟨⟨a0, a1, a2⟩, ⟨t0, t1, t2, t3⟩⟩ := q
              obtain ⟨p0, ⟨p1, p2, p3, p4⟩, p5⟩ := pg
              obtain ⟨⟨bm, bb, ⟨pA, pn, pcc⟩⟩, pages⟩ := x'
              simp only [Sv.v] at hstep hpA hpl bc2 hlt3 HX ht hpbig hp80
              simp only at bc0 bc1
              subst hpA
              have hlt4 : (t : Int) < (pn : Int) := by omega
              have hpn : t < pn := by omega
              have kg := (H.out.2.below_ HP.out.below).geo.alloc (.cells #[.int .i64 p0, .int .i64 p1, .int .i64 p2, .int .i64 p3, .int .i64 p4, .string p5] 64)
              have ks := (H.out.2.below_ HP.out.below).st.alloc (.cells #[.int .i64 p0, .int .i64 p1, .int .i64 p2, .int .i64 p3, .int .i64 p4, .string p5] 64)
              have k1 := HBX.b1.alloc (.cells #[.int .i64 p0, .int .i64 p1, .int .i64 p2, .int .i64 p3, .int .i64 p4, .string p5] 64)
              have k2 := HBX.b2.alloc (.cells #[.int .i64 p0, .int .i64 p1, .int .i64 p2, .int .i64 p3, .int .i64 p4, .string p5] 64)
              have kp := Blk.new w3 64 #[.int .i64 p0, .int .i64 p1, .int .i64 p2, .int .i64 p3, .int .i64 p4, .string p5]
              have hb4 : b < (w3.alloc (.cells #[.int .i64 p0, .int .i64 p1, .int .i64 p2, .int .i64 p3, .int .i64 p4, .string p5] 64)).heap.size := by rw [World.size_alloc]; omega
              have hw34 : Below w3.heap.size w3 (w3.alloc (.cells #[.int .i64 p0, .int .i64 p1, .int .i64 p2, .int .i64 p3, .int .i64 p4, .string p5] 64)) := (Below.refl _ w3).alloc (Nat.le_refl _) _
              have bd0 := (hw34.cell (p := ⟨b, _, none⟩) hb).trans bc0
              have bd1 := (hw34.cell (p := ⟨b, _, none⟩) hb).trans bc1
              have bd2 := (hw34.cell (p := ⟨b, _, none⟩) hb).trans bc2
              have hbx4 := HBX.below_ hw34
              have hb2lt : wo.heap.size + 1 < w3.heap.size := HBX.b2.lt
              have hcells : ∀ W, Below (w3.alloc (.cells #[.int .i64 p0, .int .i64 p1, .int .i64 p2, .int .i64 p3, .int .i64 p4, .string p5] 64)).heap.size (w3.alloc (.cells #[.int .i64 p0, .int .i64 p1, .int .i64 p2, .int .i64 p3, .int .i64 p4, .string p5] 64)) W → W.cell? ⟨w3.heap.size, 0, none⟩ = some (.int .i64 p0) ∧ W.cell? ⟨w3.heap.size, 1, none⟩ = some (.int .i64 p1) ∧ W.cell? ⟨w3.heap.size, 2, none⟩ = some (.int .i64 p2) ∧ W.cell? ⟨w3.heap.size, 3, none⟩ = some (.int .i64 p3) ∧ W.cell? ⟨w3.heap.size, 4, none⟩ = some (.int .i64 p4) ∧ W.cell? ⟨w3.heap.size, 5, none⟩ = some (.string p5) ∧ W.cell? ⟨w.heap.size, 0, none⟩ = some (.int .i64 g0) ∧ W.cell? ⟨w.heap.size, 1, none⟩ = some (.int .i64 g1) ∧ W.cell? ⟨w.heap.size, 2, none⟩ = some (.int .i64 G2) ∧ W.cell? ⟨w.heap.size, 3, none⟩ = some (.int .i64 g3) ∧ W.cell? ⟨w.heap.size, 4, none⟩ = some (.int .i64 g4) ∧ W.cell? ⟨w.heap.size, 5, none⟩ = some (.int .i64 g5) ∧ W.cell? ⟨w.heap.size + 1, 0, none⟩ = some (.slice fA fn fc) ∧ W.cell? ⟨w.heap.size + 1, 1, none⟩ = some (.slice cA cn cc) ∧ W.cell? ⟨w.heap.size + 1, 2, none⟩ = some (.slice sA sn sc) ∧ W.cell? ⟨w.heap.size + 1, 3, none⟩ = some (.slice tA tn tc) ∧ W.cell? ⟨b, off + m * 3, none⟩ = some (.int .i64 bm) ∧ W.cell? ⟨b, off + m * 3 + 1, none⟩ = some (.bool bb) ∧ W.cell? ⟨b, off + m * 3 + 2, none⟩ = some (.slice (some ⟨pb, poff, none⟩) pn pcc) ∧ W.cell? ⟨wo.heap.size, 0, none⟩ = some (.int .i64 a0) ∧ W.cell? ⟨wo.heap.size, 1, none⟩ = some (.int .i64 a1) ∧ W.cell? ⟨wo.heap.size, 2, none⟩ = some (.int .i64 a2) ∧ W.cell? ⟨wo.heap.size + 1, 0, none⟩ = some (.int .i64 t0) ∧ W.cell? ⟨wo.heap.size + 1, 1, none⟩ = some (.int .i64 t1) ∧ W.cell? ⟨wo.heap.size + 1, 2, none⟩ = some (.int .i64 t2) ∧ W.cell? ⟨wo.heap.size + 1, 3, none⟩ = some (.int .i64 t3) := fun W hW =>
                ⟨((kp.below_ hW).cell 0).trans rfl, ((kp.below_ hW).cell 1).trans rfl, ((kp.below_ hW).cell 2).trans rfl, ((kp.below_ hW).cell 3).trans rfl, ((kp.below_ hW).cell 4).trans rfl, ((kp.below_ hW).cell 5).trans rfl, ((kg.below_ hW).cell 0).trans rfl, ((kg.below_ hW).cell 1).trans rfl, ((kg.below_ hW).cell 2).trans rfl, ((kg.below_ hW).cell 3).trans rfl, ((kg.below_ hW).cell 4).trans rfl, ((kg.below_ hW).cell 5).trans rfl, ((ks.below_ hW).cell 0).trans rfl, ((ks.below_ hW).cell 1).trans rfl, ((ks.below_ hW).cell 2).trans rfl, ((ks.below_ hW).cell 3).trans rfl, (hW.cell (p := ⟨b, _, none⟩) hb4).trans bd0, (hW.cell (p := ⟨b, _, none⟩) hb4).trans bd1, (hW.cell (p := ⟨b, _, none⟩) hb4).trans bd2, ((k1.below_ hW).cell 0).trans rfl, ((k1.below_ hW).cell 1).trans rfl, ((k1.below_ hW).cell 2).trans rfl, ((k2.below_ hW).cell 0).trans rfl, ((k2.below_ hW).cell 1).trans rfl, ((k2.below_ hW).cell 2).trans rfl, ((k2.below_ hW).cell 3).trans rfl⟩
              have hm4 := fun W (hW : Below (w3.alloc (.cells #[.int .i64 p0, .int .i64 p1, .int .i64 p2, .int .i64 p3, .int .i64 p4, .string p5] 64)).heap.size (w3.alloc (.cells #[.int .i64 p0, .int .i64 p1, .int .i64 p2, .int .i64 p3, .int .i64 p4, .string p5] 64)) W) => HMAY.out W (below_tr (below_tr hw3 hw34) hW) m ⟨bm, bb, ⟨some ⟨pb, poff, none⟩, pn, pcc⟩⟩ ⟨p0, ⟨p1, p2, p3, p4⟩, p5⟩
              have hls := fun W => HLESS.out ⟨t0, t1, t2, t3⟩ ⟨p1, p2, p3, p4⟩ W
              simp only [Bk.agg, Pg.agg, Tg.agg, Sv.v] at hm4 hls
              have hst2 : stepF g3 fl co (k : Int) m bm t ⟨p0, ⟨p1, p2, p3, p4⟩, p5⟩ (⟨a0, a1, a2⟩, ⟨t0, t1, t2, t3⟩) = if (p2 == (k : Int) && (mayF g3 fl co m bm ⟨p0, ⟨p1, p2, p3, p4⟩, p5⟩ && (decide (a0 < 0) || lessF ⟨t0, t1, t2, t3⟩ ⟨p1, p2, p3, p4⟩))) = true then (addrF m bm t, ⟨p1, p2, p3, p4⟩) else (⟨a0, a1, a2⟩, ⟨t0, t1, t2, t3⟩) := rfl
              rw [hst2] at hstep
              clear hst2
              generalize mayF g3 fl co m bm ⟨p0, ⟨p1, p2, p3, p4⟩, p5⟩ = T at hstep hm4
              generalize lessF ⟨t0, t1, t2, t3⟩ ⟨p1, p2, p3, p4⟩ = L at hstep hls
              generalize hNXE : pagesF g3 fl co (k : Int) m bm pages (t + 1) (blocksF g3 fl co (k : Int) bs m) = NX at hstep
              have HNXE := Lib.hid hNXE
              clear hNXE
              have HM4 := Lib.hid hm4
              have HLS := Lib.hid hls
              have HCELLS := Lib.hid hcells
              have HBX4 := Lib.hid hbx4
              clear hm4 hls hcells kg ks k1 k2 kp bd0 bd1 bd2 hbx4 hb4
              have split : (NX = (⟨a0, a1, a2⟩, ⟨t0, t1, t2, t3⟩) ∧ ((p2 == (k : Int)) = false ∨ ((p2 == (k : Int)) = true ∧ T = false) ∨ ((p2 == (k : Int)) = true ∧ T = true ∧ ¬ a0 < 0 ∧ L = false))) ∨
                  (NX = (addrF m bm t, ⟨p1, p2, p3, p4⟩) ∧ (((p2 == (k : Int)) = true ∧ T = true ∧ a0 < 0) ∨ ((p2 == (k : Int)) = true ∧ T = true ∧ ¬ a0 < 0 ∧ L = true))) := by
                cases h1 : (p2 == (k : Int)) with
                | false => exact .inl ⟨by rw [hstep, h1]; rfl, .inl rfl⟩
                | true =>
                  cases T with
                  | false => exact .inl ⟨by rw [hstep, h1]; rfl, .inr (.inl ⟨rfl, rfl⟩)⟩
                  | true =>
                    by_cases h2 : a0 < 0
                    · exact .inr ⟨by rw [hstep, h1]; simp [h2], .inl ⟨rfl, rfl, h2⟩⟩
                    · cases L with
                      | true => exact .inr ⟨by rw [hstep, h1]; simp, .inr ⟨rfl, rfl, h2, rfl⟩⟩
                      | false => exact .inl ⟨by rw [hstep, h1]; simp [h2], .inr (.inr ⟨rfl, rfl, h2, rfl⟩)⟩
              clear hstep
              rcases split with ⟨hNX, hq⟩ | ⟨hNX, hq⟩
              · have HNX := Lib.hid hNX
                clear hNX
                rcases hq with y1 | ⟨y1, rfl⟩ | ⟨y1, rfl, y2, rfl⟩
                all_goals
                  have e0 := fun p : Past (w3.alloc (.cells #[.int .i64 p0, .int .i64 p1, .int .i64 p2, .int .i64 p3, .int .i64 p4, .string p5] 64)) => (HCELLS.out p.w p.h).1
                  have e1 := fun p : Past (w3.alloc (.cells #[.int .i64 p0, .int .i64 p1, .int .i64 p2, .int .i64 p3, .int .i64 p4, .string p5] 64)) => (HCELLS.out p.w p.h).2.1
                  have e2 := fun p : Past (w3.alloc (.cells #[.int .i64 p0, .int .i64 p1, .int .i64 p2, .int .i64 p3, .int .i64 p4, .string p5] 64)) => (HCELLS.out p.w p.h).2.2.1
                  have e3 := fun p : Past (w3.alloc (.cells #[.int .i64 p0, .int .i64 p1, .int .i64 p2, .int .i64 p3, .int .i64 p4, .string p5] 64)) => (HCELLS.out p.w p.h).2.2.2.1
                  have e4 := fun p : Past (w3.alloc (.cells #[.int .i64 p0, .int .i64 p1, .int .i64 p2, .int .i64 p3, .int .i64 p4, .string p5] 64)) => (HCELLS.out p.w p.h).2.2.2.2.1
                  have e5 := fun p : Past (w3.alloc (.cells #[.int .i64 p0, .int .i64 p1, .int .i64 p2, .int .i64 p3, .int .i64 p4, .string p5] 64)) => (HCELLS.out p.w p.h).2.2.2.2.2.1
                  have e6 := fun p : Past (w3.alloc (.cells #[.int .i64 p0, .int .i64 p1, .int .i64 p2, .int .i64 p3, .int .i64 p4, .string p5] 64)) => (HCELLS.out p.w p.h).2.2.2.2.2.2.1
                  have e7 := fun p : Past (w3.alloc (.cells #[.int .i64 p0, .int .i64 p1, .int .i64 p2, .int .i64 p3, .int .i64 p4, .string p5] 64)) => (HCELLS.out p.w p.h).2.2.2.2.2.2.2.1
                  have e8 := fun p : Past (w3.alloc (.cells #[.int .i64 p0, .int .i64 p1, .int .i64 p2, .int .i64 p3, .int .i64 p4, .string p5] 64)) => (HCELLS.out p.w p.h).2.2.2.2.2.2.2.2.1
                  have e9 := fun p : Past (w3.alloc (.cells #[.int .i64 p0, .int .i64 p1, .int .i64 p2, .int .i64 p3, .int .i64 p4, .string p5] 64)) => (HCELLS.out p.w p.h).2.2.2.2.2.2.2.2.2.1
                  have e10 := fun p : Past (w3.alloc (.cells #[.int .i64 p0, .int .i64 p1, .int .i64 p2, .int .i64 p3, .int .i64 p4, .string p5] 64)) => (HCELLS.out p.w p.h).2.2.2.2.2.2.2.2.2.2.1
                  have e11 := fun p : Past (w3.alloc (.cells #[.int .i64 p0, .int .i64 p1, .int .i64 p2, .int .i64 p3, .int .i64 p4, .string p5] 64)) => (HCELLS.out p.w p.h).2.2.2.2.2.2.2.2.2.2.2.1
                  have e12 := fun p : Past (w3.alloc (.cells #[.int .i64 p0, .int .i64 p1, .int .i64 p2, .int .i64 p3, .int .i64 p4, .string p5] 64)) => (HCELLS.out p.w p.h).2.2.2.2.2.2.2.2.2.2.2.2.1
                  have e13 := fun p : Past (w3.alloc (.cells #[.int .i64 p0, .int .i64 p1, .int .i64 p2, .int .i64 p3, .int .i64 p4, .string p5] 64)) => (HCELLS.out p.w p.h).2.2.2.2.2.2.2.2.2.2.2.2.2.1
                  have e14 := fun p : Past (w3.alloc (.cells #[.int .i64 p0, .int .i64 p1, .int .i64 p2, .int .i64 p3, .int .i64 p4, .string p5] 64)) => (HCELLS.out p.w p.h).2.2.2.2.2.2.2.2.2.2.2.2.2.2.1
                  have e15 := fun p : Past (w3.alloc (.cells #[.int .i64 p0, .int .i64 p1, .int .i64 p2, .int .i64 p3, .int .i64 p4, .string p5] 64)) => (HCELLS.out p.w p.h).2.2.2.2.2.2.2.2.2.2.2.2.2.2.2.1
                  have e16 := fun p : Past (w3.alloc (.cells #[.int .i64 p0, .int .i64 p1, .int .i64 p2, .int .i64 p3, .int .i64 p4, .string p5] 64)) => (HCELLS.out p.w p.h).2.2.2.2.2.2.2.2.2.2.2.2.2.2.2.2.1
                  have e17 := fun p : Past (w3.alloc (.cells #[.int .i64 p0, .int .i64 p1, .int .i64 p2, .int .i64 p3, .int .i64 p4, .string p5] 64)) => (HCELLS.out p.w p.h).2.2.2.2.2.2.2.2.2.2.2.2.2.2.2.2.2.1
                  have e18 := fun p : Past (w3.alloc (.cells #[.int .i64 p0, .int .i64 p1, .int .i64 p2, .int .i64 p3, .int .i64 p4, .string p5] 64)) => (HCELLS.out p.w p.h).2.2.2.2.2.2.2.2.2.2.2.2.2.2.2.2.2.2.1
                  have e19 := fun p : Past (w3.alloc (.cells #[.int .i64 p0, .int .i64 p1, .int .i64 p2, .int .i64 p3, .int .i64 p4, .string p5] 64)) => (HCELLS.out p.w p.h).2.2.2.2.2.2.2.2.2.2.2.2.2.2.2.2.2.2.2.1
                  have e20 := fun p : Past (w3.alloc (.cells #[.int .i64 p0, .int .i64 p1, .int .i64 p2, .int .i64 p3, .int .i64 p4, .string p5] 64)) => (HCELLS.out p.w p.h).2.2.2.2.2.2.2.2.2.2.2.2.2.2.2.2.2.2.2.2.1
                  have e21 := fun p : Past (w3.alloc (.cells #[.int .i64 p0, .int .i64 p1, .int .i64 p2, .int .i64 p3, .int .i64 p4, .string p5] 64)) => (HCELLS.out p.w p.h).2.2.2.2.2.2.2.2.2.2.2.2.2.2.2.2.2.2.2.2.2.1
                  have e22 := fun p : Past (w3.alloc (.cells #[.int .i64 p0, .int .i64 p1, .int .i64 p2, .int .i64 p3, .int .i64 p4, .string p5] 64)) => (HCELLS.out p.w p.h).2.2.2.2.2.2.2.2.2.2.2.2.2.2.2.2.2.2.2.2.2.2.1
                  have e23 := fun p : Past (w3.alloc (.cells #[.int .i64 p0, .int .i64 p1, .int .i64 p2, .int .i64 p3, .int .i64 p4, .string p5] 64)) => (HCELLS.out p.w p.h).2.2.2.2.2.2.2.2.2.2.2.2.2.2.2.2.2.2.2.2.2.2.2.1
                  have e24 := fun p : Past (w3.alloc (.cells #[.int .i64 p0, .int .i64 p1, .int .i64 p2, .int .i64 p3, .int .i64 p4, .string p5] 64)) => (HCELLS.out p.w p.h).2.2.2.2.2.2.2.2.2.2.2.2.2.2.2.2.2.2.2.2.2.2.2.2.1
                  have e25 := fun p : Past (w3.alloc (.cells #[.int .i64 p0, .int .i64 p1, .int .i64 p2, .int .i64 p3, .int .i64 p4, .string p5] 64)) => (HCELLS.out p.w p.h).2.2.2.2.2.2.2.2.2.2.2.2.2.2.2.2.2.2.2.2.2.2.2.2.2
                  go_wp2_with fail
                  refine wp_region_quiet_past (by kernel_rfl) (by kernel_rfl) ?_
                  repeat (refine qw_step (fun K_ hK_ => ?_); go_simp; first | (refine hK_ _ ?_; clear hK_ K_) | (apply Exists.intro; refine ⟨fun _ => ?_, hK_ _ ?_⟩; (first | (go_at_call 35; exact calls_past_of (HM4.out _ (Past.h _))) | (go_at_call 37; exact calls_past_of (HLS.out _))); clear hK_ K_) | (rw [if_pos (by first | assumption | omega)]; first | (refine hK_ _ ?_; clear hK_ K_) | (apply Exists.intro; refine ⟨fun _ => ?_, hK_ _ ?_⟩; (first | (go_at_call 35; exact calls_past_of (HM4.out _ (Past.h _))) | (go_at_call 37; exact calls_past_of (HLS.out _))); clear hK_ K_)) | (rw [if_neg (by first | assumption | omega)]; first | (refine hK_ _ ?_; clear hK_ K_) | (apply Exists.intro; refine ⟨fun _ => ?_, hK_ _ ?_⟩; (first | (go_at_call 35; exact calls_past_of (HM4.out _ (Past.h _))) | (go_at_call 37; exact calls_past_of (HLS.out _))); clear hK_ K_)))
                  refine qw_nil ?_
                  intro WQ hw_
                  obtain ⟨p_, hp_⟩ := hw_
                  have HQ := p_.h
                  rw [← hp_] at HQ
                  clear hp_ p_
                  go_wp2
                  go_roundw
                  case rel => exact ⟨t + 1, _, HX.out, by simp; omega, by go_num, by rw [HNXE.out, HNX.out]; exact HBX4.out.below_ HQ⟩
                  case measure => simp [intOf]; omega
              · have HNX := Lib.hid hNX
                clear hNX
                rcases hq with ⟨y1, rfl, y2⟩ | ⟨y1, rfl, y2, rfl⟩
                all_goals
                  have e0 := fun p : Past (w3.alloc (.cells #[.int .i64 p0, .int .i64 p1, .int .i64 p2, .int .i64 p3, .int .i64 p4, .string p5] 64)) => (HCELLS.out p.w p.h).1
                  have e1 := fun p : Past (w3.alloc (.cells #[.int .i64 p0, .int .i64 p1, .int .i64 p2, .int .i64 p3, .int .i64 p4, .string p5] 64)) => (HCELLS.out p.w p.h).2.1
                  have e2 := fun p : Past (w3.alloc (.cells #[.int .i64 p0, .int .i64 p1, .int .i64 p2, .int .i64 p3, .int .i64 p4, .string p5] 64)) => (HCELLS.out p.w p.h).2.2.1
                  have e3 := fun p : Past (w3.alloc (.cells #[.int .i64 p0, .int .i64 p1, .int .i64 p2, .int .i64 p3, .int .i64 p4, .string p5] 64)) => (HCELLS.out p.w p.h).2.2.2.1
                  have e4 := fun p : Past (w3.alloc (.cells #[.int .i64 p0, .int .i64 p1, .int .i64 p2, .int .i64 p3, .int .i64 p4, .string p5] 64)) => (HCELLS.out p.w p.h).2.2.2.2.1
                  have e5 := fun p : Past (w3.alloc (.cells #[.int .i64 p0, .int .i64 p1, .int .i64 p2, .int .i64 p3, .int .i64 p4, .string p5] 64)) => (HCELLS.out p.w p.h).2.2.2.2.2.1
                  have e6 := fun p : Past (w3.alloc (.cells #[.int .i64 p0, .int .i64 p1, .int .i64 p2, .int .i64 p3, .int .i64 p4, .string p5] 64)) => (HCELLS.out p.w p.h).2.2.2.2.2.2.1
                  have e7 := fun p : Past (w3.alloc (.cells #[.int .i64 p0, .int .i64 p1, .int .i64 p2, .int .i64 p3, .int .i64 p4, .string p5] 64)) => (HCELLS.out p.w p.h).2.2.2.2.2.2.2.1
                  have e8 := fun p : Past (w3.alloc (.cells #[.int .i64 p0, .int .i64 p1, .int .i64 p2, .int .i64 p3, .int .i64 p4, .string p5] 64)) => (HCELLS.out p.w p.h).2.2.2.2.2.2.2.2.1
                  have e9 := fun p : Past (w3.alloc (.cells #[.int .i64 p0, .int .i64 p1, .int .i64 p2, .int .i64 p3, .int .i64 p4, .string p5] 64)) => (HCELLS.out p.w p.h).2.2.2.2.2.2.2.2.2.1
                  have e10 := fun p : Past (w3.alloc (.cells #[.int .i64 p0, .int .i64 p1, .int .i64 p2, .int .i64 p3, .int .i64 p4, .string p5] 64)) => (HCELLS.out p.w p.h).2.2.2.2.2.2.2.2.2.2.1
                  have e11 := fun p : Past (w3.alloc (.cells #[.int .i64 p0, .int .i64 p1, .int .i64 p2, .int .i64 p3, .int .i64 p4, .string p5] 64)) => (HCELLS.out p.w p.h).2.2.2.2.2.2.2.2.2.2.2.1
                  have e12 := fun p : Past (w3.alloc (.cells #[.int .i64 p0, .int .i64 p1, .int .i64 p2, .int .i64 p3, .int .i64 p4, .string p5] 64)) => (HCELLS.out p.w p.h).2.2.2.2.2.2.2.2.2.2.2.2.1
                  have e13 := fun p : Past (w3.alloc (.cells #[.int .i64 p0, .int .i64 p1, .int .i64 p2, .int .i64 p3, .int .i64 p4, .string p5] 64)) => (HCELLS.out p.w p.h).2.2.2.2.2.2.2.2.2.2.2.2.2.1
                  have e14 := fun p : Past (w3.alloc (.cells #[.int .i64 p0, .int .i64 p1, .int .i64 p2, .int .i64 p3, .int .i64 p4, .string p5] 64)) => (HCELLS.out p.w p.h).2.2.2.2.2.2.2.2.2.2.2.2.2.2.1
                  have e15 := fun p : Past (w3.alloc (.cells #[.int .i64 p0, .int .i64 p1, .int .i64 p2, .int .i64 p3, .int .i64 p4, .string p5] 64)) => (HCELLS.out p.w p.h).2.2.2.2.2.2.2.2.2.2.2.2.2.2.2.1
                  have e16 := fun p : Past (w3.alloc (.cells #[.int .i64 p0, .int .i64 p1, .int .i64 p2, .int .i64 p3, .int .i64 p4, .string p5] 64)) => (HCELLS.out p.w p.h).2.2.2.2.2.2.2.2.2.2.2.2.2.2.2.2.1
                  have e17 := fun p : Past (w3.alloc (.cells #[.int .i64 p0, .int .i64 p1, .int .i64 p2, .int .i64 p3, .int .i64 p4, .string p5] 64)) => (HCELLS.out p.w p.h).2.2.2.2.2.2.2.2.2.2.2.2.2.2.2.2.2.1
                  have e18 := fun p : Past (w3.alloc (.cells #[.int .i64 p0, .int .i64 p1, .int .i64 p2, .int .i64 p3, .int .i64 p4, .string p5] 64)) => (HCELLS.out p.w p.h).2.2.2.2.2.2.2.2.2.2.2.2.2.2.2.2.2.2.1
                  have e19 := fun p : Past (w3.alloc (.cells #[.int .i64 p0, .int .i64 p1, .int .i64 p2, .int .i64 p3, .int .i64 p4, .string p5] 64)) => (HCELLS.out p.w p.h).2.2.2.2.2.2.2.2.2.2.2.2.2.2.2.2.2.2.2.1
                  have e20 := fun p : Past (w3.alloc (.cells #[.int .i64 p0, .int .i64 p1, .int .i64 p2, .int .i64 p3, .int .i64 p4, .string p5] 64)) => (HCELLS.out p.w p.h).2.2.2.2.2.2.2.2.2.2.2.2.2.2.2.2.2.2.2.2.1
                  have e21 := fun p : Past (w3.alloc (.cells #[.int .i64 p0, .int .i64 p1, .int .i64 p2, .int .i64 p3, .int .i64 p4, .string p5] 64)) => (HCELLS.out p.w p.h).2.2.2.2.2.2.2.2.2.2.2.2.2.2.2.2.2.2.2.2.2.1
                  have e22 := fun p : Past (w3.alloc (.cells #[.int .i64 p0, .int .i64 p1, .int .i64 p2, .int .i64 p3, .int .i64 p4, .string p5] 64)) => (HCELLS.out p.w p.h).2.2.2.2.2.2.2.2.2.2.2.2.2.2.2.2.2.2.2.2.2.2.1
                  have e23 := fun p : Past (w3.alloc (.cells #[.int .i64 p0, .int .i64 p1, .int .i64 p2, .int .i64 p3, .int .i64 p4, .string p5] 64)) => (HCELLS.out p.w p.h).2.2.2.2.2.2.2.2.2.2.2.2.2.2.2.2.2.2.2.2.2.2.2.1
                  have e24 := fun p : Past (w3.alloc (.cells #[.int .i64 p0, .int .i64 p1, .int .i64 p2, .int .i64 p3, .int .i64 p4, .string p5] 64)) => (HCELLS.out p.w p.h).2.2.2.2.2.2.2.2.2.2.2.2.2.2.2.2.2.2.2.2.2.2.2.2.1
                  have e25 := fun p : Past (w3.alloc (.cells #[.int .i64 p0, .int .i64 p1, .int .i64 p2, .int .i64 p3, .int .i64 p4, .string p5] 64)) => (HCELLS.out p.w p.h).2.2.2.2.2.2.2.2.2.2.2.2.2.2.2.2.2.2.2.2.2.2.2.2.2
                  go_wp2_with fail
                  refine wp_region_quiet_past (by kernel_rfl) (by kernel_rfl) ?_
                  repeat (refine qw_step (fun K_ hK_ => ?_); go_simp; first | (refine hK_ _ ?_; clear hK_ K_) | (apply Exists.intro; refine ⟨fun _ => ?_, hK_ _ ?_⟩; (first | (go_at_call 35; exact calls_past_of (HM4.out _ (Past.h _))) | (go_at_call 37; exact calls_past_of (HLS.out _))); clear hK_ K_) | (rw [if_pos (by first | assumption | omega)]; first | (refine hK_ _ ?_; clear hK_ K_) | (apply Exists.intro; refine ⟨fun _ => ?_, hK_ _ ?_⟩; (first | (go_at_call 35; exact calls_past_of (HM4.out _ (Past.h _))) | (go_at_call 37; exact calls_past_of (HLS.out _))); clear hK_ K_)) | (rw [if_neg (by first | assumption | omega)]; first | (refine hK_ _ ?_; clear hK_ K_) | (apply Exists.intro; refine ⟨fun _ => ?_, hK_ _ ?_⟩; (first | (go_at_call 35; exact calls_past_of (HM4.out _ (Past.h _))) | (go_at_call 37; exact calls_past_of (HLS.out _))); clear hK_ K_)))
                  refine qw_nil ?_
                  intro WQ hw_
                  obtain ⟨p_, hp_⟩ := hw_
                  have HQ := p_.h
                  rw [← hp_] at HQ
                  clear hp_ p_
                  clear e0 e1 e2 e3 e4 e5 e6 e7 e8 e9 e10 e11 e12 e13 e14 e15 e16 e17 e18 e19 e20 e21 e22 e23 e24 e25
                  obtain ⟨-, c1, c2, c3, c4, -, -, -, -, -, -, -, -, -, -, -, c16, -, -, -, -, -, -, -, -, -⟩ := HCELLS.out WQ HQ
                  go_wp2_with fail
                  refine ((refAt_any (m : Int) bm (t : Int) (by omega) (by omega) WQ)).mono ?_
                  rintro e wA ⟨rfl, hA1⟩
                  obtain ⟨-, c1, c2, c3, c4, -, -, -, -, -, -, -, -, -, -, -, -, -, -, -, -, -, -, -, -, -⟩ := HCELLS.out wA (below_tr HQ hA1)
                  have hbx := HBX4.out.below_ (below_tr HQ hA1)
                  have kb1 := hbx.b1
                  have kb2 := hbx.b2
                  simp only [adC, tgC] at kb1 kb2
                  have d0 := (kb1.cell 0).trans rfl
                  have d1 := (kb1.cell 1).trans rfl
                  have d2 := (kb1.cell 2).trans rfl
                  have f0 := kb1.frozen 0
                  have f1 := kb1.frozen 1
                  have f2 := kb1.frozen 2
                  have dd0 := (kb2.cell 0).trans rfl
                  have dd1 := (kb2.cell 1).trans rfl
                  have dd2 := (kb2.cell 2).trans rfl
                  have dd3 := (kb2.cell 3).trans rfl
                  have ff0 := kb2.frozen 0
                  have ff1 := kb2.frozen 1
                  have ff2 := kb2.frozen 2
                  have ff3 := kb2.frozen 3
                  have HKB1 := Lib.hid kb1
                  have HKB2 := Lib.hid kb2
                  have HBW := Lib.hid hbx.below
                  have HRES := HNXE.out.trans HNX.out
                  generalize addrF (m : Int) bm (t : Int) = ad at HRES ⊢
                  obtain ⟨r0, r1, r2⟩ := ad
                  have HRE := Lib.hid HRES
                  clear HRES kb1 kb2 hbx HNXE HNX
                  simp only [Ad.agg]
                  have hne1 : ¬ w3.heap.size = wo.heap.size := by omega
                  have far3 : ∀ i v i' v' i2 v2 x y, (((wA.setCell ⟨wo.heap.size, i, none⟩ v).setCell ⟨wo.heap.size, i', none⟩ v').setCell ⟨wo.heap.size, i2, none⟩ v2).cell? ⟨w3.heap.size, x, y⟩ = wA.cell? ⟨w3.heap.size, x, y⟩ := fun i v i' v' i2 v2 x y =>
                    ((World.cell?_setCell_other _ _ _ _ (fun e => by injection e with e; exact hne1 e.symm)).trans (World.cell?_setCell_other _ _ _ _ (fun e => by injection e with e; exact hne1 e.symm))).trans (World.cell?_setCell_other _ _ _ _ (fun e => by injection e with e; exact hne1 e.symm))
                  go_wp2
                  go_roundw
                  case rel =>
                    refine ⟨t + 1, _, HX.out, by simp; omega, by go_num, ?_⟩
                    rw [HRE.out]
                    have z1 := ((HKB1.out.set_ 0 (.int .i64 r0)).set_ 1 (.int .i64 r1)).set_ 2 (.int .i64 r2)
                    have z2 := ((HKB2.out.far (p := ⟨wo.heap.size, 0, none⟩) (by simp) (.int .i64 r0)).far (p := ⟨wo.heap.size, 1, none⟩) (by simp) (.int .i64 r1)).far (p := ⟨wo.heap.size, 2, none⟩) (by simp) (.int .i64 r2)
                    exact ⟨((((((HBW.out.setCell (p := ⟨wo.heap.size, 0, none⟩) (Nat.le_refl _) _).setCell (p := ⟨wo.heap.size, 1, none⟩) (Nat.le_refl _) _).setCell (p := ⟨wo.heap.size, 2, none⟩) (Nat.le_refl _) _).setCell (p := ⟨wo.heap.size + 1, 0, none⟩) (Nat.le_succ _) _).setCell (p := ⟨wo.heap.size + 1, 1, none⟩) (Nat.le_succ _) _).setCell (p := ⟨wo.heap.size + 1, 2, none⟩) (Nat.le_succ _) _).setCell (p := ⟨wo.heap.size + 1, 3, none⟩) (Nat.le_succ _) _,
                      (((z1.far (p := ⟨wo.heap.size + 1, 0, none⟩) (by simp) _).far (p := ⟨wo.heap.size + 1, 1, none⟩) (by simp) _).far (p := ⟨wo.heap.size + 1, 2, none⟩) (by simp) _).far (p := ⟨wo.heap.size + 1, 3, none⟩) (by simp) _,
                      (((z2.set_ 0 _).set_ 1 _).set_ 2 _).set_ 3 _⟩
                  case measure => simp [intOf]; omega
            · obtain ⟨⟨bm, bb, ⟨pA, pn, pcc⟩⟩, pages⟩ := x'
              simp only [Sv.v] at hpl bc2 hlt3 ht hpbig hp80
              simp only at bc0 bc1
              have hte : t = pages.length := by omega
              subst hte
              have hge : ¬ ((pages.length : Nat) : Int) < (pn : Int) := by omega
              have hnext : blocksF g3 fl co (k : Int) bs (m + 1) = pagesF g3 fl co (k : Int) m bm pages pages.length (blocksF g3 fl co (k : Int) bs m) := by
                show (match bs[m]? with | some b => _ | none => _) = _
                rw [hx]
              have HNE := Lib.hid hnext
              clear hnext
              clear hpgs hw3
              go_wp2
              go_roundw
              case rel => exact ⟨m + 1, by omega, by go_num, by rw [HNE.out]; exact HP⟩
              case measure => simp [intOf]; omega
        · have : m = n := by omega
          subst this
          have HBB := HB.out
          rw [← hlen] at HBB
          have hw1 := whereF_succ g3 fl co bs k
          have hs1 := seqsF_succ g3 fl co bs k
          generalize blocksF g3 fl co (k : Int) bs bs.length = q at HBB hw1 hs1
          obtain ⟨⟨a0, a1, a2⟩, ⟨t0, t1, t2, t3⟩⟩ := q
          have hb1 : Blk wr wo.heap.size 70 #[.int .i64 a0, .int .i64 a1, .int .i64 a2] := HBB.b1
          have hb2 : Blk wr (wo.heap.size + 1) 62 #[.int .i64 t0, .int .i64 t1, .int .i64 t2, .int .i64 t3] := HBB.b2
          have c0 := (hb1.cell 0).trans rfl
          have c1 := (hb1.cell 1).trans rfl
          have c2 := (hb1.cell 2).trans rfl
          have d0 := (hb2.cell 0).trans rfl
          have d1 := (hb2.cell 1).trans rfl
          have d2 := (hb2.cell 2).trans rfl
          have d3 := (hb2.cell 3).trans rfl
          have HBW := Lib.hid HBB.below
          have HW1 := Lib.hid hw1
          clear hw1
          have HS1 := Lib.hid hs1
          clear hs1
          have HB1 := Lib.hid hb1
          clear hb1
          have HB2 := Lib.hid hb2
          clear hb2
          clear HBB HB
          go_wp2_with (first | (at_builtin; refine wpList_app rfl (.tmp 85) (.tmp 87) 53 rfl Try.underlying53 info_addr rfl (by omega) (by omega) rfl ((own_below H.out.1.a HBW.out).alloc _) rfl (heap_alloc_new wr _) rfl (by simp [Value.oneCell']) (by omega) (by have := HBW.out.size; have := H.out.2.st.lt; simp; omega) ?_; intro g cap w4 hown4 hg4 hor4 hlt4; go_must (have hk2 := (HB2.out.alloc (.cells #[.int .i64 a0, .int .i64 a1, .int .i64 a2] 70)).grown hg4 (fun e => by have := own_lt H.out.1.a _ e.symm; omega); have e2 : w4.cell? ⟨wo.heap.size + 1, 2, none⟩ = some (.int .i64 t2) := (hk2.cell 2).trans rfl; have HK2 := Lib.hid hk2; have HG4 := Lib.hid hg4; have HO4 := Lib.hid hown4; have HOR4 := Lib.hid hor4; have HLT4 := Lib.hid hlt4; clear hk2 hg4 hown4 hor4 hlt4 c0 c1 c2 d0 d1 d2 d3)) | (at_builtin; refine wpList_app rfl (.tmp 89) (.tmp 92) 32 rfl Try.underlying32 info_int_b rfl (by omega) (by omega) rfl ((((own_below H.out.1.i HBW.out).alloc _).kept HG4.out H.out.1.ne).alloc _) rfl (heap_alloc_new w4 _) rfl (by simp [Value.oneCell']) (by omega) (by have := HBW.out.size; have := H.out.2.st.lt; have := HG4.out.size; simp at this ⊢; omega) ?_; intro g2 cap2 w5 hown5 hg5 hor5 hlt5))
          have hne4 : (some g : Option Nat) ≠ u9.ownBlock := by
            intro e
            rcases HOR4.out with h | h
            · rcases H.out.1.ne with h2 | h2
              · rw [h2] at e; cases e
              · exact h2 (e.symm.trans h.symm)
            · have h3 := own_lt H.out.1.i _ e.symm
              have := HBW.out.size
              simp at h
              omega
          have hsz : w.heap.size + 1 < wo.heap.size := H.out.2.st.lt
          have hbw := HBW.out
          have hs4 := HG4.out.size
          have hs5 := hg5.size
          have ba : ∀ q, u8.ownBlock = some q → w.heap.size + 2 ≤ q := fun q e => own_base H.out.1.a q e
          have bi : ∀ q, u9.ownBlock = some q → w.heap.size + 2 ≤ q := fun q e => own_base H.out.1.i q e
          have hT : Hid (Two (w.heap.size + 2) w (whereF g3 fl co bs (k + 1)) (seqsF g3 fl co bs (k + 1)) (k + 1) (.slice (some ⟨g, 0, none⟩) (k + 1) cap) (.slice (some ⟨g2, 0, none⟩) (k + 1) cap2) w5) := by
            refine ⟨?_, ?_, ?_, ?_⟩
            · rw [HW1.out, eList_snoc]
              exact (HO4.out.alloc _).kept hg5 (Or.inr hne4)
            · rw [HS1.out, eList_snoc]
              exact hown5
            · refine Or.inr ?_
              intro e
              have e : some g2 = some g := e
              rcases hor5 with h | h
              · exact hne4 (e.symm.trans h.symm)
              · injection e with e
                have := HLT4.out
                simp at h
                omega
            · exact (((below_tr H.out.1.below hbw).alloc (by have := hbw.size; omega) _).grown HG4.out (by have := hbw.size; simp; omega) (fun q e => by have := ba q e; omega) |>.alloc (by have := hbw.size; simp at hs4; omega) _).grown hg5 (by have := hbw.size; simp at hs4 ⊢; omega) (fun q e => by have := bi q e; omega)
          have hG : Hid (GS w ⟨g0, g1, G2, g3, g4, g5⟩ ⟨⟨fA, fn, fc⟩, ⟨cA, cn, cc⟩, ⟨sA, sn, sc⟩, ⟨tA, tn, tc⟩⟩ w5) := by
            have h0 := H.out.2.below_ hbw
            exact ⟨(((h0.geo.alloc _).grown HG4.out (fun e => by have := ba _ e.symm; omega)).alloc _).grown hg5 (fun e => by have := bi _ e.symm; omega), (((h0.st.alloc _).grown HG4.out (fun e => by have := ba _ e.symm; omega)).alloc _).grown hg5 (fun e => by have := bi _ e.symm; omega)⟩
          go_roundw
          case rel => exact ⟨k + 1, by omega, by go_num, hT.out, hG.out⟩
          case measure => simp [intOf]; omega
    · have : k = N := by omega
      subst this
      have hge : ¬ (k : Int) < g3 := by omega
      go_wp2
      go_ret2
      exact ⟨_, _, rfl, own_mono H.out.1.a (by omega), own_mono H.out.1.i (by omega), H.out.1.ne, H.out.1.below⟩
end Go.Proofs.Ytdjfkehbknbocaa

/- The walk of the law BestMaps. -/
import Derived.Test.YtdjfkehbknbocaaWork17
import Derived.Test.YtdjfkehbknbocaaSpoil
namespace Go.Proofs.Ytdjfkehbknbocaa
open Go.RowKit
set_option linter.unusedSimpArgs false
set_option linter.unusedVariables false

theorem Sl.bk {w : World} {A : Option Addr} {n : Nat} {bs : List Bl} (h : Sl eBl 3 w A n bs) : Sl eBk 3 w A n (bs.map (·.b)) := by
  refine ⟨by simp [h.len], h.big, fun hn => ?_⟩
  obtain ⟨b, off, e, hb, hc⟩ := h.2.2 hn
  refine ⟨b, off, e, hb, fun j x hx i v hv => ?_⟩
  rw [List.getElem?_map] at hx
  cases hj : bs[j]? with
  | none => rw [hj] at hx; cases hx
  | some y =>
    rw [hj] at hx
    injection hx with hx
    subst hx
    exact hc j y hj i v hv
theorem fewF_spec {lbas : Int} {bs : List Bl} {w : World} (hD : Deep w bs) (h : fewF lbas (bs.map (·.b)) = true) : lbas ≤ 100 ∧ bs.length ≤ 12 ∧ ∀ x ∈ bs, x.pages.length ≤ 80 := by
  simp [fewF] at h
  refine ⟨h.2.1, h.1, fun x hx => ?_⟩
  have := h.2.2 x hx
  rw [(hD x hx).len]
  exact this
theorem eq_bool_same {P : Program} {t : TypeId} (T : Bool) (w : World) (ht : P.underlying t = some .bool) : (binOp .neq t (.bool T) (.bool T)).run P w = .ok (.bool false) w := by
  simp only [binOp]
  simp [Op.equal, Op.maxDepth, eqIn_bool 9999 T T ht]
set_option maxRecDepth 100000 in
set_option maxHeartbeats 40000000 in
theorem maps_walk (g : Geo) (s : St) (fl co : List Int) (A : Option Addr) (n c : Nat) (bs : List Bl) (w : World) (hf : Sl eInt 1 w s.f.A s.f.n fl) (hc : Sl eInt 1 w s.c.A s.c.n co) (hA : Sl eBl 3 w A n bs) (hD : Deep w bs) :
    Calls Try.prog 9 #[g.agg, s.agg, .slice A n c] w fun e w' => e = .returned (.bool true) ∧ Below w.heap.size w w' := by
  have hlen := hA.len
  have hmay := fun W (hW : Below w.heap.size w W) block b p => may_any g s fl co block b p W (hf.below hW) (hc.below hW)
  have hrmay := fun W (hW : Below w.heap.size w W) block b p => refMay_any g s fl co block b p W (hf.below hW) (hc.below hW)
  have hless := fun p q W => less_any p q W
  have hrless := fun p q W => refLess_any p q W
  have hfew := fun W (hW : Below w.heap.size w W) => few_any g A n c (bs.map (·.b)) W (hA.below hW).bk (by intro b hb; obtain ⟨x, hx, rfl⟩ := List.mem_map.1 hb; exact (hD x hx).big)
  have hspec := fewF_spec (lbas := g.lbas) hD
  have hmap := fun W (hW : Below w.heap.size w W) hl hn hpp => map_any g s fl co A n c bs W (hf.below hW) (hc.below hW) (hA.below hW) (hD.below hW) hl hn hpp
  have hrmap := fun W (hW : Below w.heap.size w W) hl hn hpp => refMap_any g s fl co A n c bs W (hf.below hW) (hc.below hW) (hA.below hW) (hD.below hW) hl hn hpp
  generalize fewF g.lbas (bs.map (·.b)) = FW at hfew hspec
  obtain ⟨g0, g1, G2, g3, g4, g5⟩ := g
  obtain ⟨⟨fA, fn, fc⟩, ⟨cA, cn, cc⟩, ⟨sA, sn, sc⟩, ⟨tA, tn, tc⟩⟩ := s
  simp only [Geo.agg, St.agg, Sv.v] at hmay hrmay hfew hmap hrmap hspec ⊢
  have HA := Lib.hid (And.intro hA hD)
  have HMAY := Lib.hid hmay
  clear hmay
  have HRMAY := Lib.hid hrmay
  clear hrmay
  have HLESS := Lib.hid hless
  clear hless
  have HRLESS := Lib.hid hrless
  clear hrless
  have HFEW := Lib.hid hfew
  clear hfew
  have HMAP := Lib.hid hmap
  clear hmap
  have HRMAP := Lib.hid hrmap
  clear hrmap
  have HSPEC := Lib.hid hspec
  clear hspec
  clear hf hc hA hD
  go_enter Try.func9, Try.ntmps9
  have kg := (Blk.new w 48 #[.int .i64 g0, .int .i64 g1, .int .i64 G2, .int .i64 g3, .int .i64 g4, .int .i64 g5]).alloc (.cells #[.slice fA fn fc, .slice cA cn cc, .slice sA sn sc, .slice tA tn tc] 50)
  have ks := Blk.new1 w (.cells #[.int .i64 g0, .int .i64 g1, .int .i64 G2, .int .i64 g3, .int .i64 g4, .int .i64 g5] 48) 50 #[.slice fA fn fc, .slice cA cn cc, .slice sA sn sc, .slice tA tn tc]
  obtain ⟨w0, hw0⟩ : ∃ w0, (w.alloc (.cells #[.int .i64 g0, .int .i64 g1, .int .i64 G2, .int .i64 g3, .int .i64 g4, .int .i64 g5] 48)).alloc (.cells #[.slice fA fn fc, .slice cA cn cc, .slice sA sn sc, .slice tA tn tc] 50) = w0 := ⟨_, rfl⟩
  have hb0 : Below w.heap.size w w0 := by rw [← hw0]; ((try change Below _ _ _); (repeat (any_goals (first | (with_reducible exact Below.refl _ _) | (with_reducible exact Below.refl _ _) | (with_reducible apply Below.drew) | (with_reducible apply below_drewN) | (with_reducible refine Below.alloc ?_ ?_ _) | (with_reducible refine Below.setCell ?_ ?_ _)))); all_goals (first | exact Nat.le_refl _ | (simp; done) | (simp; omega) | omega | (dsimp only; omega)))
  rw [hw0] at kg ks
  go_upto_region 1 with fail
  try rw [hw0]
  clear hw0
  have hk : ∀ W, Below w0.heap.size w0 W → W.cell? ⟨w.heap.size, 0, none⟩ = some (.int .i64 g0) ∧ W.cell? ⟨w.heap.size, 1, none⟩ = some (.int .i64 g1) ∧ W.cell? ⟨w.heap.size, 2, none⟩ = some (.int .i64 G2) ∧ W.cell? ⟨w.heap.size, 3, none⟩ = some (.int .i64 g3) ∧ W.cell? ⟨w.heap.size, 4, none⟩ = some (.int .i64 g4) ∧ W.cell? ⟨w.heap.size, 5, none⟩ = some (.int .i64 g5) ∧ W.cell? ⟨w.heap.size + 1, 0, none⟩ = some (.slice fA fn fc) ∧ W.cell? ⟨w.heap.size + 1, 1, none⟩ = some (.slice cA cn cc) ∧ W.cell? ⟨w.heap.size + 1, 2, none⟩ = some (.slice sA sn sc) ∧ W.cell? ⟨w.heap.size + 1, 3, none⟩ = some (.slice tA tn tc) := fun W hW => ⟨((kg.below_ hW).cell 0).trans rfl, ((kg.below_ hW).cell 1).trans rfl, ((kg.below_ hW).cell 2).trans rfl, ((kg.below_ hW).cell 3).trans rfl, ((kg.below_ hW).cell 4).trans rfl, ((kg.below_ hW).cell 5).trans rfl, ((ks.below_ hW).cell 0).trans rfl, ((ks.below_ hW).cell 1).trans rfl, ((ks.below_ hW).cell 2).trans rfl, ((ks.below_ hW).cell 3).trans rfl⟩
  have HK := Lib.hid hk
  have HB0 := Lib.hid hb0
  clear kg ks hk
  obtain ⟨q0, q1, q2, q3, q4, q5, r0, r1, r2, r3⟩ := HK.out w0 (Below.refl _ _)
  go_wp2_with fail
  refine (HFEW.out w0 hb0).mono ?_
  rintro e w1 ⟨rfl, hb1⟩
  clear q0 q1 q2 q3 q4 q5 r0 r1 r2 r3
  clear hb0
  cases FW with
  | false =>
    go_wp2_with fail
    refine (works17_any w1).mono ?_
    rintro e w2 ⟨rfl, hb2⟩
    have HE := Lib.hid (below_tr HB0.out (below_tr hb1 hb2))
    clear hb1 hb2
    go_wp2
    go_ret
    exact ⟨rfl, HE.out⟩
  | true =>
    obtain ⟨hl, hn, hpp⟩ := HSPEC.out (by simp)
    rw [hlen] at hn
    have HB1 := Lib.hid hb1
    clear hb1
    obtain ⟨q0, q1, q2, q3, q4, q5, r0, r1, r2, r3⟩ := HK.out w1 HB1.out
    go_wp2_with fail
    refine (HMAP.out w1 (below_tr HB0.out HB1.out) hl hn hpp).mono ?_
    rintro e w2 ⟨v8, v9, rfl, hT⟩
    clear q0 q1 q2 q3 q4 q5 r0 r1 r2 r3
    have HB2 := Lib.hid (below_tr HB1.out hT.below)
    have HT := Lib.hid hT
    clear hT
    obtain ⟨q0, q1, q2, q3, q4, q5, r0, r1, r2, r3⟩ := HK.out w2 HB2.out
    go_wp2_with fail
    refine (HRMAP.out w2 (below_tr HB0.out HB2.out) hl hn hpp).mono ?_
    rintro e w3 ⟨u8, u9, rfl, hU⟩
    clear q0 q1 q2 q3 q4 q5 r0 r1 r2 r3
    have HB23 := Lib.hid hU.below
    have hT3 := HT.out.below_ hU.below
    obtain ⟨A1, c1, B1, d1, rfl, rfl, sA1, sB1⟩ := hT3.sl
    obtain ⟨A2, c2, B2, d2, rfl, rfl, sA2, sB2⟩ := hU.sl
    have hsa := fun W (hW : Below w3.heap.size w3 W) => sameAddrs_any A1 A2 g3.toNat c1 g3.toNat c2 _ _ W (sA1.below hW) (sA2.below hW)
    have hsi := fun W (hW : Below w3.heap.size w3 W) => sameInts_any B1 B2 g3.toNat d1 g3.toNat d2 _ _ W (sB1.below hW) (sB2.below hW)
    simp only [decide_true] at hsa hsi
    have HSA := Lib.hid hsa
    clear hsa
    have HSI := Lib.hid hsi
    clear hsi
    clear hT3 hU sA1 sB1 sA2 sB2
    go_wp2_with fail
    refine (HSA.out w3 (Below.refl _ _)).mono ?_
    rintro e w5 ⟨rfl, hb5⟩
    go_wp2_with fail
    refine (HSI.out w5 hb5).mono ?_
    rintro e w6 ⟨rfl, hb6⟩
    have HB6 := Lib.hid (below_tr HB23.out (below_tr hb5 hb6))
    clear hb5 hb6
    go_wp2_with fail
    go_loopw [11] (fun u wr => ∃ m : Nat, m ≤ n ∧ u = .int .i64 m ∧ Hid (Below w6.heap.size w6 wr)) (fun u _ => n - (intOf u).toNat)
    case atStart => exact ⟨0, Nat.zero_le _, rfl, Below.refl _ _⟩
    case round =>
      obtain ⟨m, hm, rfl, H⟩ := hrel
      by_cases hlt : m < n
      · go_wp2_with fail
        go_loopw [12] (fun u wr => ∃ (t : Nat) (x : Bl), bs[m]? = some x ∧ t ≤ x.pages.length ∧ u = .int .i64 t ∧ Hid (Below w6.heap.size w6 wr)) (fun u _ => 1000 - (intOf u).toNat)
        case atStart =>
          obtain ⟨x, hx⟩ : ∃ x, bs[m]? = some x := ⟨bs[m]'(by omega), List.getElem?_eq_getElem (by omega)⟩
          exact ⟨0, x, hx, Nat.zero_le _, rfl, H⟩
        case round =>
          obtain ⟨t, x, hx, ht, rfl, HP⟩ := hrel
          have hbw := below_tr HB0.out (below_tr HB2.out (below_tr HB6.out HP.out))
          have hbw0 := below_tr HB2.out (below_tr HB6.out HP.out)
          obtain ⟨b, off, x', rfl, hb, hx', hcb⟩ := (HA.out.1.below hbw).get_ hlt
          obtain rfl : x' = x := by rw [hx] at hx'; injection hx' with hx'; exact hx'.symm
          have hxm := List.mem_of_getElem? hx
          have hpgs := HA.out.2.below hbw x' hxm
          have hp80 := hpp x' hxm
          have hpl := hpgs.len
          have hpbig := hpgs.big
          have HX := Lib.hid hx
          have bc0 := hcb 0 _ rfl
          have bc1 := hcb 1 _ rfl
          have bc2 := hcb 2 _ rfl
          obtain ⟨⟨bm, bb, ⟨pA, pn, pcc⟩⟩, pages⟩ := x'
          simp only [Nat.add_zero] at bc0
          simp only [Sv.v] at bc0 bc1 bc2 hpgs hp80 hpl hpbig ht
          clear hcb hx' hx
          by_cases hlt2 : t < pages.length
          · have hpn : t < pn := by omega
            have hlt3 : (t : Int) < (pn : Int) := by omega
            have hlt30 : (0 : Int) < (pn : Int) := by omega
            obtain ⟨pb, poff, pg, rfl, hpb, hpx, hcp⟩ := hpgs.get_ hpn
            obtain ⟨pb', poff', pz, hpe, hpb', hpx', hcp'⟩ := hpgs.get_ (j := 0) (by omega)
            injection hpe with hpe
            injection hpe with hpe1 hpe2
            subst hpe1 hpe2
            obtain ⟨p0, ⟨p1, p2, p3, p4⟩, p5⟩ := pg
            obtain ⟨z0, ⟨z1, z2, z3, z4⟩, z5⟩ := pz
            have pc0 := hcp 0 _ rfl
            have pc1 := hcp 1 _ rfl
            have pc2 := hcp 2 _ rfl
            have pc3 := hcp 3 _ rfl
            have pc4 := hcp 4 _ rfl
            have pc5 := hcp 5 _ rfl
            have zc0 := hcp' 0 _ rfl
            have zc1 := hcp' 1 _ rfl
            have zc2 := hcp' 2 _ rfl
            have zc3 := hcp' 3 _ rfl
            have zc4 := hcp' 4 _ rfl
            have zc5 := hcp' 5 _ rfl
            simp only [Nat.add_zero, Nat.zero_mul] at pc0 zc0 zc1 zc2 zc3 zc4 zc5
            clear hcp hcp' hpx hpx' hpgs
            go_upto_region 15 with fail
            have hb4 : Below wr.heap.size wr ((wr.alloc (.cells #[.int .i64 p0, .int .i64 p1, .int .i64 p2, .int .i64 p3, .int .i64 p4, .string p5] 64)).alloc (.cells #[.int .i64 z0, .int .i64 z1, .int .i64 z2, .int .i64 z3, .int .i64 z4, .string z5] 64)) := by ((try change Below _ _ _); (repeat (any_goals (first | (with_reducible exact Below.refl _ _) | (with_reducible exact Below.refl _ _) | (with_reducible apply Below.drew) | (with_reducible apply below_drewN) | (with_reducible refine Below.alloc ?_ ?_ _) | (with_reducible refine Below.setCell ?_ ?_ _)))); all_goals (first | exact Nat.le_refl _ | (simp; done) | (simp; omega) | omega | (dsimp only; omega)))
            have kp := (Blk.new wr 64 #[.int .i64 p0, .int .i64 p1, .int .i64 p2, .int .i64 p3, .int .i64 p4, .string p5]).alloc (.cells #[.int .i64 z0, .int .i64 z1, .int .i64 z2, .int .i64 z3, .int .i64 z4, .string z5] 64)
            have kz := Blk.new1 wr (.cells #[.int .i64 p0, .int .i64 p1, .int .i64 p2, .int .i64 p3, .int .i64 p4, .string p5] 64) 64 #[.int .i64 z0, .int .i64 z1, .int .i64 z2, .int .i64 z3, .int .i64 z4, .string z5]
            obtain ⟨w4, hw4⟩ : ∃ w4, (wr.alloc (.cells #[.int .i64 p0, .int .i64 p1, .int .i64 p2, .int .i64 p3, .int .i64 p4, .string p5] 64)).alloc (.cells #[.int .i64 z0, .int .i64 z1, .int .i64 z2, .int .i64 z3, .int .i64 z4, .string z5] 64) = w4 := ⟨_, rfl⟩
            rw [hw4] at hb4 kp kz ⊢
            clear hw4 pc0 pc1 pc2 pc3 pc4 pc5 zc0 zc1 zc2 zc3 zc4 zc5
            have hc : ∀ W, Below w4.heap.size w4 W → W.cell? ⟨w.heap.size, 0, none⟩ = some (.int .i64 g0) ∧ W.cell? ⟨w.heap.size, 1, none⟩ = some (.int .i64 g1) ∧ W.cell? ⟨w.heap.size, 2, none⟩ = some (.int .i64 G2) ∧ W.cell? ⟨w.heap.size, 3, none⟩ = some (.int .i64 g3) ∧ W.cell? ⟨w.heap.size, 4, none⟩ = some (.int .i64 g4) ∧ W.cell? ⟨w.heap.size, 5, none⟩ = some (.int .i64 g5) ∧ W.cell? ⟨w.heap.size + 1, 0, none⟩ = some (.slice fA fn fc) ∧ W.cell? ⟨w.heap.size + 1, 1, none⟩ = some (.slice cA cn cc) ∧ W.cell? ⟨w.heap.size + 1, 2, none⟩ = some (.slice sA sn sc) ∧ W.cell? ⟨w.heap.size + 1, 3, none⟩ = some (.slice tA tn tc) ∧ W.cell? ⟨b, off + m * 3, none⟩ = some (.int .i64 bm) ∧ W.cell? ⟨b, off + m * 3 + 1, none⟩ = some (.bool bb) ∧ W.cell? ⟨b, off + m * 3 + 2, none⟩ = some (.slice (some ⟨pb, poff, none⟩) pn pcc) ∧ W.cell? ⟨wr.heap.size, 0, none⟩ = some (.int .i64 p0) ∧ W.cell? ⟨wr.heap.size, 1, none⟩ = some (.int .i64 p1) ∧ W.cell? ⟨wr.heap.size, 2, none⟩ = some (.int .i64 p2) ∧ W.cell? ⟨wr.heap.size, 3, none⟩ = some (.int .i64 p3) ∧ W.cell? ⟨wr.heap.size, 4, none⟩ = some (.int .i64 p4) ∧ W.cell? ⟨wr.heap.size, 5, none⟩ = some (.string p5) ∧ W.cell? ⟨wr.heap.size + 1, 0, none⟩ = some (.int .i64 z0) ∧ W.cell? ⟨wr.heap.size + 1, 1, none⟩ = some (.int .i64 z1) ∧ W.cell? ⟨wr.heap.size + 1, 2, none⟩ = some (.int .i64 z2) ∧ W.cell? ⟨wr.heap.size + 1, 3, none⟩ = some (.int .i64 z3) ∧ W.cell? ⟨wr.heap.size + 1, 4, none⟩ = some (.int .i64 z4) ∧ W.cell? ⟨wr.heap.size + 1, 5, none⟩ = some (.string z5) := fun W hW => by
              obtain ⟨q0, q1, q2, q3, q4, q5, r0, r1, r2, r3⟩ := HK.out W (below_tr hbw0 (below_tr hb4 hW))
              exact ⟨q0, q1, q2, q3, q4, q5, r0, r1, r2, r3, ((below_tr hb4 hW).cell (p := ⟨b, _, none⟩) hb).trans bc0, ((below_tr hb4 hW).cell (p := ⟨b, _, none⟩) hb).trans bc1, ((below_tr hb4 hW).cell (p := ⟨b, _, none⟩) hb).trans bc2, ((kp.below_ hW).cell 0).trans rfl, ((kp.below_ hW).cell 1).trans rfl, ((kp.below_ hW).cell 2).trans rfl, ((kp.below_ hW).cell 3).trans rfl, ((kp.below_ hW).cell 4).trans rfl, ((kp.below_ hW).cell 5).trans rfl, ((kz.below_ hW).cell 0).trans rfl, ((kz.below_ hW).cell 1).trans rfl, ((kz.below_ hW).cell 2).trans rfl, ((kz.below_ hW).cell 3).trans rfl, ((kz.below_ hW).cell 4).trans rfl, ((kz.below_ hW).cell 5).trans rfl⟩
            have hm4 := fun W (hW : Below w4.heap.size w4 W) => HMAY.out W (below_tr hbw (below_tr hb4 hW)) m ⟨bm, bb, ⟨some ⟨pb, poff, none⟩, pn, pcc⟩⟩ ⟨p0, ⟨p1, p2, p3, p4⟩, p5⟩
            have hr4 := fun W (hW : Below w4.heap.size w4 W) => HRMAY.out W (below_tr hbw (below_tr hb4 hW)) m ⟨bm, bb, ⟨some ⟨pb, poff, none⟩, pn, pcc⟩⟩ ⟨p0, ⟨p1, p2, p3, p4⟩, p5⟩
            have hl1 := fun a0 a1 a2 a3 b0 b1 b2 b3 W => HLESS.out ⟨a0, a1, a2, a3⟩ ⟨b0, b1, b2, b3⟩ W
            have hl3 := fun a0 a1 a2 a3 b0 b1 b2 b3 W => HRLESS.out ⟨a0, a1, a2, a3⟩ ⟨b0, b1, b2, b3⟩ W
            simp only [Bk.agg, Pg.agg, Tg.agg, Sv.v] at hm4 hr4 hl1 hl3
            generalize mayF g3 fl co m bm ⟨p0, ⟨p1, p2, p3, p4⟩, p5⟩ = T at hm4 hr4
            have HC := Lib.hid hc
            have HB4 := Lib.hid (below_tr HP.out hb4)
            have n1 := fun T W => eq_bool_same (P := Try.prog) T W Try.underlying4
            have HM4 := Lib.hid hm4
            clear hm4
            have HR4 := Lib.hid hr4
            clear hr4
            have HL1 := Lib.hid hl1
            clear hl1
            have HL3 := Lib.hid hl3
            clear hl3
            clear hc hb4 kp kz bc0 bc1 bc2 hbw hbw0 hb
            have e0 := fun p : Past w4 => (HC.out p.w p.h).1
            have e1 := fun p : Past w4 => (HC.out p.w p.h).2.1
            have e2 := fun p : Past w4 => (HC.out p.w p.h).2.2.1
            have e3 := fun p : Past w4 => (HC.out p.w p.h).2.2.2.1
            have e4 := fun p : Past w4 => (HC.out p.w p.h).2.2.2.2.1
            have e5 := fun p : Past w4 => (HC.out p.w p.h).2.2.2.2.2.1
            have e6 := fun p : Past w4 => (HC.out p.w p.h).2.2.2.2.2.2.1
            have e7 := fun p : Past w4 => (HC.out p.w p.h).2.2.2.2.2.2.2.1
            have e8 := fun p : Past w4 => (HC.out p.w p.h).2.2.2.2.2.2.2.2.1
            have e9 := fun p : Past w4 => (HC.out p.w p.h).2.2.2.2.2.2.2.2.2.1
            have e10 := fun p : Past w4 => (HC.out p.w p.h).2.2.2.2.2.2.2.2.2.2.1
            have e11 := fun p : Past w4 => (HC.out p.w p.h).2.2.2.2.2.2.2.2.2.2.2.1
            have e12 := fun p : Past w4 => (HC.out p.w p.h).2.2.2.2.2.2.2.2.2.2.2.2.1
            have e13 := fun p : Past w4 => (HC.out p.w p.h).2.2.2.2.2.2.2.2.2.2.2.2.2.1
            have e14 := fun p : Past w4 => (HC.out p.w p.h).2.2.2.2.2.2.2.2.2.2.2.2.2.2.1
            have e15 := fun p : Past w4 => (HC.out p.w p.h).2.2.2.2.2.2.2.2.2.2.2.2.2.2.2.1
            have e16 := fun p : Past w4 => (HC.out p.w p.h).2.2.2.2.2.2.2.2.2.2.2.2.2.2.2.2.1
            have e17 := fun p : Past w4 => (HC.out p.w p.h).2.2.2.2.2.2.2.2.2.2.2.2.2.2.2.2.2.1
            have e18 := fun p : Past w4 => (HC.out p.w p.h).2.2.2.2.2.2.2.2.2.2.2.2.2.2.2.2.2.2.1
            have e19 := fun p : Past w4 => (HC.out p.w p.h).2.2.2.2.2.2.2.2.2.2.2.2.2.2.2.2.2.2.2.1
            have e20 := fun p : Past w4 => (HC.out p.w p.h).2.2.2.2.2.2.2.2.2.2.2.2.2.2.2.2.2.2.2.2.1
            have e21 := fun p : Past w4 => (HC.out p.w p.h).2.2.2.2.2.2.2.2.2.2.2.2.2.2.2.2.2.2.2.2.2.1
            have e22 := fun p : Past w4 => (HC.out p.w p.h).2.2.2.2.2.2.2.2.2.2.2.2.2.2.2.2.2.2.2.2.2.2.1
            have e23 := fun p : Past w4 => (HC.out p.w p.h).2.2.2.2.2.2.2.2.2.2.2.2.2.2.2.2.2.2.2.2.2.2.2.1
            have e24 := fun p : Past w4 => (HC.out p.w p.h).2.2.2.2.2.2.2.2.2.2.2.2.2.2.2.2.2.2.2.2.2.2.2.2
            refine wp_region_quiet_past (by kernel_rfl) (by kernel_rfl) ?_
            repeat (refine qw_step (fun K_ hK_ => ?_); go_simp; first | (refine hK_ _ ?_; clear hK_ K_) | (apply Exists.intro; refine ⟨fun _ => ?_, hK_ _ ?_⟩; (first | (go_at_call 34; exact calls_past_of (HM4.out _ (Past.h _))) | (go_at_call 35; exact calls_past_of (HR4.out _ (Past.h _))) | (go_at_call 36; exact calls_past_of (HL1.out _ _ _ _ _ _ _ _ _)) | (go_at_call 37; exact calls_past_of (HL3.out _ _ _ _ _ _ _ _ _))); clear hK_ K_) | (rw [if_pos (by first | assumption | omega)]; first | (refine hK_ _ ?_; clear hK_ K_) | (apply Exists.intro; refine ⟨fun _ => ?_, hK_ _ ?_⟩; (first | (go_at_call 34; exact calls_past_of (HM4.out _ (Past.h _))) | (go_at_call 35; exact calls_past_of (HR4.out _ (Past.h _))) | (go_at_call 36; exact calls_past_of (HL1.out _ _ _ _ _ _ _ _ _)) | (go_at_call 37; exact calls_past_of (HL3.out _ _ _ _ _ _ _ _ _))); clear hK_ K_)) | (rw [if_neg (by first | assumption | omega)]; first | (refine hK_ _ ?_; clear hK_ K_) | (apply Exists.intro; refine ⟨fun _ => ?_, hK_ _ ?_⟩; (first | (go_at_call 34; exact calls_past_of (HM4.out _ (Past.h _))) | (go_at_call 35; exact calls_past_of (HR4.out _ (Past.h _))) | (go_at_call 36; exact calls_past_of (HL1.out _ _ _ _ _ _ _ _ _)) | (go_at_call 37; exact calls_past_of (HL3.out _ _ _ _ _ _ _ _ _))); clear hK_ K_)))
            refine qw_nil ?_
            intro WQ hw_
            obtain ⟨p_, hp_⟩ := hw_
            have HQ := p_.h
            rw [← hp_] at HQ
            clear hp_ p_
            have HB7 := Lib.hid (below_tr HB4.out HQ)
            clear HQ n1 e0 e1 e2 e3 e4 e5 e6 e7 e8 e9 e10 e11 e12 e13 e14 e15 e16 e17 e18 e19 e20 e21 e22 e23 e24
            go_wp2
            go_roundw
            case rel => exact ⟨t + 1, _, HX.out, by simp; omega, by go_num, HB7⟩
            case measure => simp [intOf]; omega
          · have hge : ¬ (t : Int) < (pn : Int) := by omega
            clear hpgs hbw hbw0
            go_wp2
            go_roundw
            case rel => exact ⟨m + 1, by omega, by go_num, HP⟩
            case measure => simp [intOf]; omega
      · have hge : ¬ (m : Int) < (n : Int) := by omega
        have hT := HT.out.below_ (below_tr HB6.out H.out)
        have sp1 := spoilAddrs_any A1 g3.toNat c1 w1.heap.size _ wr (by omega) hT.a
        have sp2 := fun W (hW : wr.grownBy W (Value.slice A1 g3.toNat c1).ownBlock) => spoilInts_any B1 g3.toNat d1 w1.heap.size _ W (by omega) (hT.i.kept hW hT.ne)
        have hbr := below_tr HB0.out (below_tr HB2.out (below_tr HB6.out H.out))
        have hba : ∀ q, (Value.slice A1 g3.toNat c1).ownBlock = some q → w.heap.size ≤ q := fun q e => Nat.le_trans (below_tr HB0.out HB1.out).size (own_base hT.a q e)
        have hbi : ∀ q, (Value.slice B1 g3.toNat d1).ownBlock = some q → w.heap.size ≤ q := fun q e => Nat.le_trans (below_tr HB0.out HB1.out).size (own_base hT.i q e)
        have SP1 := Lib.hid sp1
        clear sp1
        have SP2 := Lib.hid sp2
        clear sp2
        have HBR := Lib.hid hbr
        clear hbr
        have HBA := Lib.hid hba
        clear hba
        have HBI := Lib.hid hbi
        clear hbi
        clear hT
        go_wp2_with fail
        refine SP1.out.mono ?_
        rintro e w8 ⟨⟨vv, rfl⟩, hg8⟩
        have HG8 := Lib.hid hg8
        clear hg8
        go_wp2_with fail
        refine (SP2.out w8 HG8.out).mono ?_
        rintro e w9 ⟨⟨vv2, rfl⟩, hg9⟩
        have HG9 := Lib.hid hg9
        clear hg9
        go_wp2_with fail
        refine (none_any w9).mono ?_
        rintro e w10 ⟨rfl, hb10⟩
        simp only [Ad.agg]
        have he := fun W => eqAddr (-1) 0 0 (-1) 0 0 W
        simp only [beq_self_eq_true, Bool.and_self] at he
        have HB10 := Lib.hid hb10
        clear hb10
        go_wp2_with fail
        refine (works17_any _).mono ?_
        rintro e w11 ⟨rfl, hb11⟩
        have hend : Below w.heap.size w w11 := below_tr (((HBR.out.grown HG8.out HBR.out.size HBA.out).grown HG9.out (Nat.le_trans HBR.out.size HG8.out.size) HBI.out).trans (HB10.out.mono (Nat.le_trans (Nat.le_trans HBR.out.size HG8.out.size) HG9.out.size))) hb11
        have HEND := Lib.hid hend
        clear hend
        clear hb11
        go_wp2
        go_ret
        exact ⟨rfl, HEND.out⟩
#print axioms maps_walk
end Go.Proofs.Ytdjfkehbknbocaa

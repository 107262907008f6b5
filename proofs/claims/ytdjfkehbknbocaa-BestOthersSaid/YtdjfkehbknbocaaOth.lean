/- The walk of the law BestOthers. -/
import Derived.Test.YtdjfkehbknbocaaOthQ
import Derived.Test.YtdjfkehbknbocaaMaps
import Derived.Deep.Cut
namespace Go.Proofs.Ytdjfkehbknbocaa
open Go.RowKit
set_option linter.unusedSimpArgs false
set_option linter.unusedVariables false

theorem info_page : (Try.prog.info? 64).map (fun i => (i.zero, i.size, i.bytes)) = some (some (.agg #[.int .i64 0, .int .i64 0, .int .i64 0, .int .i64 0, .int .i64 0, .string ⟨#[]⟩]), 6, 56) := by kernel_rfl
theorem info_blk17 : (Try.prog.info? 60).map (fun i => (i.zero, i.size, i.bytes)) = some (some (.agg #[.int .i64 0, .bool false, .slice none 0 0]), 3, 40) := by kernel_rfl
set_option maxRecDepth 100000 in
set_option maxHeartbeats 40000000 in
theorem oth_walk (A : Option Addr) (n c : Nat) (bs : List Bl) (ep : Int) (w : World) (hA : Sl eBl 3 w A n bs) (hD : Deep w bs) :
    Calls Try.prog 12 #[.slice A n c, .int .i64 ep] w fun e w' => e = .returned (.bool true) ∧ Below w.heap.size w w' := by
  have hlen := hA.len
  have hfew := fun W (hW : Below w.heap.size w W) => few_any ⟨8, 6, 64, 4, 0, 4⟩ A n c (bs.map (·.b)) W (hA.below hW).bk (by intro b hb; obtain ⟨x, hx, rfl⟩ := List.mem_map.1 hb; exact (hD x hx).big)
  have hspec := fewF_spec (lbas := 4) hD
  have hmap := fun s fl co A n c bs W (hf : Sl eInt 1 W s.f.A s.f.n fl) (hc : Sl eInt 1 W s.c.A s.c.n co) (hA : Sl eBl 3 W A n bs) (hD : Deep W bs) hn hpp => map_any ⟨8, 6, 64, 4, 0, 4⟩ s fl co A n c bs W hf hc hA hD (by decide) hn hpp
  have hmay := fun s fl co block b p w hf hc => may_any ⟨8, 6, 64, 4, 0, 4⟩ s fl co block b p w hf hc
  generalize fewF (Geo.lbas ⟨8, 6, 64, 4, 0, 4⟩) (bs.map (·.b)) = FW at hfew hspec
  simp only [Geo.agg] at hfew hmap hspec hmay ⊢
  have HA := Lib.hid (And.intro hA hD)
  have HFEW := Lib.hid hfew
  clear hfew
  have HMAP := Lib.hid hmap
  clear hmap
  have HSPEC := Lib.hid hspec
  clear hspec
  have HMAY := Lib.hid hmay
  clear hmay
  clear hA hD
  go_enter Try.func12, Try.ntmps12
  go_wp2_with fail
  refine (works17_any w).mono ?_
  rintro e w1 ⟨rfl, hb1⟩
  go_wp2_with fail
  refine (geo17_any w1).mono ?_
  rintro e w2 ⟨rfl, hb2⟩
  simp only [Geo.agg]
  go_wp2_with fail
  refine (HFEW.out w2 (below_tr hb1 hb2)).mono ?_
  rintro e w3 ⟨rfl, hb3⟩
  have HB3 := Lib.hid (below_tr (below_tr hb1 hb2) hb3)
  clear hb1 hb2 hb3
  cases FW with
  | false =>
    go_wp2
    go_ret
    exact ⟨rfl, HB3.out⟩
  | true =>
    obtain ⟨-, hn, hpp⟩ := HSPEC.out (by simp)
    rw [hlen] at hn
    by_cases hep : ep < 1
    · go_wp2
      go_ret
      exact ⟨rfl, HB3.out⟩
    · have hmk := fun W => makeI_run n (by omega) ep W
      go_wp2_with fail
      clear hmk
      go_loopw [33] (fun u wr => ∃ k : Nat, k ≤ n ∧ u = .int .i64 k ∧ Hid (Blk wr w3.heap.size 3 (eList eInt (cmt n k ep)).toArray ∧ Below w3.heap.size w3 wr)) (fun u _ => n - (intOf u).toNat)
      case atStart => exact ⟨0, Nat.zero_le _, rfl, Blk.new w3 _ _, (Below.refl _ w3).alloc (Nat.le_refl _) _⟩
      case round =>
        obtain ⟨k, hk, rfl, H⟩ := hrel
        by_cases hlt : k < n
        · have hlt' : (k : Int) < (n : Int) := by omega
          have f0 := (H.out.1.cell k).trans (show _ = some (Value.int .i64 0) by rw [List.getElem?_toArray, eInts_get _ _ _ (cmt_get hlt)]; simp)
          have ff := H.out.1.frozen k
          have hblk := H.out.1.set_ k (.int .i64 ep)
          have hset : (eList eInt (cmt n k ep)).toArray.setIfInBounds k (.int .i64 ep) = (eList eInt (cmt n (k + 1) ep)).toArray := by
            rw [← cmt_set, ← eInts_set, List.setIfInBounds_toArray]
          rw [hset] at hblk
          have HN := Lib.hid (And.intro hblk (H.out.2.setCell (p := ⟨w3.heap.size, k, none⟩) (Nat.le_refl _) (.int .i64 ep)))
          clear hblk hset H
          go_wp2
          go_roundw
          case rel => exact ⟨k + 1, by omega, by go_num, HN.out⟩
          case measure => simp [intOf]; omega
        · have hkn : k = n := by omega
          have hlt' : ¬ (n : Int) < (n : Int) := by omega
          subst hkn
          obtain ⟨wc, rfl⟩ : ∃ wc : World, wc = wr := ⟨_, rfl⟩
          obtain ⟨kC, hbc⟩ := H.out
          rw [cmt_full] at kC
          have hslc : Sl eInt 1 wc (some ⟨w3.heap.size, 0, none⟩) k (List.replicate k ep) := Sl.of_blk (enc := eInt) (k := 1) (fun _ => rfl) kC rfl (by simp) (by omega)
          have hwc := below_tr HB3.out hbc
          have hb6 : Below wc.heap.size wc (wc.alloc (.cells #[.slice none 0 0, .slice (some ⟨w3.heap.size, 0, none⟩) k k, .slice none 0 0, .slice none 0 0] 50)) := (Below.refl _ wc).alloc (Nat.le_refl _) _
          have kS := Blk.new wc 50 #[.slice none 0 0, .slice (some ⟨w3.heap.size, 0, none⟩) k k, .slice none 0 0, .slice none 0 0]
          have hl6 : wc.heap.size < (wc.alloc (.cells #[.slice none 0 0, .slice (some ⟨w3.heap.size, 0, none⟩) k k, .slice none 0 0, .slice none 0 0] 50)).heap.size := by simp
          go_wp2_with fail
          obtain ⟨w6, hw6⟩ : ∃ w6, wc.alloc (.cells #[.slice none 0 0, .slice (some ⟨w3.heap.size, 0, none⟩) k k, .slice none 0 0, .slice none 0 0] 50) = w6 := ⟨_, rfl⟩
          rw [hw6] at hb6 kS hl6 ⊢
          clear hw6
          obtain ⟨SB, hSB⟩ : ∃ SB, wc.heap.size = SB := ⟨_, rfl⟩
          rw [hSB] at kS hl6 ⊢
          obtain ⟨CB, hCB⟩ : ∃ CB, w3.heap.size = CB := ⟨_, rfl⟩
          rw [hCB] at kS hslc ⊢
          have hwb := below_tr hwc hb6
          have HW6 := Lib.hid hwb
          have HS := Lib.hid (fun W (hW : Below w6.heap.size w6 W) => And.intro (((kS.below_ hW).cell 0).trans rfl : W.cell? ⟨SB, 0, none⟩ = some (.slice none 0 0)) (And.intro (((kS.below_ hW).cell 1).trans rfl : W.cell? ⟨SB, 1, none⟩ = some (.slice (some ⟨CB, 0, none⟩) k k)) (And.intro (((kS.below_ hW).cell 2).trans rfl : W.cell? ⟨SB, 2, none⟩ = some (.slice none 0 0)) (((kS.below_ hW).cell 3).trans rfl : W.cell? ⟨SB, 3, none⟩ = some (.slice none 0 0)))))
          have HCO := Lib.hid (fun W (hW : Below w6.heap.size w6 W) => (hslc.below hb6).below hW)
          have HAD := Lib.hid (fun W (hW : Below w6.heap.size w6 W) => And.intro (HA.out.1.below (below_tr hwb hW)) (HA.out.2.below (below_tr hwb hW)))
          clear hSB hCB kS hslc hwc hb6 kC hbc hwb H HA HB3 HFEW HSPEC
          go_loopw [5, 45] (fun v u wr => ∃ (q : Nat) (A' : Option Addr) (c' : Nat) (ls : List Bl), q ≤ k ∧ u = .int .i64 q ∧ v = .slice A' q c' ∧ Hid (Oth (List.replicate k ep) (bs.take q) ls ∧ wr.ownsRow w6.heap.size 60 3 (.slice A' q c') q (eList eBl ls) ∧ DeepO w6.heap.size wr ls ∧ Below w6.heap.size w6 wr)) (fun _ u _ => k - (intOf u).toNat)
          case atStart => exact ⟨0, none, 0, [], Nat.zero_le _, rfl, rfl, oth_nil _ _, World.ownsRow_nil _ _ _ _, (fun x hx => by cases hx), Below.refl _ _⟩
          case round =>
            obtain ⟨q, A', c', ls, hq, rfl, rfl, H⟩ := hrel
            by_cases hqk : q < k
            · have hqk' : (q : Int) < (k : Int) := by omega
              have hsz6 := H.out.2.2.2.size
              obtain ⟨hA0, hD0⟩ := HAD.out wr H.out.2.2.2
              obtain ⟨b, off, x, hAe, hb, hx, hcb⟩ := hA0.get_ hqk
              subst hAe
              have hxm := List.mem_of_getElem? hx
              have hpg := fun W (hW : Below wr.heap.size wr W) => (hD0 x hxm).below hW
              have hp80 := hpp x hxm
              obtain ⟨⟨bm, bb, ⟨pA, pn, pcc⟩⟩, pages⟩ := x
              have bc0 := hcb 0 _ rfl
              have bc1 := hcb 1 _ rfl
              have bc2 := hcb 2 _ rfl
              simp only [Nat.add_zero] at bc0
              simp only [Sv.v] at bc0 bc1 bc2
              simp only at hpg hp80
              have hpl := (hpg wr (Below.refl _ _)).len
              have HX := Lib.hid hx
              have HPG := Lib.hid hpg
              have HPL := Lib.hid hpl
              clear hcb hx hxm hA0 hD0 hpg hpl hb
              have hbx := ((Below.refl wr.heap.size wr).alloc (Nat.le_refl _) (.cells #[.int .i64 bm, .bool bb, .slice pA pn pcc] 60)).alloc (by simp) (.cells #[.int .i64 bm, .bool bb, .slice none 0 0] 60)
              have kB := (Blk.new wr 60 #[.int .i64 bm, .bool bb, .slice pA pn pcc]).alloc (.cells #[.int .i64 bm, .bool bb, .slice none 0 0] 60)
              have kT := Blk.new1 wr (.cells #[.int .i64 bm, .bool bb, .slice pA pn pcc] 60) 60 #[.int .i64 bm, .bool bb, .slice none 0 0]
              have hs8 : ((wr.alloc (.cells #[.int .i64 bm, .bool bb, .slice pA pn pcc] 60)).alloc (.cells #[.int .i64 bm, .bool bb, .slice none 0 0] 60)).heap.size = wr.heap.size + 2 := by simp
              go_wp2_with fail
              obtain ⟨w8, hw8⟩ : ∃ w8, (wr.alloc (.cells #[.int .i64 bm, .bool bb, .slice pA pn pcc] 60)).alloc (.cells #[.int .i64 bm, .bool bb, .slice none 0 0] 60) = w8 := ⟨_, rfl⟩
              rw [hw8] at hbx kB kT hs8 ⊢
              clear hw8
              obtain ⟨wo, rfl⟩ : ∃ wo : World, wo = wr := ⟨_, rfl⟩
              obtain ⟨B, hB⟩ : ∃ B, wo.heap.size = B := ⟨_, rfl⟩
              rw [hB] at kB kT hs8 hsz6 ⊢
              have HBX := Lib.hid hbx
              have HKB := Lib.hid kB
              have HBB := Lib.hid hB
              have HKT := Lib.hid (And.intro kT (Below.refl (B + 1) w8))
              clear kB kT hbx bc0 bc1 bc2 hB
              go_loopw [58] (fun u wr => ∃ j : Nat, j ≤ pn ∧ u = .int .i64 j ∧ Hid (∃ pA' pc', Blk wr (B + 1) 60 #[.int .i64 bm, .bool bb, .slice pA' j pc'] ∧ wr.ownsRow (B + 2) 64 6 (.slice pA' j pc') j (eList ePg ((pages.take j).map (othPg (List.replicate k ep) q bm))) ∧ Below (B + 1) w8 wr)) (fun u _ => pn - (intOf u).toNat)
              case atStart => exact ⟨0, Nat.zero_le _, rfl, none, 0, HKT.out.1, World.ownsRow_nil _ _ _ _, HKT.out.2⟩
              case round =>
                obtain ⟨j, hj, rfl, HJ⟩ := hrel
                obtain ⟨pA', pc', kT, hrow, hbj⟩ := HJ.out
                have hszj := hbj.size
                have hbj0 : Below wo.heap.size wo wr := HBX.out.trans (hbj.mono (by have := HBB.out; omega))
                have hbj6 : Below w6.heap.size w6 wr := H.out.2.2.2.trans (hbj0.mono (by have := HBB.out; omega))
                have kB := HKB.out.below hbj (by omega)
                clear HJ
                by_cases hjn : j < pn
                · have hjn' : (j : Int) < (pn : Int) := by omega
                  obtain ⟨b', off', p, rfl, hb', hp, hcp⟩ := (HPG.out wr hbj0).get_ hjn
                  have HP := Lib.hid hp
                  obtain ⟨pw, ⟨pk, plb, psq, pe⟩, pd⟩ := p
                  have pc0 := hcp 0 _ rfl
                  have pc1 := hcp 1 _ rfl
                  have pc2 := hcp 2 _ rfl
                  have pc3 := hcp 3 _ rfl
                  have pc4 := hcp 4 _ rfl
                  have pc5 := hcp 5 _ rfl
                  simp only [Nat.add_zero] at pc0
                  clear hcp hp hb'
                  have kP := Blk.new wr 64 #[.int .i64 pw, .int .i64 pk, .int .i64 plb, .int .i64 psq, .int .i64 pe, .string pd]
                  have hb9 : Below wr.heap.size wr (wr.alloc (.cells #[.int .i64 pw, .int .i64 pk, .int .i64 plb, .int .i64 psq, .int .i64 pe, .string pd] 64)) := (Below.refl _ wr).alloc (Nat.le_refl _) _
                  have hs9 : (wr.alloc (.cells #[.int .i64 pw, .int .i64 pk, .int .i64 plb, .int .i64 psq, .int .i64 pe, .string pd] 64)).heap.size = wr.heap.size + 1 := by simp
                  obtain ⟨w9, hw9⟩ : ∃ w9, wr.alloc (.cells #[.int .i64 pw, .int .i64 pk, .int .i64 plb, .int .i64 psq, .int .i64 pe, .string pd] 64) = w9 := ⟨_, rfl⟩
                  rw [hw9] at kP hb9 hs9
                  have HW9 := Lib.hid hw9
                  clear hw9
                  have HKW := Lib.hid (And.intro kB (And.intro kT (And.intro hrow (And.intro hbj hbj0))))
                  have HB9 := Lib.hid hb9
                  have kB9 := kB.below_ hb9
                  have kT9 := kT.below_ hb9
                  have hrow9 := own_below hrow hb9
                  have hbj9 := hbj.trans (hb9.mono (by omega))
                  have hb69 := below_tr hbj6 hb9
                  obtain ⟨wq, rfl⟩ : ∃ wq : World, wq = wr := ⟨_, rfl⟩
                  obtain ⟨G, hG⟩ : ∃ G, wq.heap.size = G := ⟨_, rfl⟩
                  rw [hG] at kP hs9
                  have HK := Lib.hid (And.intro kB9 (And.intro kT9 (And.intro kP (And.intro hrow9 (And.intro hbj9 hb69)))))
                  clear kB9 kT9 kP hrow9 hbj9 hb69 kB kT hrow hbj hb9 hbj0 hbj6
                  have t0 := fun p : Past w9 => (HS.out p.w (below_tr HK.out.2.2.2.2.2 p.h)).1
                  have t1 := fun p : Past w9 => (HS.out p.w (below_tr HK.out.2.2.2.2.2 p.h)).2.1
                  have t2 := fun p : Past w9 => (HS.out p.w (below_tr HK.out.2.2.2.2.2 p.h)).2.2.1
                  have t3 := fun p : Past w9 => (HS.out p.w (below_tr HK.out.2.2.2.2.2 p.h)).2.2.2
                  have x0 := fun p : Past w9 => ((HK.out.1.below_ p.h).cell 0).trans rfl
                  have x1 := fun p : Past w9 => ((HK.out.1.below_ p.h).cell 1).trans rfl
                  have x2 := fun p : Past w9 => ((HK.out.1.below_ p.h).cell 2).trans rfl
                  have y0 := fun p : Past w9 => ((HK.out.2.2.1.below_ p.h).cell 0).trans rfl
                  have y1 := fun p : Past w9 => ((HK.out.2.2.1.below_ p.h).cell 1).trans rfl
                  have y2 := fun p : Past w9 => ((HK.out.2.2.1.below_ p.h).cell 2).trans rfl
                  have y3 := fun p : Past w9 => ((HK.out.2.2.1.below_ p.h).cell 3).trans rfl
                  have y4 := fun p : Past w9 => ((HK.out.2.2.1.below_ p.h).cell 4).trans rfl
                  have y5 := fun p : Past w9 => ((HK.out.2.2.1.below_ p.h).cell 5).trans rfl
                  have hm9 := fun W (hW : Below w9.heap.size w9 W) => HMAY.out ⟨noSv, ⟨some ⟨CB, 0, none⟩, k, k⟩, noSv, noSv⟩ [] (List.replicate k ep) q ⟨bm, bb, ⟨some ⟨b', off', none⟩, pn, pcc⟩⟩ ⟨pw, ⟨pk, plb, psq, pe⟩, pd⟩ W (Sl.nil _) (HCO.out W (below_tr HK.out.2.2.2.2.2 hW))
                  simp only [St.agg, Sv.v, Bk.agg, Pg.agg, noSv] at hm9
                  obtain ⟨T, hT⟩ : ∃ T, mayF (Geo.lbas ⟨8, 6, 64, 4, 0, 4⟩) [] (List.replicate k ep) q bm ⟨pw, ⟨pk, plb, psq, pe⟩, pd⟩ = T := ⟨_, rfl⟩
                  rw [hT] at hm9
                  have HT := Lib.hid hT
                  have HM := Lib.hid hm9
                  clear hT hm9
                  go_upto_region 20 with fail
                  rw [HW9.out]
                  try rw [hG]
                  refine wp_region_quiet_past (by kernel_rfl) (by kernel_rfl) ?_
                  repeat (refine qw_step (fun K_ hK_ => ?_); go_simp; first | (refine hK_ _ ?_; clear hK_ K_) | (apply Exists.intro; refine ⟨fun _ => ?_, hK_ _ ?_⟩; (first | (go_at_call 41; exact calls_past_of (geo17_any _)) | (go_at_call 34; exact calls_past_of (HM.out _ (Past.h _)))); clear hK_ K_) | (rw [if_pos (by first | assumption | omega)]; first | (refine hK_ _ ?_; clear hK_ K_) | (apply Exists.intro; refine ⟨fun _ => ?_, hK_ _ ?_⟩; (first | (go_at_call 41; exact calls_past_of (geo17_any _)) | (go_at_call 34; exact calls_past_of (HM.out _ (Past.h _)))); clear hK_ K_)) | (rw [if_neg (by first | assumption | omega)]; first | (refine hK_ _ ?_; clear hK_ K_) | (apply Exists.intro; refine ⟨fun _ => ?_, hK_ _ ?_⟩; (first | (go_at_call 41; exact calls_past_of (geo17_any _)) | (go_at_call 34; exact calls_past_of (HM.out _ (Past.h _)))); clear hK_ K_)))
                  refine qw_nil ?_
                  intro WQ hw_
                  obtain ⟨p_, hp_⟩ := hw_
                  have HQ := p_.h
                  rw [← hp_] at HQ
                  clear hp_ p_
                  have HQ0 := Lib.hid HQ
                  clear HQ t0 t1 t2 t3 x0 x1 x2 y0 y1 y2 y3 y4 y5
                  obtain ⟨h1, h2, h3, h4, h5, h6⟩ := HK.out
                  have kP := h3.below_ HQ0.out
                  have hszq := HQ0.out.size
                  have hbq : Below wq.heap.size wq WQ := below_tr HB9.out HQ0.out
                  clear h1 h2 h3 h4 h5 h6 HK
                  cases T with
                  | false =>
                    have g0 := (kP.cell 0).trans rfl
                    have g1 := (kP.cell 1).trans rfl
                    have g2 := (kP.cell 2).trans rfl
                    have g3 := (kP.cell 3).trans rfl
                    have g4 := (kP.cell 4).trans rfl
                    have g5 := (kP.cell 5).trans rfl
                    have gf := kP.frozen
                    have HOT := Lib.hid (show othPg (List.replicate k ep) q bm ⟨pw, ⟨pk, plb, psq, pe⟩, pd⟩ = badPg by unfold othPg; rw [if_neg (by rw [show mayF 4 [] (List.replicate k ep) q bm ⟨pw, ⟨pk, plb, psq, pe⟩, pd⟩ = false from HT.out]; simp)])
                    have HKP := Lib.hid kP
                    have HBQ := Lib.hid hbq
                    clear kP hbq
                    go_upto_region 24 with fail
                    clear g0 g1 g2 g3 g4 g5 gf
                    have kP := HKP.out
                    have hbq := HBQ.out
                    have hbx : Below wq.heap.size wq ((((((WQ.setCell ⟨G, 0, none⟩ (.int .i64 4)).setCell ⟨G, 1, none⟩ (.int .i64 0)).setCell ⟨G, 2, none⟩ (.int .i64 0)).setCell ⟨G, 3, none⟩ (.int .i64 0)).setCell ⟨G, 4, none⟩ (.int .i64 0)).setCell ⟨G, 5, none⟩ (.string ⟨#[]⟩)) := ((((((hbq.setCell (p := ⟨G, 0, none⟩) (by simp only; omega) _).setCell (p := ⟨G, 1, none⟩) (by simp only; omega) _).setCell (p := ⟨G, 2, none⟩) (by simp only; omega) _).setCell (p := ⟨G, 3, none⟩) (by simp only; omega) _).setCell (p := ⟨G, 4, none⟩) (by simp only; omega) _).setCell (p := ⟨G, 5, none⟩) (by simp only; omega) _)
                    have kP : Blk ((((((WQ.setCell ⟨G, 0, none⟩ (.int .i64 4)).setCell ⟨G, 1, none⟩ (.int .i64 0)).setCell ⟨G, 2, none⟩ (.int .i64 0)).setCell ⟨G, 3, none⟩ (.int .i64 0)).setCell ⟨G, 4, none⟩ (.int .i64 0)).setCell ⟨G, 5, none⟩ (.string ⟨#[]⟩)) G 64 #[.int .i64 4, .int .i64 0, .int .i64 0, .int .i64 0, .int .i64 0, .string ⟨#[]⟩] := ((((((kP.set_ 0 _).set_ 1 _).set_ 2 _).set_ 3 _).set_ 4 _).set_ 5 _)
                    clear HKP HBQ hbq
                    obtain ⟨WX, hWX⟩ : ∃ WX, ((((((WQ.setCell ⟨G, 0, none⟩ (.int .i64 4)).setCell ⟨G, 1, none⟩ (.int .i64 0)).setCell ⟨G, 2, none⟩ (.int .i64 0)).setCell ⟨G, 3, none⟩ (.int .i64 0)).setCell ⟨G, 4, none⟩ (.int .i64 0)).setCell ⟨G, 5, none⟩ (.string ⟨#[]⟩)) = WX := ⟨_, rfl⟩
                    rw [hWX] at hbx kP ⊢
                    have HWX := Lib.hid hbx
                    clear hWX hbx
                    have hj80 : j < 80 := by have := HPL.out; omega
                    have kT := HKW.out.2.1.below_ HWX.out
                    have hrow := own_below HKW.out.2.2.1 HWX.out
                    have hbj := HKW.out.2.2.2.1.trans (HWX.out.mono (by omega))
                    have hsx := HWX.out.size
                    have z2 := (kT.cell 2).trans rfl
                    have g0 := (kP.cell 0).trans rfl
                    have g1 := (kP.cell 1).trans rfl
                    have g2 := (kP.cell 2).trans rfl
                    have g3 := (kP.cell 3).trans rfl
                    have g4 := (kP.cell 4).trans rfl
                    have g5 := (kP.cell 5).trans rfl
                    have HO := Lib.hid (And.intro (hrow.alloc (.cells #[.int .i64 4, .int .i64 0, .int .i64 0, .int .i64 0, .int .i64 0, .string ⟨#[]⟩] 64)) (And.intro (kT.alloc (.cells #[.int .i64 4, .int .i64 0, .int .i64 0, .int .i64 0, .int .i64 0, .string ⟨#[]⟩] 64)) (hbj.alloc (by omega) (.cells #[.int .i64 4, .int .i64 0, .int .i64 0, .int .i64 0, .int .i64 0, .string ⟨#[]⟩] 64))))
                    clear kT kP hrow hbj
                    go_wp2_with (first | (at_builtin; refine wpList_app rfl (.tmp 81) (.tmp 83) 58 rfl Try.underlying58 info_page rfl (by omega) (by omega) rfl HO.out.1 rfl (Blk.new WX _ _) rfl (by simp [Value.oneCell']) (by omega) (by rw [World.size_alloc]; omega) ?_; intro g cap w11 hown hg hor hlt; go_must (have kT11 := HO.out.2.1.grown hg (fun e => by have := own_base HO.out.1 _ e.symm; omega); have zc := (kT11.cell 2).trans rfl; have zf := kT11.frozen 2; have HK11 := Lib.hid kT11; clear kT11)))
                    have hb11 := HO.out.2.2.grown hg (by rw [World.size_alloc]; omega) (fun k hk => by have := own_base HO.out.1 k hk; omega)
                    have hown' := ownsRow_setCell_below hown (a := ⟨B + 1, 2, none⟩) (by simp only; omega) (.slice (some ⟨g, 0, none⟩) (j + 1) cap)
                    have HE : Hid (∃ pA' pc', Blk (w11.setCell ⟨B + 1, 2, none⟩ (.slice (some ⟨g, 0, none⟩) (j + 1) cap)) (B + 1) 60 #[.int .i64 bm, .bool bb, .slice pA' (j + 1) pc'] ∧ (w11.setCell ⟨B + 1, 2, none⟩ (.slice (some ⟨g, 0, none⟩) (j + 1) cap)).ownsRow (B + 2) 64 6 (.slice pA' (j + 1) pc') (j + 1) (eList ePg ((pages.take (j + 1)).map (othPg (List.replicate k ep) q bm))) ∧ Below (B + 1) w8 (w11.setCell ⟨B + 1, 2, none⟩ (.slice (some ⟨g, 0, none⟩) (j + 1) cap))) :=
                      ⟨some ⟨g, 0, none⟩, cap, HK11.out.set_ 2 _, by rw [pg_snoc HP.out, HOT.out]; exact hown', hb11.setCell (p := ⟨B + 1, 2, none⟩) (Nat.le_refl _) _⟩
                    clear hown hg hor hlt hb11 hown' zc zf
                    go_wp2
                    go_roundw
                    case rel => exact ⟨j + 1, by omega, by go_num, HE.out⟩
                    case measure => simp [intOf]; omega
                  | true =>
                    have HOT := Lib.hid (show othPg (List.replicate k ep) q bm ⟨pw, ⟨pk, plb, psq, pe⟩, pd⟩ = ⟨pw, ⟨pk, plb, psq, pe⟩, pd⟩ by unfold othPg; rw [if_pos HT.out])
                    have bq0 := ((HKW.out.1.below_ hbq).cell 0).trans rfl
                    have ge := (kP.cell 4).trans rfl
                    by_cases e2 : (bm == 2) = true
                    · have hpe : (pe != ep) = false := by
                        have h0 := HT.out
                        have e3 : bm = 2 := by simpa using e2
                        rw [e3] at h0
                        have := may_epoch h0
                        simp only at this
                        rw [this]
                        simp
                      go_upto_region 24 with fail
                      clear bq0 ge hpe e2
                      obtain ⟨WX, rfl⟩ : ∃ WX : World, WX = WQ := ⟨_, rfl⟩
                      have HWX := Lib.hid hbq
                      clear hbq
                      have hj80 : j < 80 := by have := HPL.out; omega
                      have kT := HKW.out.2.1.below_ HWX.out
                      have hrow := own_below HKW.out.2.2.1 HWX.out
                      have hbj := HKW.out.2.2.2.1.trans (HWX.out.mono (by omega))
                      have hsx := HWX.out.size
                      have z2 := (kT.cell 2).trans rfl
                      have g0 := (kP.cell 0).trans rfl
                      have g1 := (kP.cell 1).trans rfl
                      have g2 := (kP.cell 2).trans rfl
                      have g3 := (kP.cell 3).trans rfl
                      have g4 := (kP.cell 4).trans rfl
                      have g5 := (kP.cell 5).trans rfl
                      have HO := Lib.hid (And.intro (hrow.alloc (.cells #[.int .i64 pw, .int .i64 pk, .int .i64 plb, .int .i64 psq, .int .i64 pe, .string pd] 64)) (And.intro (kT.alloc (.cells #[.int .i64 pw, .int .i64 pk, .int .i64 plb, .int .i64 psq, .int .i64 pe, .string pd] 64)) (hbj.alloc (by omega) (.cells #[.int .i64 pw, .int .i64 pk, .int .i64 plb, .int .i64 psq, .int .i64 pe, .string pd] 64))))
                      clear kT kP hrow hbj
                      go_wp2_with (first | (at_builtin; refine wpList_app rfl (.tmp 81) (.tmp 83) 58 rfl Try.underlying58 info_page rfl (by omega) (by omega) rfl HO.out.1 rfl (Blk.new WX _ _) rfl (by simp [Value.oneCell']) (by omega) (by rw [World.size_alloc]; omega) ?_; intro g cap w11 hown hg hor hlt; go_must (have kT11 := HO.out.2.1.grown hg (fun e => by have := own_base HO.out.1 _ e.symm; omega); have zc := (kT11.cell 2).trans rfl; have zf := kT11.frozen 2; have HK11 := Lib.hid kT11; clear kT11)))
                      have hb11 := HO.out.2.2.grown hg (by rw [World.size_alloc]; omega) (fun k hk => by have := own_base HO.out.1 k hk; omega)
                      have hown' := ownsRow_setCell_below hown (a := ⟨B + 1, 2, none⟩) (by simp only; omega) (.slice (some ⟨g, 0, none⟩) (j + 1) cap)
                      have HE : Hid (∃ pA' pc', Blk (w11.setCell ⟨B + 1, 2, none⟩ (.slice (some ⟨g, 0, none⟩) (j + 1) cap)) (B + 1) 60 #[.int .i64 bm, .bool bb, .slice pA' (j + 1) pc'] ∧ (w11.setCell ⟨B + 1, 2, none⟩ (.slice (some ⟨g, 0, none⟩) (j + 1) cap)).ownsRow (B + 2) 64 6 (.slice pA' (j + 1) pc') (j + 1) (eList ePg ((pages.take (j + 1)).map (othPg (List.replicate k ep) q bm))) ∧ Below (B + 1) w8 (w11.setCell ⟨B + 1, 2, none⟩ (.slice (some ⟨g, 0, none⟩) (j + 1) cap))) :=
                        ⟨some ⟨g, 0, none⟩, cap, HK11.out.set_ 2 _, by rw [pg_snoc HP.out, HOT.out]; exact hown', hb11.setCell (p := ⟨B + 1, 2, none⟩) (Nat.le_refl _) _⟩
                      clear hown hg hor hlt hb11 hown' zc zf
                      go_wp2
                      go_roundw
                      case rel => exact ⟨j + 1, by omega, by go_num, HE.out⟩
                      case measure => simp [intOf]; omega
                    · have e2f : (bm == 2) = false := by simpa using e2
                      go_upto_region 24 with fail
                      clear bq0 ge e2 e2f
                      obtain ⟨WX, rfl⟩ : ∃ WX : World, WX = WQ := ⟨_, rfl⟩
                      have HWX := Lib.hid hbq
                      clear hbq
                      have hj80 : j < 80 := by have := HPL.out; omega
                      have kT := HKW.out.2.1.below_ HWX.out
                      have hrow := own_below HKW.out.2.2.1 HWX.out
                      have hbj := HKW.out.2.2.2.1.trans (HWX.out.mono (by omega))
                      have hsx := HWX.out.size
                      have z2 := (kT.cell 2).trans rfl
                      have g0 := (kP.cell 0).trans rfl
                      have g1 := (kP.cell 1).trans rfl
                      have g2 := (kP.cell 2).trans rfl
                      have g3 := (kP.cell 3).trans rfl
                      have g4 := (kP.cell 4).trans rfl
                      have g5 := (kP.cell 5).trans rfl
                      have HO := Lib.hid (And.intro (hrow.alloc (.cells #[.int .i64 pw, .int .i64 pk, .int .i64 plb, .int .i64 psq, .int .i64 pe, .string pd] 64)) (And.intro (kT.alloc (.cells #[.int .i64 pw, .int .i64 pk, .int .i64 plb, .int .i64 psq, .int .i64 pe, .string pd] 64)) (hbj.alloc (by omega) (.cells #[.int .i64 pw, .int .i64 pk, .int .i64 plb, .int .i64 psq, .int .i64 pe, .string pd] 64))))
                      clear kT kP hrow hbj
                      go_wp2_with (first | (at_builtin; refine wpList_app rfl (.tmp 81) (.tmp 83) 58 rfl Try.underlying58 info_page rfl (by omega) (by omega) rfl HO.out.1 rfl (Blk.new WX _ _) rfl (by simp [Value.oneCell']) (by omega) (by rw [World.size_alloc]; omega) ?_; intro g cap w11 hown hg hor hlt; go_must (have kT11 := HO.out.2.1.grown hg (fun e => by have := own_base HO.out.1 _ e.symm; omega); have zc := (kT11.cell 2).trans rfl; have zf := kT11.frozen 2; have HK11 := Lib.hid kT11; clear kT11)))
                      have hb11 := HO.out.2.2.grown hg (by rw [World.size_alloc]; omega) (fun k hk => by have := own_base HO.out.1 k hk; omega)
                      have hown' := ownsRow_setCell_below hown (a := ⟨B + 1, 2, none⟩) (by simp only; omega) (.slice (some ⟨g, 0, none⟩) (j + 1) cap)
                      have HE : Hid (∃ pA' pc', Blk (w11.setCell ⟨B + 1, 2, none⟩ (.slice (some ⟨g, 0, none⟩) (j + 1) cap)) (B + 1) 60 #[.int .i64 bm, .bool bb, .slice pA' (j + 1) pc'] ∧ (w11.setCell ⟨B + 1, 2, none⟩ (.slice (some ⟨g, 0, none⟩) (j + 1) cap)).ownsRow (B + 2) 64 6 (.slice pA' (j + 1) pc') (j + 1) (eList ePg ((pages.take (j + 1)).map (othPg (List.replicate k ep) q bm))) ∧ Below (B + 1) w8 (w11.setCell ⟨B + 1, 2, none⟩ (.slice (some ⟨g, 0, none⟩) (j + 1) cap))) :=
                        ⟨some ⟨g, 0, none⟩, cap, HK11.out.set_ 2 _, by rw [pg_snoc HP.out, HOT.out]; exact hown', hb11.setCell (p := ⟨B + 1, 2, none⟩) (Nat.le_refl _) _⟩
                      clear hown hg hor hlt hb11 hown' zc zf
                      go_wp2
                      go_roundw
                      case rel => exact ⟨j + 1, by omega, by go_num, HE.out⟩
                      case measure => simp [intOf]; omega
                · have hjn' : ¬ (j : Int) < (pn : Int) := by omega
                  have hje : j = pn := by omega
                  subst hje
                  rw [List.take_of_length_le (by have := HPL.out; omega)] at hrow
                  have z0 := (kT.cell 0).trans rfl
                  have z1 := (kT.cell 1).trans rfl
                  have z2 := (kT.cell 2).trans rfl
                  have hba := (Below.refl wr.heap.size wr).alloc (Nat.le_refl _) (.cells #[.int .i64 bm, .bool bb, .slice pA' j pc'] 60)
                  have HO := Lib.hid (And.intro ((own_below H.out.2.1 hbj0).alloc (.cells #[.int .i64 bm, .bool bb, .slice pA' j pc'] 60)) (And.intro ((H.out.2.2.1.below hbj0).below hba) (And.intro (own_below hrow hba) (hbj6.trans (hba.mono (by omega))))))
                  have hoth := oth_snoc H.out.1 HX.out bb ⟨pA', j, pc'⟩
                  have HOT := Lib.hid hoth
                  have hq12 : q < 12 := by omega
                  clear hoth hba kT kB hrow hbj hbj0 hbj6
                  go_wp2_with (first | (at_builtin; refine wpList_app rfl (.tmp 87) (.tmp 89) 51 rfl Try.underlying51 info_blk17 rfl (by omega) (by omega) rfl HO.out.1 rfl (Blk.new wr _ _) rfl (by simp [Value.oneCell']) (by omega) (by rw [World.size_alloc]; omega) ?_; intro g cap w12 hown hg hor hlt))
                  have hd12 := HO.out.2.1.grown hg HO.out.1
                  have hr12 := HO.out.2.2.1.kept hg (own_two HO.out.2.2.1 HO.out.1 (by decide))
                  have hb12 := HO.out.2.2.2.grown hg (by rw [World.size_alloc]; omega) (own_base HO.out.1)
                  have HE : Hid (Oth (List.replicate k ep) (bs.take (q + 1)) (ls ++ [⟨⟨bm, bb, ⟨pA', j, pc'⟩⟩, pages.map (othPg (List.replicate k ep) q bm)⟩]) ∧ w12.ownsRow w6.heap.size 60 3 (.slice (some ⟨g, 0, none⟩) (q + 1) cap) (q + 1) (eList eBl (ls ++ [⟨⟨bm, bb, ⟨pA', j, pc'⟩⟩, pages.map (othPg (List.replicate k ep) q bm)⟩])) ∧ DeepO w6.heap.size w12 (ls ++ [⟨⟨bm, bb, ⟨pA', j, pc'⟩⟩, pages.map (othPg (List.replicate k ep) q bm)⟩]) ∧ Below w6.heap.size w6 w12) :=
                    ⟨HOT.out, by rw [eList_snoc]; exact hown, hd12.snoc (own_mono hr12 (by omega)), hb12⟩
                  clear hown hg hor hlt hd12 hr12 hb12 z0 z1 z2
                  go_wp2
                  go_roundw
                  case rel => exact ⟨q + 1, some ⟨g, 0, none⟩, cap, _, by omega, by go_num, rfl, HE.out⟩
                  case measure => simp [intOf]; omega
            · have hqe : q = k := by omega
              subst hqe
              have hqk' : ¬ (q : Int) < (q : Int) := by omega
              obtain ⟨h1, h2, h3, h4⟩ := H.out
              rw [List.take_of_length_le (by omega)] at h1
              have hpl := oth_pp h1 hpp
              obtain ⟨ew, es⟩ := oth_where h1 4
              have hmA := fun W (hW : Below w6.heap.size w6 W) => HMAP.out ⟨noSv, ⟨some ⟨CB, 0, none⟩, q, q⟩, noSv, noSv⟩ [] (List.replicate q ep) A q c bs W (Sl.nil _) (HCO.out W hW) (HAD.out W hW).1 (HAD.out W hW).2 hn hpp
              have hmB := fun W (hW : Below wr.heap.size wr W) => HMAP.out ⟨noSv, ⟨some ⟨CB, 0, none⟩, q, q⟩, noSv, noSv⟩ [] (List.replicate q ep) A' q c' ls W (Sl.nil _) (HCO.out W (below_tr h4 hW)) (Sl.own (enc := eBl) (k := 3) (fun _ => rfl) (by omega) (own_below h2 hW)) (h3.below hW).deep hn hpl
              simp only [St.agg, Sv.v, noSv] at hmA hmB
              have HMA := Lib.hid hmA
              have HMB := Lib.hid hmB
              have HEQ := Lib.hid (And.intro ew es)
              have H4 := Lib.hid h4
              have hsr := h4.size
              clear hmA hmB h1 h2 h3 h4 ew es hpl H HMAP
              obtain ⟨s0, s1, s2, s3⟩ := HS.out wr H4.out
              go_upto_region 28 with fail
              go_region_held3 (fun W => W.cell? ⟨SB, 0, none⟩ = some (.slice none 0 0) ∧ W.cell? ⟨SB, 1, none⟩ = some (.slice (some ⟨CB, 0, none⟩) q q) ∧ W.cell? ⟨SB, 2, none⟩ = some (.slice none 0 0) ∧ W.cell? ⟨SB, 3, none⟩ = some (.slice none 0 0)) (first | go_keep | (exact k1) | (exact k2))
                (first | (go_at_call 41; refine (geo17_any _).mono ?_; rintro e w4 ⟨rfl, hb4⟩; replace hb4 : Below wr.heap.size wr w4 := ((Below.refl wr.heap.size wr).drew).trans hb4; simp only [Geo.agg] at *; have k1 := HS.out w4 (below_tr H4.out hb4)) | (go_at_call 30; refine (HMA.out w4 (below_tr H4.out hb4)).mono ?_; rintro e w5 ⟨v8, v9, rfl, hT⟩; have hb5 := below_tr hb4 hT.below; have k2 := HS.out w5 (below_tr H4.out hb5)))
              have hT : Two w4.heap.size w4 (whereF 4 [] (List.replicate q ep) bs 4) (seqsF 4 [] (List.replicate q ep) bs 4) 4 v8 v9 w5 := hT
              obtain ⟨g1, c1, rfl, _, _⟩ := hT.a.form (by omega)
              obtain ⟨g2, c2, rfl, _, _⟩ := hT.i.form (by omega)
              have HT := Lib.hid hT
              have HB5 := Lib.hid hb5
              clear hT hb5 hb4 k1 k2 s0 s1 s2 s3
              obtain ⟨s0, s1, s2, s3⟩ := HS.out w5 (below_tr H4.out HB5.out)
              go_upto_region 29 with fail
              go_region_held3 (fun W => W.cell? ⟨SB, 0, none⟩ = some (.slice none 0 0) ∧ W.cell? ⟨SB, 1, none⟩ = some (.slice (some ⟨CB, 0, none⟩) q q) ∧ W.cell? ⟨SB, 2, none⟩ = some (.slice none 0 0) ∧ W.cell? ⟨SB, 3, none⟩ = some (.slice none 0 0)) (first | go_keep | (exact k1) | (exact k2))
                (first | (go_at_call 41; refine (geo17_any _).mono ?_; rintro e w7 ⟨rfl, hb7⟩; replace hb7 : Below w5.heap.size w5 w7 := ((Below.refl w5.heap.size w5).drew).trans hb7; simp only [Geo.agg] at *; have k1 := HS.out w7 (below_tr H4.out (below_tr HB5.out hb7))) | (go_at_call 30; refine (HMB.out w7 (below_tr HB5.out hb7)).mono ?_; rintro e w8' ⟨v16, v17, rfl, hU⟩; have hb8 := below_tr hb7 hU.below; have k2 := HS.out w8' (below_tr H4.out (below_tr HB5.out hb8))))
              have hU : Two w7.heap.size w7 (whereF 4 [] (List.replicate q ep) ls 4) (seqsF 4 [] (List.replicate q ep) ls 4) 4 v16 v17 w8' := hU
              obtain ⟨g3, c3, rfl, _, _⟩ := hU.a.form (by omega)
              obtain ⟨g4, c4, rfl, _, _⟩ := hU.i.form (by omega)
              have hT8 := HT.out.below_ hb8
              have ha := sameAddrs_any _ _ 4 c1 4 c3 _ _ w8' (Sl.own (enc := eAd) (k := 3) (fun _ => rfl) (by omega) hT8.a) (Sl.own (enc := eAd) (k := 3) (fun _ => rfl) (by omega) hU.a)
              have hi := fun W (hW : Below w8'.heap.size w8' W) => sameInts_any _ _ 4 c2 4 c4 _ _ W (Sl.own (enc := eInt) (k := 1) (fun _ => rfl) (by omega) (own_below hT8.i hW)) (Sl.own (enc := eInt) (k := 1) (fun _ => rfl) (by omega) (own_below hU.i hW))
              rw [decide_eq_true HEQ.out.1.symm] at ha
              simp only [decide_eq_true HEQ.out.2.symm] at hi
              have HBW := Lib.hid (below_tr (below_tr (below_tr HW6.out H4.out) HB5.out) hb8)
              have HAA := Lib.hid ha
              have HI := Lib.hid hi
              clear ha hi hT8 hU hb8 hb7 k1 k2 s0 s1 s2 s3
              go_wp2_with fail
              refine HAA.out.mono ?_
              rintro e w9 ⟨rfl, hb9⟩
              have HB9 := Lib.hid hb9
              clear hb9
              go_wp2_with fail
              refine (HI.out _ HB9.out).mono ?_
              rintro e w10 ⟨rfl, hb10⟩
              have HN := Lib.hid (below_tr HBW.out (below_tr HB9.out hb10))
              clear hb10
              go_wp2
              go_ret
              exact ⟨rfl, HN.out⟩
#print axioms oth_walk
end Go.Proofs.Ytdjfkehbknbocaa

/- The walk of the law BestGreatest. -/
import Derived.Test.YtdjfkehbknbocaaGrP
import Derived.Test.YtdjfkehbknbocaaFloor
namespace Go.Proofs.Ytdjfkehbknbocaa
open Go.RowKit
set_option linter.unusedSimpArgs false
set_option linter.unusedVariables false

theorem info_bool_b : (Try.prog.info? 4).map (fun i => (i.zero, i.size, i.bytes)) = some (some (.bool false), 1, 1) := by kernel_rfl
theorem make4_bool (w : World) : (Instr.makeSlice 33 (.int .i64 4) (.int .i64 4)).run Try.prog w = .ok (.slice (some ⟨w.heap.size, 0, none⟩) 4 4) (w.alloc (.cells #[.bool false, .bool false, .bool false, .bool false] 4)) := by
  have h := run_make_row' (P := Try.prog) 33 4 (.bool false) 1 Try.underlying33 info_bool_b rfl .i64 .i64 4 (by omega) (by omega) w
  have e : madeCells #[Value.bool false] 4 = #[.bool false, .bool false, .bool false, .bool false] := by kernel_rfl
  rw [e] at h
  exact h
set_option maxRecDepth 100000 in
set_option maxHeartbeats 40000000 in
theorem greatest_walk (s : St) (fl co : List Int) (A : Option Addr) (n c : Nat) (bs : List Bl) (w : World) (hf : Sl eInt 1 w s.f.A s.f.n fl) (hc : Sl eInt 1 w s.c.A s.c.n co) (hA : Sl eBl 3 w A n bs) (hD : Deep w bs) :
    Calls Try.prog 10 #[s.agg, .slice A n c] w fun e w' => e = .returned (.bool true) ∧ Below w.heap.size w w' := by
  have hlen := hA.len
  have hfew := fun W (hW : Below w.heap.size w W) => few_any ⟨8, 6, 64, 4, 0, 4⟩ A n c (bs.map (·.b)) W (hA.below hW).bk (by intro b hb; obtain ⟨x, hx, rfl⟩ := List.mem_map.1 hb; exact (hD x hx).big)
  have hspec := fewF_spec (lbas := 4) hD
  have hmap := fun W (hW : Below w.heap.size w W) hn hpp => map_any ⟨8, 6, 64, 4, 0, 4⟩ s fl co A n c bs W (hf.below hW) (hc.below hW) (hA.below hW) (hD.below hW) (by decide) hn hpp
  have hgr := fun i x ga ca gi ci gs cs base ads ns sn W => greatest_any s fl co i x ga ca gi ci gs cs base ads ns sn w W hf hc
  generalize fewF (Geo.lbas ⟨8, 6, 64, 4, 0, 4⟩) (bs.map (·.b)) = FW at hfew hspec
  obtain ⟨⟨fA, fn, fc⟩, ⟨cA, cn, cc⟩, ⟨sA, sn_, sc⟩, ⟨tA, tn, tc⟩⟩ := s
  simp only [Geo.agg, St.agg, Sv.v] at hfew hmap hspec hgr ⊢
  have HA := Lib.hid (And.intro hA hD)
  have HFEW := Lib.hid hfew
  clear hfew
  have HMAP := Lib.hid hmap
  clear hmap
  have HSPEC := Lib.hid hspec
  clear hspec
  have HGR := Lib.hid hgr
  clear hgr
  clear hf hc hA hD
  go_enter Try.func10, Try.ntmps10
  go_wp2_with fail
  have k2 := Blk.new w 50 #[.slice fA fn fc, .slice cA cn cc, .slice sA sn_ sc, .slice tA tn tc]
  have hb1 : Below w.heap.size w (w.alloc (.cells #[.slice fA fn fc, .slice cA cn cc, .slice sA sn_ sc, .slice tA tn tc] 50)) := (Below.refl _ w).alloc (Nat.le_refl _) _
  have hs1 : (w.alloc (.cells #[.slice fA fn fc, .slice cA cn cc, .slice sA sn_ sc, .slice tA tn tc] 50)).heap.size = w.heap.size + 1 := by simp
  obtain ⟨w1, hw1⟩ : ∃ w1, w.alloc (.cells #[.slice fA fn fc, .slice cA cn cc, .slice sA sn_ sc, .slice tA tn tc] 50) = w1 := ⟨_, rfl⟩
  rw [hw1] at k2 hb1 hs1 ⊢
  clear hw1
  refine (works17_any w1).mono ?_
  rintro e w2 ⟨rfl, hb2⟩
  go_wp2_with fail
  refine (geo17_any w2).mono ?_
  rintro e w2' ⟨rfl, hb2'⟩
  simp only [Geo.agg]
  go_wp2_with fail
  refine (HFEW.out w2' (below_tr hb1 (below_tr hb2 hb2'))).mono ?_
  rintro e w3 ⟨rfl, hb3⟩
  have HB3 := Lib.hid (below_tr hb1 (below_tr hb2 (below_tr hb2' hb3)))
  have k3 := k2.below_ (below_tr hb2 (below_tr hb2' hb3))
  have hs3 := (below_tr hb2 (below_tr hb2' hb3)).size
  have HQ3 : Hid (∀ W, Below w3.heap.size w3 W → W.cell? ⟨w.heap.size, 0, none⟩ = some (.slice fA fn fc) ∧ W.cell? ⟨w.heap.size, 1, none⟩ = some (.slice cA cn cc) ∧ W.cell? ⟨w.heap.size, 2, none⟩ = some (.slice sA sn_ sc) ∧ W.cell? ⟨w.heap.size, 3, none⟩ = some (.slice tA tn tc)) := fun W hW =>
    ⟨((k3.below_ hW).cell 0).trans rfl, ((k3.below_ hW).cell 1).trans rfl, ((k3.below_ hW).cell 2).trans rfl, ((k3.below_ hW).cell 3).trans rfl⟩
  clear hb1 hb2 hb2' hb3 k2 k3
  cases FW with
  | false =>
    go_wp2
    go_ret
    exact ⟨rfl, HB3.out⟩
  | true =>
    obtain ⟨-, hn, hpp⟩ := HSPEC.out (by simp)
    rw [hlen] at hn
    go_upto_region 5 with fail
    refine wp_mono (Q := fun e a' w' => e = .normal ∧ ∃ v8 v9, a' = ({ tmps := #[.agg #[.slice fA fn fc, .slice cA cn cc, .slice sA sn_ sc, .slice tA tn tc], .slice A n c, .pointer (some ⟨w.heap.size, 0, none⟩), undef, .bool false, v8, v9, undef, undef, undef, undef, undef, .bool true, .bool false, .agg #[.int .i64 8, .int .i64 6, .int .i64 64, .int .i64 4, .int .i64 0, .int .i64 4], .slice A n c, .bool true, .bool false, .tuple #[v8, v9], .agg #[.int .i64 8, .int .i64 6, .int .i64 64, .int .i64 4, .int .i64 0, .int .i64 4], .agg #[.slice fA fn fc, .slice cA cn cc, .slice sA sn_ sc, .slice tA tn tc], .slice A n c, .tuple #[v8, v9], v8, v9, undef, undef, undef, undef, undef, undef, undef, undef, undef, undef, undef, undef, undef, undef, undef, undef, undef, undef, undef, undef, undef, undef, undef, undef, undef, undef, undef, undef, undef, undef, undef, undef, undef, undef, undef, undef, undef, undef, undef, undef, undef], defers := [] } : Act) ∧ Two w3.heap.size w3 (whereF 4 fl co bs 4) (seqsF 4 fl co bs 4) 4 v8 v9 w') ?cut ?rest
    case cut =>
      have hb4 : Below w3.heap.size w3 w3 := Below.refl _ _
      obtain ⟨r0, r1, r2, r3⟩ := HQ3.out w3 hb4
      refine wp_region_any (by kernel_rfl) ?_
      change wpAny _ _ _ _ _ _ _ (World.drew _)
      refine wpAny_take (i := 2) (v := .slice A n c) rfl (by kernel_rfl) (by kernel_rfl) (by kernel_rfl) (fun _ _ _ h => by cases h.1) (Or.inl ⟨by rfl, ?_⟩) ?_
      · intro w; go_simp
      refine wpAny_ready (rs := [0, 1]) (by kernel_rfl) (by simp) ?_
      refine AllReady.cons rfl (fun K hK => ?_) ?_
      ·
        go_simp
        refine (geo17_any _).mono ?_
        rintro e w4 ⟨rfl, hb4⟩
        replace hb4 : Below w3.heap.size w3 w4 := ((Below.refl w3.heap.size w3).drew).trans hb4
        obtain ⟨r0, r1, r2, r3⟩ := HQ3.out w4 hb4
        simp only [Geo.agg] at *
        refine hK _ _ ?_; clear hK K
        refine wpAny_ready (rs := [1]) (by kernel_rfl) (by simp) ?_
        refine AllReady.cons rfl (fun K hK => ?_) ?_
        ·
          go_simp
          refine hK _ _ ?_; clear hK K
          refine wpAny_ready (rs := [3]) (by kernel_rfl) (by simp) ?_
          refine AllReady.cons rfl (fun K hK => ?_) ?_
          ·
            go_simp
            refine (HMAP.out _ (below_tr HB3.out hb4) hn hpp).mono ?_
            rintro e w5 ⟨v8, v9, rfl, hT⟩
            have hTT : Two w3.heap.size w3 (whereF 4 fl co bs 4) (seqsF 4 fl co bs 4) 4 v8 v9 w5 := ⟨own_mono hT.a hb4.size, own_mono hT.i hb4.size, hT.ne, below_tr hb4 hT.below⟩
            refine hK _ _ ?_; clear hK K
            refine wpAny_take (i := 4) (v := .tuple #[v8, v9]) rfl (by kernel_rfl) (by kernel_rfl) (by kernel_rfl) (fun _ _ _ h => by cases h.1) (Or.inl ⟨by rfl, ?_⟩) ?_
            · intro w; go_simp
            refine wpAny_take (i := 5) (v := v8) rfl (by kernel_rfl) (by kernel_rfl) (by kernel_rfl) (fun _ _ _ h => by cases h.1) (Or.inl ⟨by rfl, ?_⟩) ?_
            · intro w; go_simp
            refine wpAny_take (i := 6) (v := v9) rfl (by kernel_rfl) (by kernel_rfl) (by kernel_rfl) (fun _ _ _ h => by cases h.1) (Or.inl ⟨by rfl, ?_⟩) ?_
            · intro w; go_simp
            refine wpAny_ready (rs := [7]) (by kernel_rfl) (by simp) ?_
            refine AllReady.cons rfl (fun K hK => ?_) ?_
            ·
              go_simp
              refine hK _ _ ?_; clear hK K
              refine wpAny_ready (rs := [8]) (by kernel_rfl) (by simp) ?_
              refine AllReady.cons rfl (fun K hK => ?_) ?_
              ·
                go_simp
                refine hK _ _ ?_; clear hK K
                refine wpAny_done (by kernel_rfl) ?_ _
                exact ⟨rfl, _, _, rfl, hTT⟩
              exact AllReady.nil
            exact AllReady.nil
          exact AllReady.nil
        exact AllReady.nil
      refine AllReady.cons rfl (fun K hK => ?_) ?_
      ·
        go_simp
        refine hK _ _ ?_; clear hK K
        refine wpAny_ready (rs := [0]) (by kernel_rfl) (by simp) ?_
        refine AllReady.cons rfl (fun K hK => ?_) ?_
        ·
          go_simp
          refine (geo17_any _).mono ?_
          rintro e w4 ⟨rfl, hb4⟩
          replace hb4 : Below w3.heap.size w3 w4 := ((Below.refl w3.heap.size w3).drew).trans hb4
          obtain ⟨r0, r1, r2, r3⟩ := HQ3.out w4 hb4
          simp only [Geo.agg] at *
          refine hK _ _ ?_; clear hK K
          refine wpAny_ready (rs := [3]) (by kernel_rfl) (by simp) ?_
          refine AllReady.cons rfl (fun K hK => ?_) ?_
          ·
            go_simp
            refine (HMAP.out _ (below_tr HB3.out hb4) hn hpp).mono ?_
            rintro e w5 ⟨v8, v9, rfl, hT⟩
            have hTT : Two w3.heap.size w3 (whereF 4 fl co bs 4) (seqsF 4 fl co bs 4) 4 v8 v9 w5 := ⟨own_mono hT.a hb4.size, own_mono hT.i hb4.size, hT.ne, below_tr hb4 hT.below⟩
            refine hK _ _ ?_; clear hK K
            refine wpAny_take (i := 4) (v := .tuple #[v8, v9]) rfl (by kernel_rfl) (by kernel_rfl) (by kernel_rfl) (fun _ _ _ h => by cases h.1) (Or.inl ⟨by rfl, ?_⟩) ?_
            · intro w; go_simp
            refine wpAny_take (i := 5) (v := v8) rfl (by kernel_rfl) (by kernel_rfl) (by kernel_rfl) (fun _ _ _ h => by cases h.1) (Or.inl ⟨by rfl, ?_⟩) ?_
            · intro w; go_simp
            refine wpAny_take (i := 6) (v := v9) rfl (by kernel_rfl) (by kernel_rfl) (by kernel_rfl) (fun _ _ _ h => by cases h.1) (Or.inl ⟨by rfl, ?_⟩) ?_
            · intro w; go_simp
            refine wpAny_ready (rs := [7]) (by kernel_rfl) (by simp) ?_
            refine AllReady.cons rfl (fun K hK => ?_) ?_
            ·
              go_simp
              refine hK _ _ ?_; clear hK K
              refine wpAny_ready (rs := [8]) (by kernel_rfl) (by simp) ?_
              refine AllReady.cons rfl (fun K hK => ?_) ?_
              ·
                go_simp
                refine hK _ _ ?_; clear hK K
                refine wpAny_done (by kernel_rfl) ?_ _
                exact ⟨rfl, _, _, rfl, hTT⟩
              exact AllReady.nil
            exact AllReady.nil
          exact AllReady.nil
        exact AllReady.nil
      exact AllReady.nil
    case rest =>
      rintro e a' w5 ⟨rfl, v8, v9, rfl, hT⟩
      dsimp only
      obtain ⟨ga, ca, rfl, _, _⟩ := hT.a.form (by omega)
      obtain ⟨gi, ci, rfl, _, _⟩ := hT.i.form (by omega)
      have hmk := make4_bool
      have lta := own_lt hT.a ga rfl
      have lti := own_lt hT.i gi rfl
      have hb35 := hT.below
      have hs35 := hb35.size
      have hlb3 := HB3.out.size
      have HT := Lib.hid hT
      have HB35 := Lib.hid hb35
      have HB5 := Lib.hid (below_tr HB3.out hb35)
      clear hT hb35
      go_wp2_with fail
      clear hmk
      have hown0 : (w5.alloc (.cells #[.bool false, .bool false, .bool false, .bool false] 4)).ownsRow w3.heap.size 4 1 (.slice (some ⟨w5.heap.size, 0, none⟩) 4 4) 4 (eList eBool [false, false, false, false]) := by
        have h := World.ownsRow_lit (base := w3.heap.size) (e := 4) (size := 1) w5 #[.bool false, .bool false, .bool false, .bool false] 4 hs35 (by simp [maxLen]) (by simp)
        exact h
      have hb6 : Below w5.heap.size w5 (w5.alloc (.cells #[.bool false, .bool false, .bool false, .bool false] 4)) := (Below.refl _ w5).alloc (Nat.le_refl _) _
      have hs6 : (w5.alloc (.cells #[.bool false, .bool false, .bool false, .bool false] 4)).heap.size = w5.heap.size + 1 := by simp
      obtain ⟨w6, hw6⟩ : ∃ w6, w5.alloc (.cells #[.bool false, .bool false, .bool false, .bool false] 4) = w6 := ⟨_, rfl⟩
      rw [hw6] at hown0 hb6 hs6 ⊢
      clear hw6
      obtain ⟨gs, hgs⟩ : ∃ gs, w5.heap.size = gs := ⟨_, rfl⟩
      rw [hgs] at hown0 ⊢
      have HO0 := Lib.hid hown0
      have HB56 := Lib.hid hb6
      clear hown0 hb6
      go_loopw [36] (fun u wr => ∃ m : Nat, m ≤ n ∧ u = .int .i64 m ∧ Hid (w6.grownBy wr (some gs) ∧ ∃ sn, SnInv fl co bs m sn ∧ wr.ownsRow w3.heap.size 4 1 (.slice (some ⟨gs, 0, none⟩) 4 4) 4 (eList eBool sn))) (fun u _ => n - (intOf u).toNat)
      case atStart => exact ⟨0, Nat.zero_le _, rfl, grown_of_below (Below.refl _ _) _, _, SnInv.zero fl co bs, HO0.out⟩
      case round =>
        obtain ⟨m, hm, rfl, H⟩ := hrel
        have hszr := H.out.1.size
        have hbW : Below w.heap.size w wr := (HB5.out.trans (HB56.out.mono (by omega))).grown H.out.1 (by omega) (fun k e => by injection e with e; omega)
        have hcS : ∀ k : Nat, wr.cell? ⟨w.heap.size, k, none⟩ = w3.cell? ⟨w.heap.size, k, none⟩ := fun k => by
          have h1 := (below_tr HB35.out HB56.out).block w.heap.size (by omega)
          have h2 := H.out.1.block w.heap.size (by omega) (fun e => by injection e with e; omega)
          simp only [World.cell?, h2, h1]
        by_cases hlt : m < n
        · obtain ⟨b, off, x, rfl, hb, hx, hcb⟩ := (HA.out.1.below hbW).get_ hlt
          have hxm := List.mem_of_getElem? hx
          have HPG := Lib.hid (HA.out.2 x hxm)
          have HX := Lib.hid hx
          have HGD := Lib.hid (fun (k : Nat) p hp => good17 (fl := fl) (co := co) hx k p hp)
          have HSU := Lib.hid (fun sn (h : SnInv fl co bs m sn) ys hy => h.succ hx (ys := ys) hy)
          obtain ⟨⟨bm, bb, ⟨pA, pn, pcc⟩⟩, pages⟩ := x
          have bc0 := hcb 0 _ rfl
          have bc1 := hcb 1 _ rfl
          have bc2 := hcb 2 _ rfl
          simp only [Nat.add_zero] at bc0
          simp only [Sv.v] at bc0 bc1 bc2
          clear hcb hx hxm
          obtain ⟨r0, r1, r2, r3⟩ := HQ3.out w3 (Below.refl _ _)
          have q0 := cell_some_alloc (.cells #[.int .i64 bm, .bool bb, .slice pA pn pcc] 60) ((hcS 0).trans r0)
          have q1 := cell_some_alloc (.cells #[.int .i64 bm, .bool bb, .slice pA pn pcc] 60) ((hcS 1).trans r1)
          have q2 := cell_some_alloc (.cells #[.int .i64 bm, .bool bb, .slice pA pn pcc] 60) ((hcS 2).trans r2)
          have q3 := cell_some_alloc (.cells #[.int .i64 bm, .bool bb, .slice pA pn pcc] 60) ((hcS 3).trans r3)
          obtain ⟨hgr, sn, hsi, hso⟩ := H.out
          have hrA := (own_below (own_below HT.out.a HB56.out) (Below.refl _ _)).kept hgr (Or.inr (fun e => by have e' : some ga = some gs := e; injection e' with e'; omega))
          have hrI := (own_below (own_below HT.out.i HB56.out) (Below.refl _ _)).kept hgr (Or.inr (fun e => by have e' : some gi = some gs := e; injection e' with e'; omega))
          have hcall := HGR.out m ⟨⟨bm, bb, ⟨pA, pn, pcc⟩⟩, pages⟩ ga ca gi ci gs 4 w3.heap.size _ _ sn (wr.alloc (.cells #[.int .i64 bm, .bool bb, .slice pA pn pcc] 60)) HPG.out (hbW.alloc hbW.size _) (hrA.alloc _) (hrI.alloc _) (hso.alloc _) hlb3 (by omega) (by omega) (by have := HA.out.1.big; omega) HGD.out
          simp only [Bk.agg, Sv.v] at hcall
          have HCALL := Lib.hid hcall
          have HSI := Lib.hid hsi
          have HG := Lib.hid hgr
          clear hcall hsi hgr hso hrA hrI hcS H r0 r1 r2 r3
          go_wp2_with fail
          refine HCALL.out.mono ?_
          rintro e w8 ⟨rfl, ys, hys, ho8, hg8⟩
          have HN : Hid (w6.grownBy w8 (some gs) ∧ ∃ sn, SnInv fl co bs (m + 1) sn ∧ w8.ownsRow w3.heap.size 4 1 (.slice (some ⟨gs, 0, none⟩) 4 4) 4 (eList eBool sn)) :=
            ⟨grown_tr (grown_alloc HG.out _) hg8, _, HSU.out sn HSI.out ys hys, ho8⟩
          clear hys ho8 hg8 q0 q1 q2 q3 bc0 bc1 bc2
          go_wp2
          go_roundw
          case rel => exact ⟨m + 1, by omega, by go_num, HN⟩
          case measure => simp [intOf]; omega
        · have hmn : m = n := by omega
          obtain ⟨wL, rfl⟩ : ∃ wL : World, wL = wr := ⟨_, rfl⟩
          subst hmn
          have hge : ¬ (m : Int) < (m : Int) := by omega
          obtain ⟨hgr, sn, hsi, hso⟩ := H.out
          rw [← hlen] at hsi
          have hrA := (own_below HT.out.a HB56.out).kept hgr (Or.inr (fun e => by have e' : some ga = some gs := e; injection e' with e'; omega))
          have HC : Hid (∀ (k : Nat), k < 4 → ∀ W, Below wL.heap.size wL W → W.cell? ⟨ga, k * 3, none⟩ = some (.int .i64 (blocksF 4 fl co (k : Int) bs bs.length).1.block) ∧ W.cell? ⟨ga, k * 3 + 1, none⟩ = some (.int .i64 (blocksF 4 fl co (k : Int) bs bs.length).1.line) ∧ W.cell? ⟨ga, k * 3 + 2, none⟩ = some (.int .i64 (blocksF 4 fl co (k : Int) bs bs.length).1.part) ∧ W.cell? ⟨gs, k, none⟩ = some (.bool (decide (0 ≤ (blocksF 4 fl co (k : Int) bs bs.length).1.block)))) := fun k hk W hW => by
            obtain ⟨a0, a1, a2⟩ := whereF_cell (lbas := 4) (fl := fl) (co := co) (bs := bs) hk
            have h1 := own_below hrA hW
            exact ⟨own_cell h1 _ _ a0, own_cell h1 _ _ a1, own_cell h1 _ _ a2, own_cell (own_below hso hW) _ _ (eBools_get _ _ _ (hsi.fin hk))⟩
          have HBW := Lib.hid hbW
          clear hgr hsi hso hrA hcS H hbW
          go_wp2_with fail
          go_loopw [52] (fun u w9 => ∃ k : Nat, k ≤ 4 ∧ u = .int .i64 k ∧ Hid (Below wL.heap.size wL w9)) (fun u _ => 4 - (intOf u).toNat)
          case atStart => exact ⟨0, Nat.zero_le _, rfl, Below.refl _ _⟩
          case round =>
            obtain ⟨k, hk, rfl, HP⟩ := hrel
            by_cases hk4 : k < 4
            · have hlt4 : (k : Int) < 4 := by omega
              obtain ⟨c0, c1, c2, c3⟩ := HC.out k hk4 wr HP.out
              have hck := HC.out k hk4
              generalize blocksF 4 fl co (k : Int) bs bs.length = q at c0 c1 c2 c3 hck
              obtain ⟨⟨q0, q1, q2⟩, tg⟩ := q
              simp only at c0 c1 c2 c3 hck
              have HCK := Lib.hid hck
              clear hck
              have k4 := Blk.new wr 70 #[.int .i64 q0, .int .i64 q1, .int .i64 q2]
              have hb4 : Below wr.heap.size wr (wr.alloc (.cells #[.int .i64 q0, .int .i64 q1, .int .i64 q2] 70)) := (Below.refl _ wr).alloc (Nat.le_refl _) _
              obtain ⟨w4, hw4⟩ : ∃ w4, wr.alloc (.cells #[.int .i64 q0, .int .i64 q1, .int .i64 q2] 70) = w4 := ⟨_, rfl⟩
              have HW4 := Lib.hid hw4
              rw [hw4] at k4 hb4
              clear hw4
              have HB4 := Lib.hid hb4
              have e0 := fun p : Past w4 => ((k4.below_ p.h).cell 0).trans rfl
              have e1 := fun p : Past w4 => (HCK.out p.w (below_tr HP.out (below_tr HB4.out p.h))).2.2.2
              clear k4 hb4
              have n1 := fun T W => eq_bool_same (P := Try.prog) T W Try.underlying4
              by_cases hq : 0 ≤ q0
              · rw [decide_eq_true hq] at e1
                clear c3
                go_upto_region 18 with fail
                rw [HW4.out]
                refine wp_region_quiet_past (by kernel_rfl) (by kernel_rfl) ?_
                repeat (refine qw_step (fun K_ hK_ => ?_); go_simp; first | (refine hK_ _ ?_; clear hK_ K_) | (apply Exists.intro; refine ⟨fun _ => ?_, hK_ _ ?_⟩; (fail); clear hK_ K_) | (rw [if_pos (by first | assumption | omega)]; first | (refine hK_ _ ?_; clear hK_ K_) | (apply Exists.intro; refine ⟨fun _ => ?_, hK_ _ ?_⟩; (fail); clear hK_ K_)) | (rw [if_neg (by first | assumption | omega)]; first | (refine hK_ _ ?_; clear hK_ K_) | (apply Exists.intro; refine ⟨fun _ => ?_, hK_ _ ?_⟩; (fail); clear hK_ K_)))
                refine qw_nil ?_
                intro WQ hw_
                obtain ⟨p_, hp_⟩ := hw_
                have HQ := p_.h
                rw [← hp_] at HQ
                clear hp_ p_
                have HB7 := Lib.hid (below_tr HP.out (below_tr HB4.out HQ))
                clear HQ n1 e0 e1 c0 c1 c2
                go_wp2
                go_roundw
                case rel => exact ⟨k + 1, by omega, by go_num, HB7⟩
                case measure => simp [intOf]; omega
              · rw [decide_eq_false hq] at e1
                clear c3
                go_upto_region 18 with fail
                rw [HW4.out]
                refine wp_region_quiet_past (by kernel_rfl) (by kernel_rfl) ?_
                repeat (refine qw_step (fun K_ hK_ => ?_); go_simp; first | (refine hK_ _ ?_; clear hK_ K_) | (apply Exists.intro; refine ⟨fun _ => ?_, hK_ _ ?_⟩; (fail); clear hK_ K_) | (rw [if_pos (by first | assumption | omega)]; first | (refine hK_ _ ?_; clear hK_ K_) | (apply Exists.intro; refine ⟨fun _ => ?_, hK_ _ ?_⟩; (fail); clear hK_ K_)) | (rw [if_neg (by first | assumption | omega)]; first | (refine hK_ _ ?_; clear hK_ K_) | (apply Exists.intro; refine ⟨fun _ => ?_, hK_ _ ?_⟩; (fail); clear hK_ K_)))
                refine qw_nil ?_
                intro WQ hw_
                obtain ⟨p_, hp_⟩ := hw_
                have HQ := p_.h
                rw [← hp_] at HQ
                clear hp_ p_
                have HB7 := Lib.hid (below_tr HP.out (below_tr HB4.out HQ))
                clear HQ n1 e0 e1 c0 c1 c2
                go_wp2
                go_roundw
                case rel => exact ⟨k + 1, by omega, by go_num, HB7⟩
                case measure => simp [intOf]; omega
            · have hge4 : ¬ (k : Int) < 4 := by omega
              go_wp2
              go_ret
              exact ⟨rfl, below_tr HBW.out HP.out⟩
#print axioms greatest_walk
end Go.Proofs.Ytdjfkehbknbocaa

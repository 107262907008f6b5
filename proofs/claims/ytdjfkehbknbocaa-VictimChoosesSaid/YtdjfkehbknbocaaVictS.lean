/- The walk of chapter 24's reference's Ranked. -/
import Derived.Test.YtdjfkehbknbocaaVictR
namespace Go.Proofs.Ytdjfkehbknbocaa
open Go.RowKit
set_option linter.unusedSimpArgs false
set_option linter.unusedVariables false

theorem made3 (n : Nat) : (madeCells (Value.agg #[.int .i64 0, .int .i64 0, .int .i64 0]).cells (n * 3)).toList = eList eUs (List.replicate n ⟨0, 0, 0⟩) := by
  refine List.ext_getElem? fun q => ?_
  rw [Array.getElem?_toList]
  have hsz := size_madeCells (Value.agg #[.int .i64 0, .int .i64 0, .int .i64 0]).cells (n * 3)
  have hl := eList_len (en := eUs) (k := 3) (fun _ => rfl) (List.replicate n ⟨0, 0, 0⟩)
  rw [List.length_replicate] at hl
  by_cases hq : q < n * 3
  · have hd : q / 3 * 3 + q % 3 = q := by omega
    have hm : q % 3 < 3 := by omega
    have hx : (List.replicate n (⟨0, 0, 0⟩ : Us))[q / 3]? = some ⟨0, 0, 0⟩ := by
      rw [List.getElem?_replicate, if_pos (by omega)]
    have hv : (eUs ⟨0, 0, 0⟩)[q % 3]? = some (.int .i64 0) := by
      match h : q % 3, hm with
      | 0, _ => rfl
      | 1, _ => rfl
      | 2, _ => rfl
    have hr := eList_get (enc := eUs) (k := 3) (fun _ => rfl) _ (q / 3) _ (q % 3) _ hx hv
    rw [hd] at hr
    rw [hr, Array.getElem?_eq_getElem (by omega)]
    congr 1
    simp only [madeCells, Array.getElem_map, Array.getElem_range]
    have e : (Value.agg #[.int .i64 0, .int .i64 0, .int .i64 0]).cells = #[.int .i64 0, .int .i64 0, .int .i64 0] := rfl
    rw [e]
    match h : q % 3, hm with
    | 0, _ => simp [h]
    | 1, _ => simp [h]
    | 2, _ => simp [h]
  · rw [Array.getElem?_eq_none (by omega), List.getElem?_eq_none (by omega)]
theorem makeU_run (n : Nat) (hn : n ≤ 100000) (w : World) : (Instr.makeSlice 77 (.int .i64 (n : Int)) (.int .i64 (n : Int))).run Try.prog w = .ok (.slice (some ⟨w.heap.size, 0, none⟩) n n) (w.alloc (.cells (madeCells (Value.agg #[.int .i64 0, .int .i64 0, .int .i64 0]).cells (n * 3)) 83)) := by
  obtain ⟨i, hi, hzz⟩ := Option.map_eq_some_iff.1 info_use
  simp only [Prod.mk.injEq] at hzz
  obtain ⟨hz, hs, hb⟩ := hzz
  have h := run_makeSlice (P := Try.prog) w 77 83 i _ Try.underlying77 hi hz .i64 .i64 (n : Int) (n : Int) (by omega) (by omega) (by rw [hs]; simp; omega) (by rw [hb]; omega) (by omega)
  simp only [Int.toNat_natCast, hs] at h
  exact h
theorem makeU_own (n : Nat) (hn : n ≤ 100000) (w : World) : (w.alloc (.cells (madeCells (Value.agg #[.int .i64 0, .int .i64 0, .int .i64 0]).cells (n * 3)) 83)).ownsRow w.heap.size 83 3 (.slice (some ⟨w.heap.size, 0, none⟩) n n) n (eList eUs (List.replicate n ⟨0, 0, 0⟩)) := by
  have h := World.ownsRow_lit (base := w.heap.size) (e := 83) (size := 3) w (madeCells (Value.agg #[.int .i64 0, .int .i64 0, .int .i64 0]).cells (n * 3)) n (Nat.le_refl _) (by simp only [maxLen]; omega) (size_madeCells _ _)
  rw [made3] at h
  exact h
theorem rankU_step {ys : List Us} {K I : Nat} {y z : Us} (hy : ys[K]? = some y) (hz : ys[I]? = some z) : rankN cfU (uOf ys) (K + 1) I = rankN cfU (uOf ys) K I + if cfU y z < 0 ∨ (¬ cfU z y < 0 ∧ K < I) then 1 else 0 := by
  rw [rankN_succ]
  congr 1
  have h1 := cfU_ok.anti y z
  have h2 := cfU_ok.anti z y
  have e : preB cfU (uOf ys) K I = true ↔ (cfU y z < 0 ∨ (¬ cfU z y < 0 ∧ K < I)) := by
    rw [preB_iff]
    simp only [pre, uOf_get hy, uOf_get hz]
    omega
  by_cases h : cfU y z < 0 ∨ (¬ cfU z y < 0 ∧ K < I)
  · rw [if_pos h, if_pos (e.2 h)]
  · rw [if_neg h, if_neg (fun k => h (e.1 k))]
/-- Is a use ahead of another one? -/
def fewB (a0 a1 a2 b0 b1 b2 : Int) : Bool := decide (cfU ⟨a0, a1, a2⟩ ⟨b0, b1, b2⟩ < 0)
theorem fewB_iff (a0 a1 a2 b0 b1 b2 : Int) : fewB a0 a1 a2 b0 b1 b2 = true ↔ cfU ⟨a0, a1, a2⟩ ⟨b0, b1, b2⟩ < 0 := by simp [fewB]
theorem refFewer6 (a0 a1 a2 b0 b1 b2 : Int) (w : World) : Calls Try.prog 77 #[.agg #[.int .i64 a0, .int .i64 a1, .int .i64 a2], .agg #[.int .i64 b0, .int .i64 b1, .int .i64 b2]] w fun e w' => e = .returned (.bool (fewB a0 a1 a2 b0 b1 b2)) ∧ Below w.heap.size w w' := refFewer_any ⟨a0, a1, a2⟩ ⟨b0, b1, b2⟩ w
def RefRankPost (lines : Int) (xs : List Us) (M : List Nat) (w : World) (e : Ending) (w' : World) : Prop := ∃ A c, e = .returned (.slice A M.length c) ∧ w'.ownsRow w.heap.size 83 3 (.slice A M.length c) M.length (eList eUs (zOf lines xs M)) ∧ Below w.heap.size w w'
set_option maxRecDepth 100000 in
set_option maxHeartbeats 40000000 in
theorem refRanked_any (lines : Int) (A : Option Addr) (n c : Nat) (xs : List Us) (M : List Nat) (w : World) (hn : n ≤ 100000) (hA : Sl eUs 3 w A n xs) (hbd : ∀ x ∈ xs, x.valid ≤ 9223372036854775807) (hM : RankedBy lines xs M) :
    Calls Try.prog 45 #[.int .i64 lines, .slice A n c] w (RefRankPost lines xs M w) := by
  have hlen := hA.len
  have HM := Lib.hid hM
  have HA := Lib.hid hA
  clear hA
  have HBD := Lib.hid hbd
  clear hbd
  have HLEN := Lib.hid hlen
  clear hM
  go_enter Try.func45, Try.ntmps45
  go_wp2_with fail
  go_loopw [5, 6] (fun v i wr => ∃ (k m : Nat) (A' : Option Addr) (c' : Nat), k ≤ n ∧ m ≤ k ∧ i = .int .i64 k ∧ v = .slice A' m c' ∧ Hid (wr.ownsRow w.heap.size 83 3 (.slice A' m c') m (eList eUs ((xs.take k).filter (mayU lines))) ∧ Below w.heap.size w wr)) (fun _ i _ => n - (intOf i).toNat)
  case atStart => exact ⟨0, 0, none, 0, Nat.zero_le _, Nat.le_refl _, rfl, rfl, World.ownsRow_nil _ _ _ _, Below.refl _ _⟩
  case round =>
    obtain ⟨k, m, A', c', hk, hm, rfl, rfl, H⟩ := hrel
    by_cases hlt : k < n
    · have hlt' : (k : Int) < (n : Int) := by omega
      obtain ⟨b, off, x, hAe, hb, hx, p0, p1, p2⟩ := HA.out.us_ hlt
      have hmay := fun W => refMay24_any lines x (HBD.out x (List.mem_of_getElem? hx)) W
      have hst := filterU_snoc (mayU lines) hx
      obtain ⟨x0, x1, x2⟩ := x
      simp only at p0 p1 p2
      simp only [Us.agg] at hmay
      have q0 := (H.out.2.cell (p := ⟨b, off + k * 3, none⟩) hb).trans p0
      have q1 := (H.out.2.cell (p := ⟨b, off + k * 3 + 1, none⟩) hb).trans p1
      have q2 := (H.out.2.cell (p := ⟨b, off + k * 3 + 2, none⟩) hb).trans p2
      have hsz := H.out.2.size
      subst hAe
      generalize mayU lines ⟨x0, x1, x2⟩ = T at hmay hst
      have HST := Lib.hid hst
      have HMAY := Lib.hid hmay
      have HP := Lib.hid (And.intro p0 (And.intro p1 p2))
      clear hst hx hmay p0 p1 p2
      go_wp2_with fail
      refine (HMAY.out _).mono ?_
      rintro e w1 ⟨rfl, hb1⟩
      have hown1 := own_below H.out.1 hb1
      have hbe1 := below_tr H.out.2 hb1
      have r0 := (hbe1.cell (p := ⟨b, off + k * 3, none⟩) hb).trans HP.out.1
      have r1 := (hbe1.cell (p := ⟨b, off + k * 3 + 1, none⟩) hb).trans HP.out.2.1
      have r2 := (hbe1.cell (p := ⟨b, off + k * 3 + 2, none⟩) hb).trans HP.out.2.2
      have HO := Lib.hid (And.intro hown1 hbe1)
      have hs1 := hbe1.size
      clear H hown1 hbe1 hb1 q0 q1 q2
      cases T with
      | false =>
        have HE := Lib.hid (show w1.ownsRow w.heap.size 83 3 (.slice A' m c') m (eList eUs ((xs.take (k + 1)).filter (mayU lines))) ∧ Below w.heap.size w w1 from ⟨by rw [HST.out]; simpa using HO.out.1, HO.out.2⟩)
        clear r0 r1 r2
        go_wp2
        go_roundw
        case rel => exact ⟨k + 1, m, A', c', by omega, by omega, by go_num, rfl, HE.out⟩
        case measure => simp [intOf]; omega
      | true =>
        go_wp2_with (first | (at_builtin; refine wpList_app rfl (.tmp 23) (.tmp 28) 77 rfl Try.underlying77 info_use rfl (by omega) (by omega) rfl (HO.out.1.alloc _) rfl (heap_alloc_new w1 _) rfl (by simp [Value.oneCell']) (by omega) (by simp; omega) ?_; intro g cap w2 hown2 hg hor hlt2))
        have hbe := (HO.out.2.alloc HO.out.2.size _).grown hg (by simp; omega) (own_base HO.out.1)
        have HE := Lib.hid (show w2.ownsRow w.heap.size 83 3 (.slice (some ⟨g, 0, none⟩) (m + 1) cap) (m + 1) (eList eUs ((xs.take (k + 1)).filter (mayU lines))) ∧ Below w.heap.size w w2 from ⟨by rw [HST.out]; simp only [if_true]; rw [eList_snoc]; exact hown2, hbe⟩)
        clear hown2 hg hor hlt2 hbe r0 r1 r2
        go_roundw
        case rel => exact ⟨k + 1, m + 1, some ⟨g, 0, none⟩, cap, by omega, by omega, by go_num, rfl, HE.out⟩
        case measure => simp [intOf]; omega
    · have hkn : k = n := by omega
      subst hkn
      have hown := H.out.1
      rw [List.take_of_length_le (by have := HLEN.out; omega)] at hown
      have hyl := ownU_zlen hown
      have hMl := HM.out.len
      rw [hyl] at hMl
      have hperm := HM.out.perm
      have hsrt := HM.out.srt
      rw [hyl] at hperm
      obtain ⟨ys, hys⟩ : ∃ ys, xs.filter (mayU lines) = ys := ⟨_, rfl⟩
      rw [hys] at hown hyl hsrt
      have hsl := Sl.own (k := 3) (fun _ => rfl) (by omega) hown
      have hmk := fun w => makeU_run m (by omega) w
      have hown0 := makeU_own m (by omega) wr
      have hbw := H.out.2
      have HYS := Lib.hid hys
      have HO := Lib.hid hown0
      have HSL := Lib.hid hsl
      have HBW := Lib.hid hbw
      have HPS := Lib.hid (And.intro hperm (And.intro hsrt hMl))
      have hbs := hbw.size
      have hlt' : ¬ (k : Int) < (k : Int) := by omega
      obtain ⟨wo, rfl⟩ : ∃ wo : World, wo = wr := ⟨_, rfl⟩
      clear hown hyl hMl hperm hsrt hys hsl hown0 hbw H
      go_wp2_with fail
      clear hmk
      go_loopw [8] (fun i wr => ∃ I : Nat, I ≤ m ∧ i = .int .i64 I ∧ Hid ((∃ O, Put (uOf ys) M I O ∧ wr.ownsRow wo.heap.size 83 3 (.slice (some ⟨wo.heap.size, 0, none⟩) m m) m (eList eUs O)) ∧ Below wo.heap.size wo wr)) (fun i _ => m - (intOf i).toNat)
      case atStart => exact ⟨0, Nat.zero_le _, rfl, ⟨_, Put.zero (by rw [List.length_replicate, HPS.out.2.2]), HO.out⟩, by ((try change Below _ _ _); (repeat (any_goals (first | (with_reducible exact Below.refl _ _) | (with_reducible exact Below.refl _ _) | (with_reducible apply Below.drew) | (with_reducible apply below_drewN) | (with_reducible refine Below.alloc ?_ ?_ _) | (with_reducible refine Below.setCell ?_ ?_ _)))); all_goals (first | exact Nat.le_refl _ | (simp; done) | (simp; omega) | omega | (dsimp only; omega)))⟩
      case round =>
        clear HO
        obtain ⟨I, hI, rfl, H⟩ := hrel
        obtain ⟨w5, rfl⟩ : ∃ w5 : World, w5 = wr := ⟨_, rfl⟩
        by_cases hlt : I < m
        · have hltI : (I : Int) < (m : Int) := by omega
          obtain ⟨bI, oI, z, hAe, hbI, hzI, _⟩ := HSL.out.us_ hlt
          obtain ⟨z0, z1, z2⟩ := z
          subst hAe
          have HZ := Lib.hid hzI
          clear hzI
          go_wp2_with fail
          go_loopw [9, 10] (fun u v wr => ∃ K r : Nat, K ≤ m ∧ r ≤ K ∧ u = .int .i64 r ∧ v = .int .i64 K ∧ Hid (r = rankN cfU (uOf ys) K I ∧ Below w5.heap.size w5 wr)) (fun _ v _ => m - (intOf v).toNat)
          case atStart => exact ⟨0, 0, Nat.zero_le _, Nat.le_refl _, rfl, rfl, by simp [rankN], Below.refl _ _⟩
          case round =>
            obtain ⟨K, r, hK, hr, rfl, rfl, H2⟩ := hrel
            obtain ⟨O, hP, hown⟩ := H.out.1
            have hbo : Below wo.heap.size wo wr := H.out.2.trans (H2.out.2.mono H.out.2.size)
            by_cases hltK : K < m
            · have hltK' : (K : Int) < (m : Int) := by omega
              obtain ⟨bK, oK, y, hAe, hbK, hyK, c0, c1, c2⟩ := HSL.out.us_ hltK
              injection hAe with hAe
              injection hAe with hAe1 hAe2 _
              subst hAe1 hAe2
              obtain ⟨bJ, oJ, z', hAe, hbJ, hzJ, d0, d1, d2⟩ := HSL.out.us_ hlt
              injection hAe with hAe
              injection hAe with hAe1 hAe2 _
              subst hAe1 hAe2
              rw [HZ.out] at hzJ
              injection hzJ with hzJ
              subst hzJ
              have hst := rankU_step hyK HZ.out
              rw [← H2.out.1] at hst
              obtain ⟨y0, y1, y2⟩ := y
              simp only at c0 c1 c2 d0 d1 d2
              have hb1 := fewB_iff y0 y1 y2 z0 z1 z2
              have hb2 := fewB_iff z0 z1 z2 y0 y1 y2
              have hst2 : rankN cfU (uOf ys) (K + 1) I = r + if fewB y0 y1 y2 z0 z1 z2 = true ∨ (¬ fewB z0 z1 z2 y0 y1 y2 = true ∧ K < I) then 1 else 0 := by
                rw [hst]
                simp only [hb1, hb2]
              clear hst
              have hst := hst2
              clear hst2 hb1 hb2
              have hcd : ∀ p : Past wr, (p.w.cell? ⟨bI, oI + K * 3, none⟩ = some (.int .i64 y0) ∧ p.w.cell? ⟨bI, oI + K * 3 + 1, none⟩ = some (.int .i64 y1) ∧ p.w.cell? ⟨bI, oI + K * 3 + 2, none⟩ = some (.int .i64 y2)) ∧ (p.w.cell? ⟨bI, oI + I * 3, none⟩ = some (.int .i64 z0) ∧ p.w.cell? ⟨bI, oI + I * 3 + 1, none⟩ = some (.int .i64 z1) ∧ p.w.cell? ⟨bI, oI + I * 3 + 2, none⟩ = some (.int .i64 z2)) := fun p => by
                have hbp := hbo.trans (p.h.mono hbo.size)
                exact ⟨⟨(hbp.cell (p := ⟨bI, _, none⟩) hbI).trans c0, (hbp.cell (p := ⟨bI, _, none⟩) hbI).trans c1, (hbp.cell (p := ⟨bI, _, none⟩) hbI).trans c2⟩, (hbp.cell (p := ⟨bI, _, none⟩) hbI).trans d0, (hbp.cell (p := ⟨bI, _, none⟩) hbI).trans d1, (hbp.cell (p := ⟨bI, _, none⟩) hbI).trans d2⟩
              have e0 := fun p => (hcd p).1.1
              have e1 := fun p => (hcd p).1.2.1
              have e2 := fun p => (hcd p).1.2.2
              have k0 := fun p => (hcd p).2.1
              have k1 := fun p => (hcd p).2.2.1
              have k2 := fun p => (hcd p).2.2.2
              have H2B := Lib.hid H2.out.2
              clear hcd c0 c1 c2 d0 d1 d2 hyK hP hown H2 hbo
              cases t1 : fewB y0 y1 y2 z0 z1 z2 with
              | true =>
                rw [if_pos (Or.inl t1)] at hst
                have HST := Lib.hid hst
                clear hst
                go_wp2_with fail
                refine wp_region_quiet_past (by kernel_rfl) (by kernel_rfl) ?_
                repeat (refine qw_step (fun K_ hK_ => ?_); go_simp; first | (refine hK_ _ ?_; clear hK_ K_) | (apply Exists.intro; refine ⟨fun _ => ?_, hK_ _ ?_⟩; (go_at_call 77; exact calls_past_of (refFewer6 _ _ _ _ _ _ _)); clear hK_ K_) | (rw [if_pos (by first | assumption | omega)]; first | (refine hK_ _ ?_; clear hK_ K_) | (apply Exists.intro; refine ⟨fun _ => ?_, hK_ _ ?_⟩; (go_at_call 77; exact calls_past_of (refFewer6 _ _ _ _ _ _ _)); clear hK_ K_)) | (rw [if_neg (by first | assumption | omega)]; first | (refine hK_ _ ?_; clear hK_ K_) | (apply Exists.intro; refine ⟨fun _ => ?_, hK_ _ ?_⟩; (go_at_call 77; exact calls_past_of (refFewer6 _ _ _ _ _ _ _)); clear hK_ K_)))
                refine qw_nil ?_
                intro WQ hw_
                obtain ⟨p_, hp_⟩ := hw_
                have HQ := p_.h
                rw [← hp_] at HQ
                clear hp_ p_
                have HN := Lib.hid (below_tr H2B.out HQ)
                clear HQ e0 e1 e2 k0 k1 k2
                go_wp2
                go_roundw
                case rel => exact ⟨K + 1, r + 1, by omega, by omega, by go_num, by go_num, HST.out.symm, HN.out⟩
                case measure => simp [intOf]; omega
              | false =>
                cases t2 : fewB z0 z1 z2 y0 y1 y2 with
                | true =>
                  rw [if_neg (by rw [t1, t2]; simp)] at hst
                  have HST := Lib.hid hst
                  clear hst
                  go_wp2_with fail
                  refine wp_region_quiet_past (by kernel_rfl) (by kernel_rfl) ?_
                  repeat (refine qw_step (fun K_ hK_ => ?_); go_simp; first | (refine hK_ _ ?_; clear hK_ K_) | (apply Exists.intro; refine ⟨fun _ => ?_, hK_ _ ?_⟩; (go_at_call 77; exact calls_past_of (refFewer6 _ _ _ _ _ _ _)); clear hK_ K_) | (rw [if_pos (by first | assumption | omega)]; first | (refine hK_ _ ?_; clear hK_ K_) | (apply Exists.intro; refine ⟨fun _ => ?_, hK_ _ ?_⟩; (go_at_call 77; exact calls_past_of (refFewer6 _ _ _ _ _ _ _)); clear hK_ K_)) | (rw [if_neg (by first | assumption | omega)]; first | (refine hK_ _ ?_; clear hK_ K_) | (apply Exists.intro; refine ⟨fun _ => ?_, hK_ _ ?_⟩; (go_at_call 77; exact calls_past_of (refFewer6 _ _ _ _ _ _ _)); clear hK_ K_)))
                  refine qw_nil ?_
                  intro WQ hw_
                  obtain ⟨p_, hp_⟩ := hw_
                  have HQ := p_.h
                  rw [← hp_] at HQ
                  clear hp_ p_
                  have HN := Lib.hid (below_tr H2B.out HQ)
                  clear HQ e0 e1 e2 k0 k1 k2
                  go_wp2
                  go_roundw
                  case rel => exact ⟨K + 1, r, by omega, by omega, rfl, by go_num, HST.out.symm, HN.out⟩
                  case measure => simp [intOf]; omega
                | false =>
                  by_cases t3 : K < I
                  · have t3' : decide ((K : Int) < (I : Int)) = true := by simpa using t3
                    have t3'' : (K : Int) < (I : Int) := by omega
                    rw [if_pos (Or.inr ⟨by rw [t2]; simp, t3⟩)] at hst
                    have HST := Lib.hid hst
                    clear hst
                    go_wp2_with fail
                    refine wp_region_quiet_past (by kernel_rfl) (by kernel_rfl) ?_
                    repeat (refine qw_step (fun K_ hK_ => ?_); go_simp; first | (refine hK_ _ ?_; clear hK_ K_) | (apply Exists.intro; refine ⟨fun _ => ?_, hK_ _ ?_⟩; (go_at_call 77; exact calls_past_of (refFewer6 _ _ _ _ _ _ _)); clear hK_ K_) | (rw [if_pos (by first | assumption | omega)]; first | (refine hK_ _ ?_; clear hK_ K_) | (apply Exists.intro; refine ⟨fun _ => ?_, hK_ _ ?_⟩; (go_at_call 77; exact calls_past_of (refFewer6 _ _ _ _ _ _ _)); clear hK_ K_)) | (rw [if_neg (by first | assumption | omega)]; first | (refine hK_ _ ?_; clear hK_ K_) | (apply Exists.intro; refine ⟨fun _ => ?_, hK_ _ ?_⟩; (go_at_call 77; exact calls_past_of (refFewer6 _ _ _ _ _ _ _)); clear hK_ K_)))
                    refine qw_nil ?_
                    intro WQ hw_
                    obtain ⟨p_, hp_⟩ := hw_
                    have HQ := p_.h
                    rw [← hp_] at HQ
                    clear hp_ p_
                    have HN := Lib.hid (below_tr H2B.out HQ)
                    clear HQ e0 e1 e2 k0 k1 k2
                    go_wp2
                    go_roundw
                    case rel => exact ⟨K + 1, r + 1, by omega, by omega, by go_num, by go_num, HST.out.symm, HN.out⟩
                    case measure => simp [intOf]; omega
                  · have t3' : decide ((K : Int) < (I : Int)) = false := by simpa using t3
                    have t3'' : ¬ (K : Int) < (I : Int) := by omega
                    rw [if_neg (by rw [t1]; simp; omega)] at hst
                    have HST := Lib.hid hst
                    clear hst
                    go_wp2_with fail
                    refine wp_region_quiet_past (by kernel_rfl) (by kernel_rfl) ?_
                    repeat (refine qw_step (fun K_ hK_ => ?_); go_simp; first | (refine hK_ _ ?_; clear hK_ K_) | (apply Exists.intro; refine ⟨fun _ => ?_, hK_ _ ?_⟩; (go_at_call 77; exact calls_past_of (refFewer6 _ _ _ _ _ _ _)); clear hK_ K_) | (rw [if_pos (by first | assumption | omega)]; first | (refine hK_ _ ?_; clear hK_ K_) | (apply Exists.intro; refine ⟨fun _ => ?_, hK_ _ ?_⟩; (go_at_call 77; exact calls_past_of (refFewer6 _ _ _ _ _ _ _)); clear hK_ K_)) | (rw [if_neg (by first | assumption | omega)]; first | (refine hK_ _ ?_; clear hK_ K_) | (apply Exists.intro; refine ⟨fun _ => ?_, hK_ _ ?_⟩; (go_at_call 77; exact calls_past_of (refFewer6 _ _ _ _ _ _ _)); clear hK_ K_)))
                    refine qw_nil ?_
                    intro WQ hw_
                    obtain ⟨p_, hp_⟩ := hw_
                    have HQ := p_.h
                    rw [← hp_] at HQ
                    clear hp_ p_
                    have HN := Lib.hid (below_tr H2B.out HQ)
                    clear HQ e0 e1 e2 k0 k1 k2
                    go_wp2
                    go_roundw
                    case rel => exact ⟨K + 1, r, by omega, by omega, rfl, by go_num, HST.out.symm, HN.out⟩
                    case measure => simp [intOf]; omega
            · have hKn : K = m := by omega
              subst hKn
              have hput := Put.succ cfU_ok HPS.out.1 HPS.out.2.1 hP hlt
              rw [uOf_get HZ.out, ← H2.out.1] at hput
              obtain ⟨hrn, hput⟩ := hput
              have hown' := own_below hown H2.out.2
              have hOl := ownU_zlen hown'
              obtain ⟨y, hy⟩ : ∃ y, O[r]? = some y := ⟨O[r]'(by omega), List.getElem?_eq_getElem _⟩
              obtain ⟨y0, y1, y2⟩ := y
              obtain ⟨d0, d1, d2⟩ := ownU_cells hown' hy
              dsimp only at d0 d1 d2
              have f0 := own_frozen hown' (r * 3)
              have f1 := own_frozen hown' (r * 3 + 1)
              have f2 := own_frozen hown' (r * 3 + 2)
              obtain ⟨bJ, oJ, z', hAe, hbJ, hzJ, c0, c1, c2⟩ := HSL.out.us_ hlt
              injection hAe with hAe
              injection hAe with hAe1 hAe2 _
              subst hAe1 hAe2
              rw [HZ.out] at hzJ
              injection hzJ with hzJ
              subst hzJ
              dsimp only at c0 c1 c2
              replace c0 := (hbo.cell (p := ⟨bI, _, none⟩) hbI).trans c0
              replace c1 := (hbo.cell (p := ⟨bI, _, none⟩) hbI).trans c1
              replace c2 := (hbo.cell (p := ⟨bI, _, none⟩) hbI).trans c2
              have own1 : (((wr.setCell ⟨wo.heap.size, r * 3, none⟩ (.int .i64 z0)).setCell ⟨wo.heap.size, r * 3 + 1, none⟩ (.int .i64 z1)).setCell ⟨wo.heap.size, r * 3 + 2, none⟩ (.int .i64 z2)).ownsRow wo.heap.size 83 3 (.slice (some ⟨wo.heap.size, 0, none⟩) K K) K (eList eUs (O.set r ⟨z0, z1, z2⟩)) := by
                have h := (((hown'.stored (r * 3) (.int .i64 z0)).1.stored (r * 3 + 1) (.int .i64 z1)).1.stored (r * 3 + 2) (.int .i64 z2)).1
                rwa [set3 eUs_len O r ⟨z0, z1, z2⟩ (by omega) (.int .i64 z0) (.int .i64 z1) (.int .i64 z2) rfl] at h
              have hb3 : Below wo.heap.size wo (((wr.setCell ⟨wo.heap.size, r * 3, none⟩ (.int .i64 z0)).setCell ⟨wo.heap.size, r * 3 + 1, none⟩ (.int .i64 z1)).setCell ⟨wo.heap.size, r * 3 + 2, none⟩ (.int .i64 z2)) :=
                ((hbo.setCell (p := ⟨wo.heap.size, r * 3, none⟩) (Nat.le_refl _) _).setCell (p := ⟨wo.heap.size, r * 3 + 1, none⟩) (Nat.le_refl _) _).setCell (p := ⟨wo.heap.size, r * 3 + 2, none⟩) (Nat.le_refl _) _
              have HE := Lib.hid (And.intro hput (And.intro own1 hb3))
              clear hput own1 hb3 hbo hown hown' hP hOl hy H H2 hbJ
              go_wp2
              go_roundw
              case rel => exact ⟨I + 1, by omega, by go_num, ⟨_, HE.out.1, HE.out.2.1⟩, HE.out.2.2⟩
              case measure => simp [intOf]; omega
        · have hIn : I = m := by omega
          subst hIn
          obtain ⟨O, hP, hown⟩ := H.out.1
          have hO := hP.done HPS.out.1
          subst hO
          have HE := Lib.hid (show RefRankPost lines xs M w (.returned (.slice (some ⟨wo.heap.size, 0, none⟩) I I)) w5 from ⟨_, I, by rw [HPS.out.2.2], by rw [HPS.out.2.2, zOf, HYS.out]; exact own_mono hown hbs, HBW.out.trans (H.out.2.mono hbs)⟩)
          clear hP hown H
          go_wp2
          go_ret
          exact HE.out
end Go.Proofs.Ytdjfkehbknbocaa

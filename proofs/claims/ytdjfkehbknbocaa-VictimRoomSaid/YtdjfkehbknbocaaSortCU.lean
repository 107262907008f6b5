/- slices' stable sort at rows of Us: insertionSort. -/
import Derived.Test.YtdjfkehbknbocaaSortAU
import Derived.Test.YtdjfkehbknbocaaSortO
import Derived.Test.YtdjfkehbknbocaaQuiet
import Derived.Deep.Cut
namespace Go.Proofs.Ytdjfkehbknbocaa
open Go.RowKit
set_option linter.unusedSimpArgs false
set_option linter.unusedVariables false

set_option maxRecDepth 100000 in
set_option maxHeartbeats 40000000 in
theorem insertU_any (cf : Us → Us → Int) (hcmp : ∀ u v W, Calls Try.prog 74 #[u.agg, v.agg] W fun e w' => e = .returned (.int .i64 (cf u v)) ∧ Below W.heap.size W w') (hok : CmpOK cf) (A : Option Addr) (n c base a b : Nat) (x : Nat → Us) (P L B : List Nat) (w : World) (hbig : n ≤ 1000000000)
    (hA : w.ownsRow base 83 3 (.slice A n c) n (eList eUs ((P ++ (L ++ B)).map x))) (hP : P.length = a) (hL : a + L.length = b) (hinc : L.Pairwise (· < ·)) :
    Calls Try.prog 88 #[.slice A n c, .int .i64 a, .int .i64 b, .func (.func 74) #[] #[]] w fun e w' => (∃ v, e = .returned v) ∧ ∃ M, M.Perm L ∧ Srt cf x M ∧ w'.ownsRow base 83 3 (.slice A n c) n (eList eUs ((P ++ (M ++ B)).map x)) ∧ w.grownBy w' (Value.slice A n c).ownBlock := by
  have hzl := ownU_zlen hA
  simp only [List.length_map, List.length_append] at hzl
  have HA := Lib.hid hA
  clear hA
  have HCMP := Lib.hid hcmp
  clear hcmp
  go_enter Try.func88, Try.ntmps88
  go_wp2_with fail
  go_loopw [8] (fun u wr => ∃ r : Nat, 1 ≤ r ∧ (r ≤ L.length ∨ r = 1) ∧ u = .int .i64 ((a : Int) + (r : Int)) ∧ Hid (∃ M, M.Perm (L.take r) ∧ Srt cf x M ∧ wr.ownsRow base 83 3 (.slice A n c) n (eList eUs ((P ++ (M ++ (L.drop r ++ B))).map x)) ∧ w.grownBy wr (Value.slice A n c).ownBlock)) (fun u _ => b + 2 - (intOf u).toNat)
  case atStart =>
    refine ⟨1, Nat.le_refl _, .inr rfl, rfl, L.take 1, List.Perm.refl _, ?_, ?_, grown_of_below (Below.refl _ _) _⟩
    · cases L with
      | nil => exact List.Pairwise.nil
      | cons y ys => simp
    · rw [← List.append_assoc (L.take 1), List.take_append_drop]
      exact HA.out
  case round =>
    clear HA
    obtain ⟨r, hr1, hr2, rfl, H⟩ := hrel
    by_cases hlt : r < L.length
    · have hlt' : (a : Int) + (r : Int) < (b : Int) := by omega
      obtain ⟨M, hM, hS, hown, hgr⟩ := H.out
      have hMl : M.length = r := by rw [hM.length_eq, List.length_take]; omega
      obtain ⟨e, he⟩ : ∃ e, L[r]? = some e := ⟨L[r], List.getElem?_eq_getElem hlt⟩
      have hdr : L.drop r = e :: L.drop (r + 1) := by
        rw [List.drop_eq_getElem_cons hlt]
        rw [List.getElem?_eq_getElem hlt] at he
        injection he with he
        rw [he]
      have hbel : ∀ v ∈ M, v < e := fun v hv => by
        have h1 := hM.mem_iff.1 hv
        have h2 : (L.take r ++ L.drop r).Pairwise (· < ·) := by rw [List.take_append_drop]; exact hinc
        have h3 := (List.pairwise_append.1 h2).2.2 v h1 e (by rw [hdr]; simp)
        exact h3
      have hpt : L.take (r + 1) = L.take r ++ [e] := by rw [List.take_add_one, he]; rfl
      rw [hdr] at hown
      have HIN := Lib.hid (show ∃ U V, U ++ V = M ∧ (∀ v ∈ V, pre cf x e v) ∧ wr.ownsRow base 83 3 (.slice A n c) n (eList eUs ((P ++ (U ++ (e :: (V ++ (L.drop (r + 1) ++ B))))).map x)) ∧ w.grownBy wr (Value.slice A n c).ownBlock from ⟨M, [], by simp, by simp, by simpa using hown, hgr⟩)
      have HSTART := Lib.hid hown
      have HM := Lib.hid (And.intro hM (And.intro hS (And.intro hdr (And.intro hbel hpt))))
      obtain ⟨wo, rfl⟩ : ∃ wo : World, wo = wr := ⟨_, rfl⟩
      clear H hown hgr hM hS hdr hbel hpt
      go_wp2_with fail
      go_loopw [9] (fun u wr => ∃ q : Nat, q ≤ r ∧ u = .int .i64 ((a : Int) + (q : Int)) ∧ Hid (∃ U V, U.length = q ∧ U ++ V = M ∧ (∀ v ∈ V, pre cf x e v) ∧ wr.ownsRow base 83 3 (.slice A n c) n (eList eUs ((P ++ (U ++ (e :: (V ++ (L.drop (r + 1) ++ B))))).map x)) ∧ w.grownBy wr (Value.slice A n c).ownBlock)) (fun u _ => (intOf u).toNat)
      case atStart =>
        obtain ⟨U, V, h1, h2, h3, h4⟩ := HIN.out
        exact ⟨M.length, by omega, by rw [hMl], M, [], rfl, by simp, by simp, by simpa using HSTART.out, h4⟩
      case round =>
        clear HIN
        obtain ⟨q, hq, rfl, H2⟩ := hrel
        obtain ⟨U, V, hUq, hUV, hV, hwr, hgr⟩ := H2.out
        have hexit : (∀ u, U.getLast? = some u → pre cf x u e) → ∀ WQ, Below wr.heap.size wr WQ → Hid (∃ M, M.Perm (L.take (r + 1)) ∧ Srt cf x M ∧ WQ.ownsRow base 83 3 (.slice A n c) n (eList eUs ((P ++ (M ++ (L.drop (r + 1) ++ B))).map x)) ∧ w.grownBy WQ (Value.slice A n c).ownBlock) := fun hu WQ hWQ => by
          refine ⟨U ++ (e :: V), ?_, srt_insert hok (by rw [hUV]; exact HM.out.2.1) hV hu, ?_, grown_tr hgr (grown_of_below hWQ _)⟩
          · rw [HM.out.2.2.2.2]
            refine List.perm_middle.trans ?_
            rw [hUV]
            exact ((List.Perm.cons e HM.out.1)).trans (List.perm_append_comm (l₁ := [e]) (l₂ := L.take r))
          · have := own_below hwr hWQ
            simpa [List.append_assoc] using this
        have HEX := Lib.hid hexit
        have HWR := Lib.hid (And.intro hwr hgr)
        clear hexit H2
        rcases Nat.eq_zero_or_pos q with hq0 | hq0
        · subst hq0
          have hU0 : U = [] := List.length_eq_zero_iff.1 hUq
          have hng : ¬ (a : Int) < (a : Int) + ((0 : Nat) : Int) := by omega
          clear hwr hgr
          go_wp2_with fail
          refine wp_region_quiet_past (by kernel_rfl) (by kernel_rfl) ?_
          repeat (refine qw_step (fun K_ hK_ => ?_); go_simp; first | (refine hK_ _ ?_; clear hK_ K_) | (apply Exists.intro; refine ⟨fun _ => ?_, hK_ _ ?_⟩; (fail); clear hK_ K_) | (rw [if_pos (by first | assumption | omega)]; first | (refine hK_ _ ?_; clear hK_ K_) | (apply Exists.intro; refine ⟨fun _ => ?_, hK_ _ ?_⟩; (fail); clear hK_ K_)) | (rw [if_neg (by first | assumption | omega)]; first | (refine hK_ _ ?_; clear hK_ K_) | (apply Exists.intro; refine ⟨fun _ => ?_, hK_ _ ?_⟩; (fail); clear hK_ K_)))
          refine qw_nil ?_
          intro WQ hw_
          obtain ⟨p_, hp_⟩ := hw_
          have HQ := p_.h
          rw [← hp_] at HQ
          clear hp_ p_
          have HN := Lib.hid (HEX.out (by rw [hU0]; intro u h; cases h) WQ HQ)
          clear HQ
          go_wp2
          go_roundw
          case rel => exact ⟨r + 1, by omega, .inl (by omega), by go_num, HN.out⟩
          case measure => simp [intOf]; omega
        · obtain ⟨s, hqs⟩ : ∃ s, q = s + 1 := ⟨q - 1, by omega⟩
          obtain ⟨U', uu, rfl⟩ : ∃ U' uu, U = U' ++ [uu] := by
            rcases List.eq_nil_or_concat U with h | ⟨U', uu, h⟩
            · rw [h] at hUq; simp at hUq; omega
            · exact ⟨U', uu, by rw [h, List.concat_eq_append]⟩
          have hU's : U'.length = s := by simp at hUq; omega
          have hue : uu < e := HM.out.2.2.2.1 uu (by rw [← hUV]; simp)
          have hwz := ownU_zlen hwr
          have ge : ((P ++ ((U' ++ [uu]) ++ (e :: (V ++ (L.drop (r + 1) ++ B))))).map x)[a + q]? = some (x e) := by
            rw [hqs, List.getElem?_map, List.getElem?_append_right (by omega), List.getElem?_append_right (by simp; omega)]
            simp [hP, hU's]
          have gu : ((P ++ ((U' ++ [uu]) ++ (e :: (V ++ (L.drop (r + 1) ++ B))))).map x)[a + s]? = some (x uu) := by
            rw [List.getElem?_map, List.getElem?_append_right (by omega), List.getElem?_append_left (by simp; omega), List.getElem?_append_right (by omega)]
            simp [hP, hU's]
          have hsw : ((P ++ ((U' ++ [uu]) ++ (e :: (V ++ (L.drop (r + 1) ++ B))))).map x |>.set (a + q) (x uu) |>.set (a + s) (x e)) = (P ++ (U' ++ (e :: ((uu :: V) ++ (L.drop (r + 1) ++ B))))).map x := by
            rw [hqs]
            simp only [List.map_append, List.map_cons, List.map_nil]
            rw [List.set_append_right _ _ (by simp; omega), List.set_append_right _ _ (by simp; omega), List.set_append_right _ _ (by simp; omega)]
            simp only [List.length_map, List.length_append, List.length_cons, List.length_nil, hP, hU's]
            have e1 : a + (s + 1) - a - (s + (0 + 1)) = 0 := by omega
            have e2 : a + s - a = s := by omega
            rw [e1, e2, List.set_cons_zero, List.set_append_left _ _ (by simp; omega), List.set_append_right _ _ (by simp; omega)]
            simp [hU's, List.append_assoc]
          have hpe : cf (x e) (x uu) < 0 ↔ pre cf x e uu := cmp_lt_iff hok hue
          have hpn : ¬ cf (x e) (x uu) < 0 → pre cf x uu e := not_lt_pre hok hue
          have hq1 : (a : Int) + (q : Int) - 1 = (a : Int) + (s : Int) := by omega
          have hgt : (a : Int) < (a : Int) + (q : Int) := by omega
          have hi1 : (a : Int) + (q : Int) < (n : Int) := by simp at hwz; omega
          have hi2 : (a : Int) + (s : Int) < (n : Int) := by omega
          obtain ⟨J, hJ⟩ : ∃ J, a + q = J := ⟨_, rfl⟩
          obtain ⟨J1, hJ1⟩ : ∃ J1, a + s = J1 := ⟨_, rfl⟩
          have hJi : (a : Int) + (q : Int) = (J : Int) := by omega
          have hJi1 : (a : Int) + (s : Int) = (J1 : Int) := by omega
          rw [hJi]
          rw [hJ] at ge hsw
          rw [hJ1] at gu hsw
          have hq2 : (J : Int) - 1 = (J1 : Int) := by omega
          have hgt2 : (a : Int) < (J : Int) := by omega
          have hi3 : (J : Int) < (n : Int) := by omega
          have hi4 : (J1 : Int) < (n : Int) := by omega
          have hne : J1 < J := by omega
          have hw2 : IntKind.i64.wrap (J1 : Int) = (J1 : Int) := wrapN J1 (by omega)
          have hw3 : IntKind.i64.wrap ((J : Int) - 1) = (J1 : Int) := by rw [hq2]; exact hw2
          have hJn : J < n := by omega
          have HJI := Lib.hid hJi1
          clear hJ hJ1 hJi hJi1 hq1 hgt hi1 hi2
          obtain ⟨g, cap, hv, hgb, hgl⟩ := hwr.form (by omega)
          injection hv with hv1 hv2 hv3
          subst hv1 hv3
          obtain ⟨E, hE⟩ : ∃ E, x e = E := ⟨_, rfl⟩
          obtain ⟨F, hF⟩ : ∃ F, x uu = F := ⟨_, rfl⟩
          rw [hE] at ge
          rw [hF] at gu
          rw [hE, hF] at hpe hpn hsw
          obtain ⟨x0, x1, x2⟩ := E
          obtain ⟨y0, y1, y2⟩ := F
          have hc := fun W => HCMP.out ⟨x0, x1, x2⟩ ⟨y0, y1, y2⟩ W
          simp only [Us.agg] at hc
          generalize cf ⟨x0, x1, x2⟩ ⟨y0, y1, y2⟩ = Z at hc hpe hpn
          have HQS := Lib.hid hqs
          clear hqs
          have hcl := fun W (hW : Below wr.heap.size wr W) => ownU_cells (own_below hwr hW) ge
          have hdl := fun W (hW : Below wr.heap.size wr W) => ownU_cells (own_below hwr hW) gu
          dsimp only at hcl hdl
          have HCL := Lib.hid hcl
          have HDL := Lib.hid hdl
          have HSW := Lib.hid hsw
          have hz0 : ((P ++ ((U' ++ [uu]) ++ (e :: (V ++ (L.drop (r + 1) ++ B))))).map x).length = n := hwz
          have HZ0 := Lib.hid hz0
          have HC := Lib.hid hc
          clear hc
          have HPE := Lib.hid hpe
          clear hpe
          have HPN := Lib.hid hpn
          clear hpn
          clear hcl hdl hsw ge gu hE hF hz0 hwz hwr hgr
          have e0 := fun p : Past wr => (HCL.out p.w p.h).1
          have k0 := fun p : Past wr => (HDL.out p.w p.h).1
          have e1 := fun p : Past wr => (HCL.out p.w p.h).2.1
          have k1 := fun p : Past wr => (HDL.out p.w p.h).2.1
          have e2 := fun p : Past wr => (HCL.out p.w p.h).2.2
          have k2 := fun p : Past wr => (HDL.out p.w p.h).2.2
          by_cases hz : Z < 0
          · go_wp2_with fail
            refine wp_region_quiet_past (by kernel_rfl) (by kernel_rfl) ?_
            repeat (refine qw_step (fun K_ hK_ => ?_); go_simp; first | (refine hK_ _ ?_; clear hK_ K_) | (apply Exists.intro; refine ⟨fun _ => ?_, hK_ _ ?_⟩; (go_at_call 74; exact calls_past_of (HC.out _)); clear hK_ K_) | (rw [if_pos (by first | assumption | omega)]; first | (refine hK_ _ ?_; clear hK_ K_) | (apply Exists.intro; refine ⟨fun _ => ?_, hK_ _ ?_⟩; (go_at_call 74; exact calls_past_of (HC.out _)); clear hK_ K_)) | (rw [if_neg (by first | assumption | omega)]; first | (refine hK_ _ ?_; clear hK_ K_) | (apply Exists.intro; refine ⟨fun _ => ?_, hK_ _ ?_⟩; (go_at_call 74; exact calls_past_of (HC.out _)); clear hK_ K_)))
            refine qw_nil ?_
            intro WQ hw_
            obtain ⟨p_, hp_⟩ := hw_
            have HQ := p_.h
            rw [← hp_] at HQ
            clear hp_ p_
            have hwq := own_below HWR.out.1 HQ
            have hgq := grown_tr HWR.out.2 (grown_of_below HQ _)
            obtain ⟨c0, c1, c2⟩ := HCL.out WQ HQ
            obtain ⟨d0, d1, d2⟩ := HDL.out WQ HQ
            have f0 := own_frozen hwq (J1 * 3)
            have h0 := own_frozen hwq (J * 3)
            have f1 := own_frozen hwq (J1 * 3 + 1)
            have h1 := own_frozen hwq (J * 3 + 1)
            have f2 := own_frozen hwq (J1 * 3 + 2)
            have h2 := own_frozen hwq (J * 3 + 2)
            have HWQ := Lib.hid (And.intro hwq hgq)
            clear HQ hwq hgq e0 e1 e2 k0 k1 k2
            go_wp2_with fail
            go_region
            have hwq := HWQ.out.1
            have hgq := HWQ.out.2
            have own1 : (((WQ.setCell ⟨g, J * 3, none⟩ (.int .i64 y0)).setCell ⟨g, J * 3 + 1, none⟩ (.int .i64 y1)).setCell ⟨g, J * 3 + 2, none⟩ (.int .i64 y2)).ownsRow base 83 3 (.slice (some ⟨g, 0, none⟩) n c) n (eList eUs (((P ++ ((U' ++ [uu]) ++ (e :: (V ++ (L.drop (r + 1) ++ B))))).map x).set J ⟨y0, y1, y2⟩)) := by
              have h := (((hwq.stored (J * 3) (.int .i64 y0)).1.stored (J * 3 + 1) (.int .i64 y1)).1.stored (J * 3 + 2) (.int .i64 y2)).1
              rwa [set3 eUs_len _ J ⟨y0, y1, y2⟩ (by rw [HZ0.out]; omega) (.int .i64 y0) (.int .i64 y1) (.int .i64 y2) rfl] at h
            have own2 : ((((((WQ.setCell ⟨g, J * 3, none⟩ (.int .i64 y0)).setCell ⟨g, J * 3 + 1, none⟩ (.int .i64 y1)).setCell ⟨g, J * 3 + 2, none⟩ (.int .i64 y2)).setCell ⟨g, J1 * 3, none⟩ (.int .i64 x0)).setCell ⟨g, J1 * 3 + 1, none⟩ (.int .i64 x1)).setCell ⟨g, J1 * 3 + 2, none⟩ (.int .i64 x2)).ownsRow base 83 3 (.slice (some ⟨g, 0, none⟩) n c) n (eList eUs ((((P ++ ((U' ++ [uu]) ++ (e :: (V ++ (L.drop (r + 1) ++ B))))).map x).set J ⟨y0, y1, y2⟩).set J1 ⟨x0, x1, x2⟩)) := by
              have h := (((own1.stored (J1 * 3) (.int .i64 x0)).1.stored (J1 * 3 + 1) (.int .i64 x1)).1.stored (J1 * 3 + 2) (.int .i64 x2)).1
              rwa [set3 eUs_len _ J1 ⟨x0, x1, x2⟩ (by rw [List.length_set, HZ0.out]; omega) (.int .i64 x0) (.int .i64 x1) (.int .i64 x2) rfl] at h
            have hgr2 : w.grownBy ((((((WQ.setCell ⟨g, J * 3, none⟩ (.int .i64 y0)).setCell ⟨g, J * 3 + 1, none⟩ (.int .i64 y1)).setCell ⟨g, J * 3 + 2, none⟩ (.int .i64 y2)).setCell ⟨g, J1 * 3, none⟩ (.int .i64 x0)).setCell ⟨g, J1 * 3 + 1, none⟩ (.int .i64 x1)).setCell ⟨g, J1 * 3 + 2, none⟩ (.int .i64 x2)) (Value.slice (some ⟨g, 0, none⟩) n c).ownBlock := grown_set (g := g) (grown_set (g := g) (grown_set (g := g) (grown_set (g := g) (grown_set (g := g) (grown_set (g := g) (hgq) (J * 3) _) (J * 3 + 1) _) (J * 3 + 2) _) (J1 * 3) _) (J1 * 3 + 1) _) (J1 * 3 + 2) _
            rw [HSW.out] at own2
            have HE := Lib.hid (And.intro own2 hgr2)
            clear own1 own2 hgr2 hwq hgq f0 f1 f2 h0 h1 h2 c0 c1 c2 d0 d1 d2
            go_wp2
            go_roundw
            case rel => exact ⟨s, by have := HQS.out; omega, by rw [HJI.out], U', uu :: V, hU's, by rw [← hUV]; simp, (by
              intro v hv
              rcases List.mem_cons.1 hv with rfl | hv
              · exact HPE.out.1 hz
              · exact hV v hv), own_drew HE.out.1, grown_drew HE.out.2⟩
            case measure => simp [intOf]; omega
          · go_wp2_with fail
            refine wp_region_quiet_past (by kernel_rfl) (by kernel_rfl) ?_
            repeat (refine qw_step (fun K_ hK_ => ?_); go_simp; first | (refine hK_ _ ?_; clear hK_ K_) | (apply Exists.intro; refine ⟨fun _ => ?_, hK_ _ ?_⟩; (go_at_call 74; exact calls_past_of (HC.out _)); clear hK_ K_) | (rw [if_pos (by first | assumption | omega)]; first | (refine hK_ _ ?_; clear hK_ K_) | (apply Exists.intro; refine ⟨fun _ => ?_, hK_ _ ?_⟩; (go_at_call 74; exact calls_past_of (HC.out _)); clear hK_ K_)) | (rw [if_neg (by first | assumption | omega)]; first | (refine hK_ _ ?_; clear hK_ K_) | (apply Exists.intro; refine ⟨fun _ => ?_, hK_ _ ?_⟩; (go_at_call 74; exact calls_past_of (HC.out _)); clear hK_ K_)))
            refine qw_nil ?_
            intro WQ hw_
            obtain ⟨p_, hp_⟩ := hw_
            have HQ := p_.h
            rw [← hp_] at HQ
            clear hp_ p_
            have HN := Lib.hid (HEX.out (by
              intro u h
              simp at h
              rw [← h]
              exact HPN.out hz) WQ HQ)
            clear HQ e0 e1 e2 k0 k1 k2
            go_wp2
            go_roundw
            case rel => exact ⟨r + 1, by omega, .inl (by omega), by go_num, HN.out⟩
            case measure => simp [intOf]; omega
    · obtain ⟨M, hM, hS, hown, hgr⟩ := H.out
      have htk : L.take r = L := List.take_of_length_le (by omega)
      have hdr : L.drop r = [] := List.drop_eq_nil_of_le (by omega)
      rw [htk] at hM
      rw [hdr, List.nil_append] at hown
      have hge : ¬ (a : Int) + (r : Int) < (b : Int) := by omega
      have HE := Lib.hid (And.intro hM (And.intro hS (And.intro hown hgr)))
      clear H hM hS hown hgr htk hdr
      go_wp2
      go_end0
      exact ⟨⟨_, rfl⟩, M, HE.out.1, HE.out.2.1, by simpa [List.map_append] using HE.out.2.2.1, HE.out.2.2.2⟩
end Go.Proofs.Ytdjfkehbknbocaa

/- slices' stable sort at rows of Us: symMerge, where the left run is one element. -/
import Derived.Test.YtdjfkehbknbocaaSortAU
import Derived.Test.YtdjfkehbknbocaaSortP
import Derived.Test.YtdjfkehbknbocaaQuiet
import Derived.Deep.Cut
namespace Go.Proofs.Ytdjfkehbknbocaa
open Go.RowKit
set_option linter.unusedSimpArgs false
set_option linter.unusedVariables false

set_option maxRecDepth 100000 in
set_option maxHeartbeats 40000000 in
theorem symAU_any (cf : Us → Us → Int) (hcmp : ∀ u v W, Calls Try.prog 74 #[u.agg, v.agg] W fun e w' => e = .returned (.int .i64 (cf u v)) ∧ Below W.heap.size W w') (hok : CmpOK cf) (A : Option Addr) (n c base a m b : Nat) (x : Nat → Us) (P R B : List Nat) (l : Nat) (w : World) (hbig : n ≤ 1000000000)
    (hA : w.ownsRow base 83 3 (.slice A n c) n (eList eUs ((P ++ (l :: (R ++ B))).map x))) (hP : P.length = a) (hm : a + 1 = m) (hR : m + R.length = b) (hord : ∀ v ∈ R, l < v) :
    Calls Try.prog 89 #[.slice A n c, .int .i64 a, .int .i64 m, .int .i64 b, .func (.func 74) #[] #[]] w fun e w' => (∃ v, e = .returned v) ∧ ∃ k, k ≤ R.length ∧ (∀ u, 0 < k → R[k - 1]? = some u → pre cf x u l) ∧ (∀ u, R[k]? = some u → pre cf x l u) ∧ w'.ownsRow base 83 3 (.slice A n c) n (eList eUs ((P ++ (R.take k ++ (l :: (R.drop k ++ B)))).map x)) ∧ w.grownBy w' (Value.slice A n c).ownBlock := by
  have hzl := ownU_zlen hA
  simp only [List.length_map, List.length_append, List.length_cons] at hzl
  have hbn : b ≤ n := by omega
  have hma : (m : Int) - (a : Int) = 1 := by omega
  have HM := Lib.hid hm
  have HO := Lib.hid hord
  have HR := Lib.hid hR
  have HP := Lib.hid hP
  have hmb : m ≤ b := by omega
  have ham : a < m := by omega
  have HA := Lib.hid hA
  clear hA
  have HCMP := Lib.hid hcmp
  clear hcmp
  have HZL := Lib.hid hzl
  clear hzl
  clear hm hord hR hP
  go_enter Try.func89, Try.ntmps89
  go_wp2_with fail
  clear hma
  go_loopw [10, 11] (fun u v wr => ∃ I J : Nat, m ≤ I ∧ I ≤ J ∧ J ≤ b ∧ u = .int .i64 I ∧ v = .int .i64 J ∧ Hid (((∀ t, m < I → R[I - 1 - m]? = some t → pre cf x t l) ∧ (∀ t, R[J - m]? = some t → pre cf x l t)) ∧ (wr.ownsRow base 83 3 (.slice A n c) n (eList eUs ((P ++ (l :: (R ++ B))).map x)) ∧ w.grownBy wr (Value.slice A n c).ownBlock)))
    (fun u v _ => (intOf v).toNat - (intOf u).toNat)
  case atStart =>
    refine ⟨m, b, Nat.le_refl _, hmb, Nat.le_refl _, rfl, rfl, ⟨fun t h => by omega, fun t h => ?_⟩, HA.out, grown_of_below (Below.refl _ _) _⟩
    have := (List.getElem?_eq_some_iff.1 h).1
    have := HR.out
    omega
  case round =>
    clear HA
    obtain ⟨I, J, h1, h2, h3, rfl, rfl, HC1⟩ := hrel
    by_cases hlt : I < J
    · have hlt' : (I : Int) < (J : Int) := by omega
      obtain ⟨H, hH⟩ : ∃ H : Nat, ((I : Int) + (J : Int)) / 2 = (H : Int) := ⟨(I + J) / 2, by omega⟩
      have hH1 : I ≤ H := by omega
      have hH2 : H < J := by omega
      have hwr := HC1.out.2.1
      have hgr := HC1.out.2.2
      have hwz := ownU_zlen hwr
      obtain ⟨t, ht⟩ : ∃ t, R[H - m]? = some t := ⟨R[H - m]'(by have := HR.out; omega), List.getElem?_eq_getElem _⟩
      have htl : l < t := HO.out t (List.mem_of_getElem? ht)
      have g1 : ((P ++ (l :: (R ++ B))).map x)[H]? = some (x t) := by
        have := HM.out
        have := HP.out
        have := (List.getElem?_eq_some_iff.1 ht).1
        rw [List.getElem?_map, List.getElem?_append_right (by omega), show H - P.length = (H - m) + 1 by omega, List.getElem?_cons_succ, List.getElem?_append_left (by omega), ht]
        rfl
      have g2 : ((P ++ (l :: (R ++ B))).map x)[a]? = some (x l) := by
        have := HP.out
        rw [List.getElem?_map, List.getElem?_append_right (by omega), show a - P.length = 0 by omega]
        rfl
      have hpe : cf (x t) (x l) < 0 ↔ pre cf x t l := cmp_lt_iff hok htl
      have hpn : ¬ cf (x t) (x l) < 0 → pre cf x l t := not_lt_pre hok htl
      have hi1 : (H : Int) < (n : Int) := by omega
      have hi2 : (a : Int) < (n : Int) := by omega
      have hw1 := wrapN H (by omega)
      have hw2 := wrapN a (by omega)
      have HT := Lib.hid ht
      clear ht hwz
      obtain ⟨g, cap, hv, hgb, hgl⟩ := hwr.form (by omega)
      injection hv with hv1 hv2 hv3
      subst hv1 hv3
      obtain ⟨E, hE⟩ : ∃ E, x t = E := ⟨_, rfl⟩
      obtain ⟨F, hF⟩ : ∃ F, x l = F := ⟨_, rfl⟩
      rw [hE] at g1
      rw [hF] at g2
      rw [hE, hF] at hpe hpn
      obtain ⟨x0, x1, x2⟩ := E
      obtain ⟨y0, y1, y2⟩ := F
      have hc := fun W => HCMP.out ⟨x0, x1, x2⟩ ⟨y0, y1, y2⟩ W
      simp only [Us.agg] at hc
      generalize cf ⟨x0, x1, x2⟩ ⟨y0, y1, y2⟩ = Z at hc hpe hpn
      have hcl := fun W (hW : Below wr.heap.size wr W) => ownU_cells (own_below hwr hW) g1
      have hdl := fun W (hW : Below wr.heap.size wr W) => ownU_cells (own_below hwr hW) g2
      dsimp only at hcl hdl
      have HCL := Lib.hid hcl
      have HDL := Lib.hid hdl
      have HWR := Lib.hid (And.intro hwr hgr)
      have HC := Lib.hid hc
      clear hc
      have HPE := Lib.hid hpe
      clear hpe
      have HPN := Lib.hid hpn
      clear hpn
      clear hcl hdl g1 g2 hE hF hwr hgr
      have e0 := fun p : Past wr => (HCL.out p.w p.h).1
      have k0 := fun p : Past wr => (HDL.out p.w p.h).1
      have e1 := fun p : Past wr => (HCL.out p.w p.h).2.1
      have k1 := fun p : Past wr => (HDL.out p.w p.h).2.1
      have e2 := fun p : Past wr => (HCL.out p.w p.h).2.2
      have k2 := fun p : Past wr => (HDL.out p.w p.h).2.2
      go_wp2_with fail
      clear hH
      by_cases hz : Z < 0
      · refine wp_region_quiet_past (by kernel_rfl) (by kernel_rfl) ?_
        repeat (refine qw_step (fun K_ hK_ => ?_); go_simp; first | (refine hK_ _ ?_; clear hK_ K_) | (apply Exists.intro; refine ⟨fun _ => ?_, hK_ _ ?_⟩; (go_at_call 74; exact calls_past_of (HC.out _)); clear hK_ K_) | (rw [if_pos (by first | assumption | omega)]; first | (refine hK_ _ ?_; clear hK_ K_) | (apply Exists.intro; refine ⟨fun _ => ?_, hK_ _ ?_⟩; (go_at_call 74; exact calls_past_of (HC.out _)); clear hK_ K_)) | (rw [if_neg (by first | assumption | omega)]; first | (refine hK_ _ ?_; clear hK_ K_) | (apply Exists.intro; refine ⟨fun _ => ?_, hK_ _ ?_⟩; (go_at_call 74; exact calls_past_of (HC.out _)); clear hK_ K_)))
        refine qw_nil ?_
        intro WQ hw_
        obtain ⟨p_, hp_⟩ := hw_
        have HQ := p_.h
        rw [← hp_] at HQ
        clear hp_ p_
        have hwq := own_below HWR.out.1 HQ
        have hgq := grown_tr HWR.out.2 (grown_of_below HQ _)
        have HN := Lib.hid (And.intro (And.intro (HPE.out.1 hz) HC1.out.1.2) (And.intro hwq hgq))
        clear HQ hwq hgq e0 e1 e2 k0 k1 k2
        go_wp2
        go_roundw
        case rel => exact ⟨H + 1, J, by omega, by omega, by omega, by go_num, rfl, ⟨fun t' _ ht' => by
          rw [show H + 1 - 1 - m = H - m by omega, HT.out] at ht'
          injection ht' with ht'
          rw [← ht']
          exact HN.out.1.1, HN.out.1.2⟩, HN.out.2⟩
        case measure => simp [intOf]; omega
      · refine wp_region_quiet_past (by kernel_rfl) (by kernel_rfl) ?_
        repeat (refine qw_step (fun K_ hK_ => ?_); go_simp; first | (refine hK_ _ ?_; clear hK_ K_) | (apply Exists.intro; refine ⟨fun _ => ?_, hK_ _ ?_⟩; (go_at_call 74; exact calls_past_of (HC.out _)); clear hK_ K_) | (rw [if_pos (by first | assumption | omega)]; first | (refine hK_ _ ?_; clear hK_ K_) | (apply Exists.intro; refine ⟨fun _ => ?_, hK_ _ ?_⟩; (go_at_call 74; exact calls_past_of (HC.out _)); clear hK_ K_)) | (rw [if_neg (by first | assumption | omega)]; first | (refine hK_ _ ?_; clear hK_ K_) | (apply Exists.intro; refine ⟨fun _ => ?_, hK_ _ ?_⟩; (go_at_call 74; exact calls_past_of (HC.out _)); clear hK_ K_)))
        refine qw_nil ?_
        intro WQ hw_
        obtain ⟨p_, hp_⟩ := hw_
        have HQ := p_.h
        rw [← hp_] at HQ
        clear hp_ p_
        have hwq := own_below HWR.out.1 HQ
        have hgq := grown_tr HWR.out.2 (grown_of_below HQ _)
        have HN := Lib.hid (And.intro (And.intro (HPN.out (by omega)) HC1.out.1.1) (And.intro hwq hgq))
        clear HQ hwq hgq e0 e1 e2 k0 k1 k2
        go_wp2
        go_roundw
        case rel => exact ⟨I, H, by omega, by omega, by omega, rfl, by go_num, ⟨HN.out.1.2, fun t' ht' => by
          rw [HT.out] at ht'
          injection ht' with ht'
          rw [← ht']
          exact HN.out.1.1⟩, HN.out.2⟩
        case measure => simp [intOf]; omega
    · have hIJ : I = J := by omega
      subst hIJ
      have HC := Lib.hid HC1.out.1
      have HW := Lib.hid HC1.out.2
      clear HC1
      have hlt' : ¬ (I : Int) < (I : Int) := by omega
      obtain ⟨wo, rfl⟩ : ∃ wo : World, wo = wr := ⟨_, rfl⟩
      go_wp2_with fail
      clear hlt'
      go_loopw [13] (fun u wr => ∃ J q : Nat, a ≤ J ∧ J + 1 ≤ I ∧ u = .int .i64 J ∧ Hid (J = a + q ∧ wr.ownsRow base 83 3 (.slice A n c) n (eList eUs ((P ++ (R.take q ++ (l :: (R.drop q ++ B)))).map x)) ∧ w.grownBy wr (Value.slice A n c).ownBlock)) (fun u _ => I - (intOf u).toNat)
      case atStart => exact ⟨a, 0, by omega, by have := HM.out; omega, rfl, by omega, by simpa using HW.out.1, HW.out.2⟩
      case round =>
        clear HW
        obtain ⟨J, q, hj1, hj2, rfl, H2⟩ := hrel
        have hq := H2.out.1
        have hwr := H2.out.2.1
        have hgr := H2.out.2.2
        clear H2
        have HQJ := Lib.hid hq
        by_cases hlt : J + 1 < I
        · have hlt2 : (J : Int) < (I : Int) - 1 := by omega
          have hwz := ownU_zlen hwr
          have hqR : q < R.length := by have := HR.out; have := HM.out; omega
          obtain ⟨t, ht⟩ : ∃ t, R[q]? = some t := ⟨R[q], List.getElem?_eq_getElem hqR⟩
          obtain ⟨J1, hJ1⟩ : ∃ J1, J + 1 = J1 := ⟨_, rfl⟩
          have hdr : R.drop q = t :: R.drop (q + 1) := by
            rw [List.drop_eq_getElem_cons hqR]
            rw [List.getElem?_eq_getElem hqR] at ht
            injection ht with ht
            rw [ht]
          have htk : R.take (q + 1) = R.take q ++ [t] := by rw [List.take_add_one, ht]; rfl
          have hPl := HP.out
          have htl : (R.take q).length = q := by rw [List.length_take]; omega
          have ge : ((P ++ (R.take q ++ (l :: (R.drop q ++ B)))).map x)[J]? = some (x l) := by
            rw [List.getElem?_map, List.getElem?_append_right (by omega), List.getElem?_append_right (by omega), show J - P.length - (R.take q).length = 0 by omega]
            rfl
          have gu : ((P ++ (R.take q ++ (l :: (R.drop q ++ B)))).map x)[J1]? = some (x t) := by
            rw [List.getElem?_map, List.getElem?_append_right (by omega), List.getElem?_append_right (by omega), show J1 - P.length - (R.take q).length = 1 by omega, hdr]
            rfl
          have hsw : (((P ++ (R.take q ++ (l :: (R.drop q ++ B)))).map x).set J (x t)).set J1 (x l) = (P ++ (R.take (q + 1) ++ (l :: (R.drop (q + 1) ++ B)))).map x := by
            rw [htk, hdr]
            simp only [List.map_append, List.map_cons, List.map_nil, List.cons_append, List.append_assoc, List.nil_append]
            rw [List.set_append_right _ _ (by simp; omega), List.set_append_right _ _ (by simp; omega), List.set_append_right _ _ (by simp; omega), List.set_append_right _ _ (by simp; omega)]
            simp only [List.length_map]
            rw [show J - P.length - (R.take q).length = 0 by omega, show J1 - P.length - (R.take q).length = 1 by omega]
            rfl
          have hi3 : (J : Int) < (n : Int) := by omega
          have hi4 : (J1 : Int) < (n : Int) := by omega
          have hne : J < J1 := by omega
          have hw2 := wrapN J1 (by omega)
          have hq2 : (J : Int) + 1 = (J1 : Int) := by omega
          have hw3 : IntKind.i64.wrap ((J : Int) + 1) = (J1 : Int) := by rw [hq2]; exact hw2
          have HJ1 := Lib.hid hJ1
          clear hJ1 hdr htk ht hPl htl hq
          obtain ⟨g, cap, hv, hgb, hgl⟩ := hwr.form (by omega)
          injection hv with hv1 hv2 hv3
          subst hv1 hv3
          obtain ⟨E, hE⟩ : ∃ E, x l = E := ⟨_, rfl⟩
          obtain ⟨F, hF⟩ : ∃ F, x t = F := ⟨_, rfl⟩
          rw [hE] at ge
          rw [hF] at gu
          rw [hE, hF] at hsw
          obtain ⟨x0, x1, x2⟩ := E
          obtain ⟨y0, y1, y2⟩ := F
          obtain ⟨c0, c1, c2⟩ := ownU_cells hwr ge
          obtain ⟨d0, d1, d2⟩ := ownU_cells hwr gu
          dsimp only at c0 c1 c2 d0 d1 d2
          have f0 := own_frozen hwr (J1 * 3)
          have h0 := own_frozen hwr (J * 3)
          have f1 := own_frozen hwr (J1 * 3 + 1)
          have h1 := own_frozen hwr (J * 3 + 1)
          have f2 := own_frozen hwr (J1 * 3 + 2)
          have h2 := own_frozen hwr (J * 3 + 2)
          have HWQ := Lib.hid (And.intro hwr hgr)
          have HSW := Lib.hid hsw
          have HZ0 := Lib.hid hwz
          clear hwr hgr hsw ge gu hE hF hwz
          go_wp2_with fail
          go_region
          have hwq := HWQ.out.1
          have hgq := HWQ.out.2
          have own1 : (((wr.setCell ⟨g, J * 3, none⟩ (.int .i64 y0)).setCell ⟨g, J * 3 + 1, none⟩ (.int .i64 y1)).setCell ⟨g, J * 3 + 2, none⟩ (.int .i64 y2)).ownsRow base 83 3 (.slice (some ⟨g, 0, none⟩) n c) n (eList eUs (((P ++ (R.take q ++ (l :: (R.drop q ++ B)))).map x).set J ⟨y0, y1, y2⟩)) := by
            have h := (((hwq.stored (J * 3) (.int .i64 y0)).1.stored (J * 3 + 1) (.int .i64 y1)).1.stored (J * 3 + 2) (.int .i64 y2)).1
            rwa [set3 eUs_len _ J ⟨y0, y1, y2⟩ (by rw [HZ0.out]; omega) (.int .i64 y0) (.int .i64 y1) (.int .i64 y2) rfl] at h
          have own2 : ((((((wr.setCell ⟨g, J * 3, none⟩ (.int .i64 y0)).setCell ⟨g, J * 3 + 1, none⟩ (.int .i64 y1)).setCell ⟨g, J * 3 + 2, none⟩ (.int .i64 y2)).setCell ⟨g, J1 * 3, none⟩ (.int .i64 x0)).setCell ⟨g, J1 * 3 + 1, none⟩ (.int .i64 x1)).setCell ⟨g, J1 * 3 + 2, none⟩ (.int .i64 x2)).ownsRow base 83 3 (.slice (some ⟨g, 0, none⟩) n c) n (eList eUs ((((P ++ (R.take q ++ (l :: (R.drop q ++ B)))).map x).set J ⟨y0, y1, y2⟩).set J1 ⟨x0, x1, x2⟩)) := by
            have h := (((own1.stored (J1 * 3) (.int .i64 x0)).1.stored (J1 * 3 + 1) (.int .i64 x1)).1.stored (J1 * 3 + 2) (.int .i64 x2)).1
            rwa [set3 eUs_len _ J1 ⟨x0, x1, x2⟩ (by rw [List.length_set, HZ0.out]; omega) (.int .i64 x0) (.int .i64 x1) (.int .i64 x2) rfl] at h
          have hgr2 : w.grownBy ((((((wr.setCell ⟨g, J * 3, none⟩ (.int .i64 y0)).setCell ⟨g, J * 3 + 1, none⟩ (.int .i64 y1)).setCell ⟨g, J * 3 + 2, none⟩ (.int .i64 y2)).setCell ⟨g, J1 * 3, none⟩ (.int .i64 x0)).setCell ⟨g, J1 * 3 + 1, none⟩ (.int .i64 x1)).setCell ⟨g, J1 * 3 + 2, none⟩ (.int .i64 x2)) (Value.slice (some ⟨g, 0, none⟩) n c).ownBlock := grown_set (g := g) (grown_set (g := g) (grown_set (g := g) (grown_set (g := g) (grown_set (g := g) (grown_set (g := g) (hgq) (J * 3) _) (J * 3 + 1) _) (J * 3 + 2) _) (J1 * 3) _) (J1 * 3 + 1) _) (J1 * 3 + 2) _
          rw [HSW.out] at own2
          have HE := Lib.hid (And.intro own2 hgr2)
          clear own1 own2 hgr2 hwq hgq f0 f1 f2 h0 h1 h2 c0 c1 c2 d0 d1 d2
          go_wp2
          go_roundw
          case rel => exact ⟨J1, q + 1, by omega, by have := HJ1.out; omega, by go_num, by have := HJ1.out; have := HQJ.out; omega, own_drew HE.out.1, grown_drew HE.out.2⟩
          case measure => have := HJ1.out; simp [intOf]; omega
        · have hJI : J + 1 = I := by omega
          have hlt2 : ¬ (J : Int) < (I : Int) - 1 := by omega
          have HN := Lib.hid (And.intro hwr hgr)
          have HJ := Lib.hid hJI
          clear hwr hgr hq hJI
          go_wp2
          refine bodyPost_ret (v := .tuple #[]) (results_none rfl _ _ _) rfl ?_
          have e := HM.out
          have e1 := HJ.out
          have e2 := HQJ.out
          have e3 := HR.out
          refine ⟨⟨_, rfl⟩, q, by omega, fun u h0 hu => HC.out.1 u (by omega) ?_, fun u hu => HC.out.2 u ?_, by simpa using HN.out.1, HN.out.2⟩
          · rw [show I - 1 - m = q - 1 by omega]
            exact hu
          · rw [show I - m = q by omega]
            exact hu
end Go.Proofs.Ytdjfkehbknbocaa

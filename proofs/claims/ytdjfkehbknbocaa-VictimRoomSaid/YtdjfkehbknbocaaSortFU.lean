/- slices' stable sort at rows of Us: symMerge. -/
import Derived.Test.YtdjfkehbknbocaaSortAU
import Derived.Test.YtdjfkehbknbocaaSortP
import Derived.Test.YtdjfkehbknbocaaQuiet
import Derived.Deep.Cut
import Derived.Test.YtdjfkehbknbocaaSortBU
import Derived.Test.YtdjfkehbknbocaaSortDU
import Derived.Test.YtdjfkehbknbocaaSortEU
namespace Go.Proofs.Ytdjfkehbknbocaa
open Go.RowKit
set_option linter.unusedSimpArgs false
set_option linter.unusedVariables false

def SymPostU (cf : Us → Us → Int) (A : Option Addr) (n c base : Nat) (x : Nat → Us) (P L R B : List Nat) (w : World) (e : Ending) (w' : World) : Prop :=
  (∃ v, e = .returned v) ∧ ∃ M, M.Perm (L ++ R) ∧ Srt cf x M ∧ w'.ownsRow base 83 3 (.slice A n c) n (eList eUs ((P ++ (M ++ B)).map x)) ∧ w.grownBy w' (Value.slice A n c).ownBlock
set_option maxRecDepth 100000 in
set_option maxHeartbeats 40000000 in
theorem symCU_any (cf : Us → Us → Int) (hcmp : ∀ u v W, Calls Try.prog 74 #[u.agg, v.agg] W fun e w' => e = .returned (.int .i64 (cf u v)) ∧ Below W.heap.size W w') (hok : CmpOK cf) (A : Option Addr) (n c base : Nat) (x : Nat → Us) (hbig : n ≤ 1000000000) (N : Nat)
    (ih : ∀ (a m b : Nat) (P L R B : List Nat) (w : World), L.length + R.length < N → w.ownsRow base 83 3 (.slice A n c) n (eList eUs ((P ++ (L ++ (R ++ B))).map x)) → P.length = a → a + L.length = m → m + R.length = b → 0 < L.length → 0 < R.length → (∀ u ∈ L, ∀ v ∈ R, u < v) → Srt cf x L → Srt cf x R → Calls Try.prog 89 #[.slice A n c, .int .i64 a, .int .i64 m, .int .i64 b, .func (.func 74) #[] #[]] w (SymPostU cf A n c base x P L R B w))
    (a m b : Nat) (P L R B : List Nat) (w : World) (hN : L.length + R.length ≤ N) (hA : w.ownsRow base 83 3 (.slice A n c) n (eList eUs ((P ++ (L ++ (R ++ B))).map x))) (hP : P.length = a) (hL : a + L.length = m) (hR : m + R.length = b) (hL0 : 0 < L.length) (hR0 : 0 < R.length) (hord : ∀ u ∈ L, ∀ v ∈ R, u < v) (hSL : Srt cf x L) (hSR : Srt cf x R) (hL1 : L.length ≠ 1) (hR1 : R.length ≠ 1) :
    Calls Try.prog 89 #[.slice A n c, .int .i64 a, .int .i64 m, .int .i64 b, .func (.func 74) #[] #[]] w (SymPostU cf A n c base x P L R B w) := by
  have hzl := ownU_zlen hA
  simp only [List.length_map, List.length_append] at hzl
  have hbn : b ≤ n := by omega
  have hma : ((m : Int) - (a : Int) == 1) = false := by simp; omega
  have hbm : ((b : Int) - (m : Int) == 1) = false := by simp; omega
  have hma' : ¬ (m : Int) - (a : Int) = 1 := by omega
  have hbm' : ¬ (b : Int) - (m : Int) = 1 := by omega
  obtain ⟨mid, hmid⟩ : ∃ mid : Nat, ((a : Int) + (b : Int)) / 2 = (mid : Int) := ⟨(a + b) / 2, by omega⟩
  obtain ⟨nn, hnn⟩ : ∃ nn : Nat, (mid : Int) + (m : Int) = (nn : Int) := ⟨mid + m, by omega⟩
  obtain ⟨p, hp⟩ : ∃ p : Nat, (nn : Int) - 1 = (p : Int) := ⟨nn - 1, by omega⟩
  have hm1 : a < mid := by omega
  have hm2 : mid < b := by omega
  have hm3 : 2 * mid ≤ a + b := by omega
  have hnn2 : nn = mid + m := by omega
  have hp2 : p + 1 = nn := by omega
  have HO := Lib.hid hord
  have HR := Lib.hid hR
  have HL := Lib.hid hL
  have HP := Lib.hid hP
  have HSL := Lib.hid hSL
  have HSR := Lib.hid hSR
  have HNN := Lib.hid (And.intro hnn2 hp2)
  have IH := Lib.hid ih
  have ham : a < m := by omega
  have hmb : m < b := by omega
  have hnb : nn ≤ 2000000000 := by omega
  have hpn : p < nn := by omega
  have hNN := Lib.hid (show b ≤ a + N by omega)
  obtain ⟨S0, E0, hSE, hif⟩ : ∃ S0 E0 : Nat, (a ≤ S0 ∧ S0 ≤ E0 ∧ E0 ≤ m ∧ E0 ≤ mid ∧ mid + m ≤ b + S0 ∧ (S0 = a ∨ S0 + b = mid + m) ∧ (E0 = m ∨ E0 = mid)) ∧ (((mid : Int) < (m : Int) ∧ (nn : Int) - (b : Int) = (S0 : Int) ∧ mid = E0) ∨ (¬ (mid : Int) < (m : Int) ∧ a = S0 ∧ m = E0)) := by
    by_cases h : mid < m
    · exact ⟨nn - b, mid, by omega, .inl ⟨by omega, by omega, rfl⟩⟩
    · exact ⟨a, m, by omega, .inr ⟨by omega, rfl, rfl⟩⟩
  obtain ⟨q1, q2, q3, q4, q5, q6, q7⟩ := hSE
  have HQ := Lib.hid (And.intro q6 q7)
  have HA := Lib.hid hA
  clear hA
  have HCMP := Lib.hid hcmp
  clear hcmp
  have HZL := Lib.hid hzl
  clear hzl
  clear hord hR hL hP hSL hSR hL1 hR1 hL0 hR0 hN ih hnn2 hp2 q6 q7
  have fin : ∀ K : Act → World → Prop, True := fun _ => trivial
  rcases hif with ⟨hmm, hs0, hs1⟩ | ⟨hmm, hs0, hs1⟩
  · subst hs1
    go_enter Try.func89, Try.ntmps89
    go_wp2_with fail
    clear hma hbm hma' hbm' hmid hnn hp hmm
    try clear hs0
    go_loopw [20, 21] (fun u v wr => ∃ S E : Nat, S0 ≤ S ∧ S ≤ E ∧ E ≤ mid ∧ u = .int .i64 S ∧ v = .int .i64 E ∧ Hid (((∀ t t', S0 < S → L[S - 1 - a]? = some t → R[mid - S]? = some t' → pre cf x t t') ∧ (∀ t t', E < mid → L[E - a]? = some t → R[mid - 1 - E]? = some t' → pre cf x t' t)) ∧ (wr.ownsRow base 83 3 (.slice A n c) n (eList eUs ((P ++ (L ++ (R ++ B))).map x)) ∧ w.grownBy wr (Value.slice A n c).ownBlock)))
      (fun u v _ => (intOf v).toNat - (intOf u).toNat)
    case atStart => exact ⟨S0, mid, Nat.le_refl _, by omega, Nat.le_refl _, rfl, rfl, ⟨fun t t' h => by omega, fun t t' h => by omega⟩, HA.out, grown_of_below (Below.refl _ _) _⟩
    case round =>
      clear HA
      obtain ⟨S, E, h1, h2, h3, rfl, rfl, HC1⟩ := hrel
      by_cases hlt : S < E
      · have hlt' : (S : Int) < (E : Int) := by omega
        obtain ⟨H, hH⟩ : ∃ H : Nat, ((S : Int) + (E : Int)) / 2 = (H : Int) := ⟨(S + E) / 2, by omega⟩
        have hH1 : S ≤ H := by omega
        have hH2 : H < E := by omega
        obtain ⟨hnn2, hp2⟩ := HNN.out
        obtain ⟨C, hC⟩ : ∃ C : Nat, p = C + H := ⟨p - H, by omega⟩
        have hC1 : m ≤ C := by omega
        have hC2 : C < b := by omega
        have hwr := HC1.out.2.1
        have hgr := HC1.out.2.2
        have hwz := ownU_zlen hwr
        obtain ⟨t, ht⟩ : ∃ t, L[H - a]? = some t := ⟨L[H - a]'(by have := HL.out; omega), List.getElem?_eq_getElem _⟩
        obtain ⟨t', ht'⟩ : ∃ t', R[C - m]? = some t' := ⟨R[C - m]'(by have := HR.out; omega), List.getElem?_eq_getElem _⟩
        have htl : t < t' := HO.out t (List.mem_of_getElem? ht) t' (List.mem_of_getElem? ht')
        have g2 : ((P ++ (L ++ (R ++ B))).map x)[H]? = some (x t) := by
          have := HP.out
          have := (List.getElem?_eq_some_iff.1 ht).1
          rw [List.getElem?_map, List.getElem?_append_right (by omega), show H - P.length = H - a by omega, List.getElem?_append_left (by omega), ht]
          rfl
        have g1 : ((P ++ (L ++ (R ++ B))).map x)[C]? = some (x t') := by
          have := HP.out
          have := HL.out
          have := (List.getElem?_eq_some_iff.1 ht').1
          rw [List.getElem?_map, List.getElem?_append_right (by omega), List.getElem?_append_right (by omega), show C - P.length - L.length = C - m by omega, List.getElem?_append_left (by omega), ht']
          rfl
        have hpe : cf (x t') (x t) < 0 ↔ pre cf x t' t := cmp_lt_iff hok htl
        have hpn : ¬ cf (x t') (x t) < 0 → pre cf x t t' := not_lt_pre hok htl
        have hi1 : (H : Int) < (n : Int) := by omega
        have hi2 : (C : Int) < (n : Int) := by omega
        have hi3 : C < n := by omega
        have hi4 : H < n := by omega
        have hw1 := wrapN H (by omega)
        have hw2 := wrapN C (by omega)
        have hw3 : IntKind.i64.wrap ((p : Int) - (H : Int)) = (C : Int) := by rw [show (p : Int) - (H : Int) = (C : Int) by omega]; exact hw2
        have HT := Lib.hid (And.intro ht ht')
        have HCI := Lib.hid (show mid = C - m + 1 + H ∧ mid - 1 - H = C - m ∧ mid - (H + 1) = C - m by omega)
        clear ht ht' hwz hnn2 hp2 hC
        obtain ⟨g, cap, hv, hgb, hgl⟩ := hwr.form (by omega)
        injection hv with hv1 hv2 hv3
        subst hv1 hv3
        obtain ⟨E, hE⟩ : ∃ E, x t' = E := ⟨_, rfl⟩
        obtain ⟨F, hF⟩ : ∃ F, x t = F := ⟨_, rfl⟩
        rw [hE] at g1
        rw [hF] at g2
        rw [hE, hF] at hpe hpn
        obtain ⟨x0, x1, x2⟩ := E
        obtain ⟨y0, y1, y2⟩ := F
        have hc := fun W => HCMP.out ⟨x0, x1, x2⟩ ⟨y0, y1, y2⟩ W
        simp only [Us.agg] at hc
        generalize cf ⟨x0, x1, x2⟩ ⟨y0, y1, y2⟩ = Z at hc hpe hpn
        have hcl := fun W (hW : Below wr.heap.size wr W) => ownU_cells (own_below hwr hW) g1
        have hdl := fun W (hW : Below wr.heap.size wr W) => ownU_cells (own_below hwr hW) g2
        dsimp only at hcl hdl
        have HCL := Lib.hid hcl
        have HDL := Lib.hid hdl
        have HWR := Lib.hid (And.intro hwr hgr)
        have HC := Lib.hid hc
        clear hc
        have HPE := Lib.hid hpe
        clear hpe
        have HPN := Lib.hid hpn
        clear hpn
        clear hcl hdl g1 g2 hE hF hwr hgr
        have e0 := fun p : Past wr => (HCL.out p.w p.h).1
        have k0 := fun p : Past wr => (HDL.out p.w p.h).1
        have e1 := fun p : Past wr => (HCL.out p.w p.h).2.1
        have k1 := fun p : Past wr => (HDL.out p.w p.h).2.1
        have e2 := fun p : Past wr => (HCL.out p.w p.h).2.2
        have k2 := fun p : Past wr => (HDL.out p.w p.h).2.2
        go_wp2_with fail
        clear hH
        by_cases hz : Z < 0
        · refine wp_region_quiet_past (by kernel_rfl) (by kernel_rfl) ?_
          repeat (refine qw_step (fun K_ hK_ => ?_); go_simp; first | (refine hK_ _ ?_; clear hK_ K_) | (apply Exists.intro; refine ⟨fun _ => ?_, hK_ _ ?_⟩; (go_at_call 74; exact calls_past_of (HC.out _)); clear hK_ K_) | (rw [if_pos (by first | assumption | omega)]; first | (refine hK_ _ ?_; clear hK_ K_) | (apply Exists.intro; refine ⟨fun _ => ?_, hK_ _ ?_⟩; (go_at_call 74; exact calls_past_of (HC.out _)); clear hK_ K_)) | (rw [if_neg (by first | assumption | omega)]; first | (refine hK_ _ ?_; clear hK_ K_) | (apply Exists.intro; refine ⟨fun _ => ?_, hK_ _ ?_⟩; (go_at_call 74; exact calls_past_of (HC.out _)); clear hK_ K_)))
          refine qw_nil ?_
          intro WQ hw_
          obtain ⟨p_, hp_⟩ := hw_
          have HQ := p_.h
          rw [← hp_] at HQ
          clear hp_ p_
          have hwq := own_below HWR.out.1 HQ
          have hgq := grown_tr HWR.out.2 (grown_of_below HQ _)
          have HN := Lib.hid (And.intro (And.intro (HPE.out.1 hz) HC1.out.1.1) (And.intro hwq hgq))
          clear HQ hwq hgq e0 e1 e2 k0 k1 k2
          go_wp2
          go_roundw
          case rel => exact ⟨S, H, by omega, by omega, by omega, rfl, by go_num, ⟨HN.out.1.2, fun u u' _ hu hu' => by
            rw [HT.out.1] at hu
            rw [HCI.out.2.1, HT.out.2] at hu'
            injection hu with hu
            injection hu' with hu'
            rw [← hu, ← hu']
            exact HN.out.1.1⟩, HN.out.2⟩
          case measure => simp [intOf]; omega
        · refine wp_region_quiet_past (by kernel_rfl) (by kernel_rfl) ?_
          repeat (refine qw_step (fun K_ hK_ => ?_); go_simp; first | (refine hK_ _ ?_; clear hK_ K_) | (apply Exists.intro; refine ⟨fun _ => ?_, hK_ _ ?_⟩; (go_at_call 74; exact calls_past_of (HC.out _)); clear hK_ K_) | (rw [if_pos (by first | assumption | omega)]; first | (refine hK_ _ ?_; clear hK_ K_) | (apply Exists.intro; refine ⟨fun _ => ?_, hK_ _ ?_⟩; (go_at_call 74; exact calls_past_of (HC.out _)); clear hK_ K_)) | (rw [if_neg (by first | assumption | omega)]; first | (refine hK_ _ ?_; clear hK_ K_) | (apply Exists.intro; refine ⟨fun _ => ?_, hK_ _ ?_⟩; (go_at_call 74; exact calls_past_of (HC.out _)); clear hK_ K_)))
          refine qw_nil ?_
          intro WQ hw_
          obtain ⟨p_, hp_⟩ := hw_
          have HQ := p_.h
          rw [← hp_] at HQ
          clear hp_ p_
          have hwq := own_below HWR.out.1 HQ
          have hgq := grown_tr HWR.out.2 (grown_of_below HQ _)
          have HN := Lib.hid (And.intro (And.intro (HPN.out (by omega)) HC1.out.1.2) (And.intro hwq hgq))
          clear HQ hwq hgq e0 e1 e2 k0 k1 k2
          go_wp2
          go_roundw
          case rel => exact ⟨H + 1, E, by omega, by omega, by omega, by go_num, rfl, ⟨fun u u' _ hu hu' => by
            rw [show H + 1 - 1 - a = H - a by omega, HT.out.1] at hu
            rw [HCI.out.2.2, HT.out.2] at hu'
            injection hu with hu
            injection hu' with hu'
            rw [← hu, ← hu']
            exact HN.out.1.1, HN.out.1.2⟩, HN.out.2⟩
          case measure => simp [intOf]; omega
      · have hIJ : S = E := by omega
        subst hIJ
        have hnn2 := HNN.out.1
        have hPl := HP.out
        have hLl := HL.out
        have hRl := HR.out
        obtain ⟨ka, hka⟩ : ∃ ka, S = a + ka := ⟨S - a, by omega⟩
        obtain ⟨da, hda⟩ : ∃ da, mid = S + da := ⟨mid - S, by omega⟩
        obtain ⟨En, hEn⟩ : ∃ En, En = m + da := ⟨_, rfl⟩
        have hEn2 : (nn : Int) - (S : Int) = (En : Int) := by omega
        have hkL : ka ≤ L.length := by omega
        have hdR : da ≤ R.length := by omega
        have hx1 : ∀ u v, 0 < ka → L[ka - 1]? = some u → R[da]? = some v → pre cf x u v := fun u v h hu hv => by
          have hv1 := (List.getElem?_eq_some_iff.1 hv).1
          have hq := HQ.out.1
          have h0 : S0 < S := by omega
          refine HC1.out.1.1 u v h0 ?_ ?_
          · rw [show S - 1 - a = ka - 1 by omega]
            exact hu
          · rw [show mid - S = da by omega]
            exact hv
        have hx2 : ∀ u v, 0 < da → R[da - 1]? = some u → L[ka]? = some v → pre cf x u v := fun u v h hu hv => by
          have hv1 := (List.getElem?_eq_some_iff.1 hv).1
          have hq := HQ.out.2
          have h0 : S < mid := by omega
          refine HC1.out.1.2 v u h0 ?_ ?_
          · rw [show S - a = ka by omega]
            exact hv
          · rw [show mid - 1 - S = da - 1 by omega]
            exact hu
        have HX1 := Lib.hid hx1
        have HX2 := Lib.hid hx2
        have HW := Lib.hid HC1.out.2
        have hLL : L.length = ka + (m - S) := by omega
        have hLR : R.length = da + (b - En) := by omega
        have hlt' : ¬ (S : Int) < (S : Int) := by omega
        have HKD := Lib.hid (And.intro hka (And.intro hda (And.intro hEn (And.intro hLL hLR))))
        clear hx1 hx2 HC1 hPl hka hda hEn hnn2 hLl hRl hLL hLR
        have hq1 : ka ≤ S := by have := HKD.out; omega
        clear hq1
        by_cases c1 : S < m ∧ m < En
        · have hj1 : (S : Int) < (m : Int) := by omega
          have hj2 : (m : Int) < (En : Int) := by omega
          have hrot : ∀ f, _ := fun f => rotateU_any A n c base S m En f ((P ++ L.take ka).map x) ((L.drop ka).map x) ((R.take da).map x) ((R.drop da ++ B).map x) wr (by omega) (by
            have h := HW.out.1
            have e : P ++ (L ++ (R ++ B)) = (P ++ L.take ka) ++ (L.drop ka ++ (R.take da ++ (R.drop da ++ B))) := by
              rw [← List.append_assoc (R.take da), List.take_append_drop, List.append_assoc P, ← List.append_assoc (L.take ka), List.take_append_drop]
            rw [e] at h
            simp only [List.map_append, List.append_assoc] at h ⊢
            exact h) (by have hk := HKD.out; have hpl := HP.out; have hnb := hNN.out; simp; omega) (by have hk := HKD.out; have hpl := HP.out; have hnb := hNN.out; simp; omega) (by have hk := HKD.out; have hpl := HP.out; have hnb := hNN.out; simp; omega) (by have hk := HKD.out; have hpl := HP.out; have hnb := hNN.out; simp; omega) (by have hk := HKD.out; have hpl := HP.out; have hnb := hNN.out; simp; omega)
          have HROT := Lib.hid hrot
          have HG0 := Lib.hid HW.out.2
          clear hrot HW c1
          go_wp2_with fail
          refine (HROT.out _).mono ?_
          rintro e w2 ⟨⟨v, rfl⟩, o1, g1⟩
          have HN1 : Hid (w2.ownsRow base 83 3 (.slice A n c) n (eList eUs ((P ++ (L.take ka ++ (R.take da ++ (L.drop ka ++ (R.drop da ++ B))))).map x)) ∧ w.grownBy w2 (Value.slice A n c).ownBlock) := ⟨by simpa [List.append_assoc] using o1, grown_tr HG0.out g1⟩
          clear o1 g1 HROT
          by_cases c2 : a < S ∧ S < mid
          · have hi1 : (a : Int) < (S : Int) := by omega
            have hi2 : (S : Int) < (mid : Int) := by omega
            have hrec : Calls Try.prog 89 #[.slice A n c, .int .i64 a, .int .i64 S, .int .i64 mid, .func (.func 74) #[] #[]] w2 (SymPostU cf A n c base x P (L.take ka) (R.take da) (L.drop ka ++ (R.drop da ++ B)) w2) := by
              have hk := HKD.out; have hpl := HP.out; have hnb := hNN.out
              refine IH.out a S mid P (L.take ka) (R.take da) _ w2 ?_ HN1.out.1 HP.out ?_ ?_ ?_ ?_ (fun u hu v hv => HO.out u (List.mem_of_mem_take hu) v (List.mem_of_mem_take hv)) (srt_take HSL.out ka) (srt_take HSR.out da)
              all_goals simp only [List.length_take]
              all_goals omega
            have HC2 := Lib.hid hrec
            have HG1 := Lib.hid HN1.out.2
            clear hrec HN1 c2
            go_wp2_with fail
            refine HC2.out.mono ?_
            rintro e w3 ⟨⟨v, rfl⟩, M1, p1, s1, o1, g1⟩
            have HN2 : Hid (∃ M1, M1.Perm (L.take ka ++ R.take da) ∧ Srt cf x M1 ∧ w3.ownsRow base 83 3 (.slice A n c) n (eList eUs (((P ++ M1) ++ (L.drop ka ++ (R.drop da ++ B))).map x)) ∧ w.grownBy w3 (Value.slice A n c).ownBlock) := ⟨M1, p1, s1, by simpa [List.append_assoc] using o1, grown_tr HG1.out g1⟩
            clear p1 s1 o1 g1
            by_cases c3 : mid < En ∧ En < b
            · have hi1 : (mid : Int) < (En : Int) := by omega
              have hi2 : (En : Int) < (b : Int) := by omega
              have hrec : ∀ M1 : List Nat, M1.Perm (L.take ka ++ R.take da) → w3.ownsRow base 83 3 (.slice A n c) n (eList eUs (((P ++ M1) ++ (L.drop ka ++ (R.drop da ++ B))).map x)) → Calls Try.prog 89 #[.slice A n c, .int .i64 mid, .int .i64 En, .int .i64 b, .func (.func 74) #[] #[]] w3 (SymPostU cf A n c base x (P ++ M1) (L.drop ka) (R.drop da) B w3) := fun M1 p1 o1 => by
                have hl1 := p1.length_eq
                simp only [List.length_append, List.length_take] at hl1
                have hk := HKD.out; have hpl := HP.out; have hnb := hNN.out
                refine IH.out mid En b (P ++ M1) (L.drop ka) (R.drop da) B w3 ?_ o1 ?_ ?_ ?_ ?_ ?_ (fun u hu v hv => HO.out u (List.mem_of_mem_drop hu) v (List.mem_of_mem_drop hv)) (srt_drop HSL.out ka) (srt_drop HSR.out da)
                all_goals simp only [List.length_append, List.length_drop]
                all_goals omega
              obtain ⟨M1, p1, s1, o1, g1⟩ := HN2.out
              have HC2 := Lib.hid (hrec M1 p1 o1)
              have HP1 := Lib.hid (And.intro p1 (And.intro s1 g1))
              clear hrec p1 s1 o1 g1 HN2 c3
              go_wp2_with fail
              refine HC2.out.mono ?_
              rintro e w4 ⟨⟨v, rfl⟩, M2, p2, s2, o2, g2⟩
              have o2 : w4.ownsRow base 83 3 (.slice A n c) n (eList eUs ((P ++ ((M1 ++ M2) ++ B)).map x)) := by simpa [List.append_assoc] using o2
              have HF := Lib.hid (And.intro p2 (And.intro s2 (And.intro o2 (grown_tr HP1.out.2.2 g2))))
              clear p2 s2 o2 g2
              go_wp2
              all_goals
                go_end0
                have hs := srt_sym hok HSL.out HSR.out hkL hdR HX1.out HX2.out HP1.out.1 HP1.out.2.1 HF.out.1 HF.out.2.1
                exact ⟨⟨_, rfl⟩, M1 ++ M2, hs.1, hs.2, HF.out.2.2.1, HF.out.2.2.2⟩
            · have hend : ∀ v, SymPostU cf A n c base x P L R B w (.returned v) w3 := fun v => by
                obtain ⟨M1, p1, s1, o1, g1⟩ := HN2.out
                have hk := HKD.out; have hpl := HP.out; have hnb := hNN.out
                have s2 : Srt cf x (L.drop ka ++ R.drop da) := by
                  by_cases h : mid < En
                  · rw [show R.drop da = [] from List.drop_eq_nil_of_le (by omega), List.append_nil]
                    exact srt_drop HSL.out ka
                  · rw [show L.drop ka = [] from List.drop_eq_nil_of_le (by omega), List.nil_append]
                    exact srt_drop HSR.out da
                have hs := srt_sym hok HSL.out HSR.out hkL hdR HX1.out HX2.out p1 s1 (List.Perm.refl _) s2
                exact ⟨⟨_, rfl⟩, M1 ++ (L.drop ka ++ R.drop da), hs.1, hs.2, by simpa [List.append_assoc] using o1, g1⟩
              have HEND := Lib.hid hend
              clear hend HN2
              by_cases h : mid < En
              · have hi2 : (mid : Int) < (En : Int) := by omega
                have hi3 : ¬ (En : Int) < (b : Int) := by omega
                clear c3
                go_wp2
                all_goals (go_end0; exact HEND.out _)
              · have hi2 : ¬ (mid : Int) < (En : Int) := by omega
                clear c3
                go_wp2
                all_goals (go_end0; exact HEND.out _)
          · have HN2 : Hid (∃ M1, M1.Perm (L.take ka ++ R.take da) ∧ Srt cf x M1 ∧ w2.ownsRow base 83 3 (.slice A n c) n (eList eUs (((P ++ M1) ++ (L.drop ka ++ (R.drop da ++ B))).map x)) ∧ w.grownBy w2 (Value.slice A n c).ownBlock) := by
              have hk := HKD.out; have hpl := HP.out; have hnb := hNN.out
              refine ⟨_, List.Perm.refl _, ?_, by simpa [List.append_assoc] using HN1.out.1, HN1.out.2⟩
              by_cases h : a < S
              · rw [show da = 0 by omega, List.take_zero, List.append_nil]
                exact srt_take HSL.out ka
              · rw [show ka = 0 by omega, List.take_zero, List.nil_append]
                exact srt_take HSR.out da
            clear HN1
            by_cases h : a < S
            · have hi2 : (a : Int) < (S : Int) := by omega
              have hi3 : ¬ (S : Int) < (mid : Int) := by omega
              clear c2
              exfalso; have hk := HKD.out; omega
            · have hi2 : ¬ (a : Int) < (S : Int) := by omega
              clear c2
              by_cases c3 : mid < En ∧ En < b
              · have hi1 : (mid : Int) < (En : Int) := by omega
                have hi2 : (En : Int) < (b : Int) := by omega
                have hrec : ∀ M1 : List Nat, M1.Perm (L.take ka ++ R.take da) → w2.ownsRow base 83 3 (.slice A n c) n (eList eUs (((P ++ M1) ++ (L.drop ka ++ (R.drop da ++ B))).map x)) → Calls Try.prog 89 #[.slice A n c, .int .i64 mid, .int .i64 En, .int .i64 b, .func (.func 74) #[] #[]] w2 (SymPostU cf A n c base x (P ++ M1) (L.drop ka) (R.drop da) B w2) := fun M1 p1 o1 => by
                  have hl1 := p1.length_eq
                  simp only [List.length_append, List.length_take] at hl1
                  have hk := HKD.out; have hpl := HP.out; have hnb := hNN.out
                  refine IH.out mid En b (P ++ M1) (L.drop ka) (R.drop da) B w2 ?_ o1 ?_ ?_ ?_ ?_ ?_ (fun u hu v hv => HO.out u (List.mem_of_mem_drop hu) v (List.mem_of_mem_drop hv)) (srt_drop HSL.out ka) (srt_drop HSR.out da)
                  all_goals simp only [List.length_append, List.length_drop]
                  all_goals omega
                obtain ⟨M1, p1, s1, o1, g1⟩ := HN2.out
                have HC2 := Lib.hid (hrec M1 p1 o1)
                have HP1 := Lib.hid (And.intro p1 (And.intro s1 g1))
                clear hrec p1 s1 o1 g1 HN2 c3
                go_wp2_with fail
                refine HC2.out.mono ?_
                rintro e w4 ⟨⟨v, rfl⟩, M2, p2, s2, o2, g2⟩
                have o2 : w4.ownsRow base 83 3 (.slice A n c) n (eList eUs ((P ++ ((M1 ++ M2) ++ B)).map x)) := by simpa [List.append_assoc] using o2
                have HF := Lib.hid (And.intro p2 (And.intro s2 (And.intro o2 (grown_tr HP1.out.2.2 g2))))
                clear p2 s2 o2 g2
                go_wp2
                all_goals
                  go_end0
                  have hs := srt_sym hok HSL.out HSR.out hkL hdR HX1.out HX2.out HP1.out.1 HP1.out.2.1 HF.out.1 HF.out.2.1
                  exact ⟨⟨_, rfl⟩, M1 ++ M2, hs.1, hs.2, HF.out.2.2.1, HF.out.2.2.2⟩
              · have hend : ∀ v, SymPostU cf A n c base x P L R B w (.returned v) w2 := fun v => by
                  obtain ⟨M1, p1, s1, o1, g1⟩ := HN2.out
                  have hk := HKD.out; have hpl := HP.out; have hnb := hNN.out
                  have s2 : Srt cf x (L.drop ka ++ R.drop da) := by
                    by_cases h : mid < En
                    · rw [show R.drop da = [] from List.drop_eq_nil_of_le (by omega), List.append_nil]
                      exact srt_drop HSL.out ka
                    · rw [show L.drop ka = [] from List.drop_eq_nil_of_le (by omega), List.nil_append]
                      exact srt_drop HSR.out da
                  have hs := srt_sym hok HSL.out HSR.out hkL hdR HX1.out HX2.out p1 s1 (List.Perm.refl _) s2
                  exact ⟨⟨_, rfl⟩, M1 ++ (L.drop ka ++ R.drop da), hs.1, hs.2, by simpa [List.append_assoc] using o1, g1⟩
                have HEND := Lib.hid hend
                clear hend HN2
                by_cases h : mid < En
                · have hi2 : (mid : Int) < (En : Int) := by omega
                  have hi3 : ¬ (En : Int) < (b : Int) := by omega
                  clear c3
                  go_wp2
                  all_goals (go_end0; exact HEND.out _)
                · have hi2 : ¬ (mid : Int) < (En : Int) := by omega
                  clear c3
                  go_wp2
                  all_goals (go_end0; exact HEND.out _)
        · have HN1 : Hid (wr.ownsRow base 83 3 (.slice A n c) n (eList eUs ((P ++ (L.take ka ++ (R.take da ++ (L.drop ka ++ (R.drop da ++ B))))).map x)) ∧ w.grownBy wr (Value.slice A n c).ownBlock) := by
            refine ⟨?_, HW.out.2⟩
            have hk := HKD.out; have hpl := HP.out; have hnb := hNN.out
            have h := HW.out.1
            have e : P ++ (L ++ (R ++ B)) = P ++ (L.take ka ++ (R.take da ++ (L.drop ka ++ (R.drop da ++ B)))) := by
              by_cases h : S < m
              · rw [show da = 0 by omega, List.take_zero, List.drop_zero, List.nil_append, ← List.append_assoc (L.take ka), List.take_append_drop]
              · rw [show L.take ka = L from List.take_of_length_le (by omega), show L.drop ka = [] from List.drop_eq_nil_of_le (by omega), List.nil_append, ← List.append_assoc (R.take da), List.take_append_drop]
            rw [e] at h
            exact h
          clear HW
          by_cases h : S < m
          · have hj2 : (S : Int) < (m : Int) := by omega
            have hj3 : ¬ (m : Int) < (En : Int) := by omega
            clear c1
            by_cases c2 : a < S ∧ S < mid
            · have hi1 : (a : Int) < (S : Int) := by omega
              have hi2 : (S : Int) < (mid : Int) := by omega
              have hrec : Calls Try.prog 89 #[.slice A n c, .int .i64 a, .int .i64 S, .int .i64 mid, .func (.func 74) #[] #[]] wr (SymPostU cf A n c base x P (L.take ka) (R.take da) (L.drop ka ++ (R.drop da ++ B)) wr) := by
                have hk := HKD.out; have hpl := HP.out; have hnb := hNN.out
                refine IH.out a S mid P (L.take ka) (R.take da) _ wr ?_ HN1.out.1 HP.out ?_ ?_ ?_ ?_ (fun u hu v hv => HO.out u (List.mem_of_mem_take hu) v (List.mem_of_mem_take hv)) (srt_take HSL.out ka) (srt_take HSR.out da)
                all_goals simp only [List.length_take]
                all_goals omega
              have HC2 := Lib.hid hrec
              have HG1 := Lib.hid HN1.out.2
              clear hrec HN1 c2
              go_wp2_with fail
              refine HC2.out.mono ?_
              rintro e w3 ⟨⟨v, rfl⟩, M1, p1, s1, o1, g1⟩
              have HN2 : Hid (∃ M1, M1.Perm (L.take ka ++ R.take da) ∧ Srt cf x M1 ∧ w3.ownsRow base 83 3 (.slice A n c) n (eList eUs (((P ++ M1) ++ (L.drop ka ++ (R.drop da ++ B))).map x)) ∧ w.grownBy w3 (Value.slice A n c).ownBlock) := ⟨M1, p1, s1, by simpa [List.append_assoc] using o1, grown_tr HG1.out g1⟩
              clear p1 s1 o1 g1
              by_cases c3 : mid < En ∧ En < b
              · have hi1 : (mid : Int) < (En : Int) := by omega
                have hi2 : (En : Int) < (b : Int) := by omega
                have hrec : ∀ M1 : List Nat, M1.Perm (L.take ka ++ R.take da) → w3.ownsRow base 83 3 (.slice A n c) n (eList eUs (((P ++ M1) ++ (L.drop ka ++ (R.drop da ++ B))).map x)) → Calls Try.prog 89 #[.slice A n c, .int .i64 mid, .int .i64 En, .int .i64 b, .func (.func 74) #[] #[]] w3 (SymPostU cf A n c base x (P ++ M1) (L.drop ka) (R.drop da) B w3) := fun M1 p1 o1 => by
                  have hl1 := p1.length_eq
                  simp only [List.length_append, List.length_take] at hl1
                  have hk := HKD.out; have hpl := HP.out; have hnb := hNN.out
                  refine IH.out mid En b (P ++ M1) (L.drop ka) (R.drop da) B w3 ?_ o1 ?_ ?_ ?_ ?_ ?_ (fun u hu v hv => HO.out u (List.mem_of_mem_drop hu) v (List.mem_of_mem_drop hv)) (srt_drop HSL.out ka) (srt_drop HSR.out da)
                  all_goals simp only [List.length_append, List.length_drop]
                  all_goals omega
                obtain ⟨M1, p1, s1, o1, g1⟩ := HN2.out
                have HC2 := Lib.hid (hrec M1 p1 o1)
                have HP1 := Lib.hid (And.intro p1 (And.intro s1 g1))
                clear hrec p1 s1 o1 g1 HN2 c3
                go_wp2_with fail
                refine HC2.out.mono ?_
                rintro e w4 ⟨⟨v, rfl⟩, M2, p2, s2, o2, g2⟩
                have o2 : w4.ownsRow base 83 3 (.slice A n c) n (eList eUs ((P ++ ((M1 ++ M2) ++ B)).map x)) := by simpa [List.append_assoc] using o2
                have HF := Lib.hid (And.intro p2 (And.intro s2 (And.intro o2 (grown_tr HP1.out.2.2 g2))))
                clear p2 s2 o2 g2
                go_wp2
                all_goals
                  go_end0
                  have hs := srt_sym hok HSL.out HSR.out hkL hdR HX1.out HX2.out HP1.out.1 HP1.out.2.1 HF.out.1 HF.out.2.1
                  exact ⟨⟨_, rfl⟩, M1 ++ M2, hs.1, hs.2, HF.out.2.2.1, HF.out.2.2.2⟩
              · have hend : ∀ v, SymPostU cf A n c base x P L R B w (.returned v) w3 := fun v => by
                  obtain ⟨M1, p1, s1, o1, g1⟩ := HN2.out
                  have hk := HKD.out; have hpl := HP.out; have hnb := hNN.out
                  have s2 : Srt cf x (L.drop ka ++ R.drop da) := by
                    by_cases h : mid < En
                    · rw [show R.drop da = [] from List.drop_eq_nil_of_le (by omega), List.append_nil]
                      exact srt_drop HSL.out ka
                    · rw [show L.drop ka = [] from List.drop_eq_nil_of_le (by omega), List.nil_append]
                      exact srt_drop HSR.out da
                  have hs := srt_sym hok HSL.out HSR.out hkL hdR HX1.out HX2.out p1 s1 (List.Perm.refl _) s2
                  exact ⟨⟨_, rfl⟩, M1 ++ (L.drop ka ++ R.drop da), hs.1, hs.2, by simpa [List.append_assoc] using o1, g1⟩
                have HEND := Lib.hid hend
                clear hend HN2
                by_cases h : mid < En
                · have hi2 : (mid : Int) < (En : Int) := by omega
                  have hi3 : ¬ (En : Int) < (b : Int) := by omega
                  clear c3
                  go_wp2
                  all_goals (go_end0; exact HEND.out _)
                · have hi2 : ¬ (mid : Int) < (En : Int) := by omega
                  clear c3
                  go_wp2
                  all_goals (go_end0; exact HEND.out _)
            · have HN2 : Hid (∃ M1, M1.Perm (L.take ka ++ R.take da) ∧ Srt cf x M1 ∧ wr.ownsRow base 83 3 (.slice A n c) n (eList eUs (((P ++ M1) ++ (L.drop ka ++ (R.drop da ++ B))).map x)) ∧ w.grownBy wr (Value.slice A n c).ownBlock) := by
                have hk := HKD.out; have hpl := HP.out; have hnb := hNN.out
                refine ⟨_, List.Perm.refl _, ?_, by simpa [List.append_assoc] using HN1.out.1, HN1.out.2⟩
                by_cases h : a < S
                · rw [show da = 0 by omega, List.take_zero, List.append_nil]
                  exact srt_take HSL.out ka
                · rw [show ka = 0 by omega, List.take_zero, List.nil_append]
                  exact srt_take HSR.out da
              clear HN1
              by_cases h : a < S
              · have hi2 : (a : Int) < (S : Int) := by omega
                have hi3 : ¬ (S : Int) < (mid : Int) := by omega
                clear c2
                by_cases c3 : mid < En ∧ En < b
                · have hi1 : (mid : Int) < (En : Int) := by omega
                  have hi2 : (En : Int) < (b : Int) := by omega
                  have hrec : ∀ M1 : List Nat, M1.Perm (L.take ka ++ R.take da) → wr.ownsRow base 83 3 (.slice A n c) n (eList eUs (((P ++ M1) ++ (L.drop ka ++ (R.drop da ++ B))).map x)) → Calls Try.prog 89 #[.slice A n c, .int .i64 mid, .int .i64 En, .int .i64 b, .func (.func 74) #[] #[]] wr (SymPostU cf A n c base x (P ++ M1) (L.drop ka) (R.drop da) B wr) := fun M1 p1 o1 => by
                    have hl1 := p1.length_eq
                    simp only [List.length_append, List.length_take] at hl1
                    have hk := HKD.out; have hpl := HP.out; have hnb := hNN.out
                    refine IH.out mid En b (P ++ M1) (L.drop ka) (R.drop da) B wr ?_ o1 ?_ ?_ ?_ ?_ ?_ (fun u hu v hv => HO.out u (List.mem_of_mem_drop hu) v (List.mem_of_mem_drop hv)) (srt_drop HSL.out ka) (srt_drop HSR.out da)
                    all_goals simp only [List.length_append, List.length_drop]
                    all_goals omega
                  obtain ⟨M1, p1, s1, o1, g1⟩ := HN2.out
                  have HC2 := Lib.hid (hrec M1 p1 o1)
                  have HP1 := Lib.hid (And.intro p1 (And.intro s1 g1))
                  clear hrec p1 s1 o1 g1 HN2 c3
                  go_wp2_with fail
                  refine HC2.out.mono ?_
                  rintro e w4 ⟨⟨v, rfl⟩, M2, p2, s2, o2, g2⟩
                  have o2 : w4.ownsRow base 83 3 (.slice A n c) n (eList eUs ((P ++ ((M1 ++ M2) ++ B)).map x)) := by simpa [List.append_assoc] using o2
                  have HF := Lib.hid (And.intro p2 (And.intro s2 (And.intro o2 (grown_tr HP1.out.2.2 g2))))
                  clear p2 s2 o2 g2
                  go_wp2
                  all_goals
                    go_end0
                    have hs := srt_sym hok HSL.out HSR.out hkL hdR HX1.out HX2.out HP1.out.1 HP1.out.2.1 HF.out.1 HF.out.2.1
                    exact ⟨⟨_, rfl⟩, M1 ++ M2, hs.1, hs.2, HF.out.2.2.1, HF.out.2.2.2⟩
                · have hend : ∀ v, SymPostU cf A n c base x P L R B w (.returned v) wr := fun v => by
                    obtain ⟨M1, p1, s1, o1, g1⟩ := HN2.out
                    have hk := HKD.out; have hpl := HP.out; have hnb := hNN.out
                    have s2 : Srt cf x (L.drop ka ++ R.drop da) := by
                      by_cases h : mid < En
                      · rw [show R.drop da = [] from List.drop_eq_nil_of_le (by omega), List.append_nil]
                        exact srt_drop HSL.out ka
                      · rw [show L.drop ka = [] from List.drop_eq_nil_of_le (by omega), List.nil_append]
                        exact srt_drop HSR.out da
                    have hs := srt_sym hok HSL.out HSR.out hkL hdR HX1.out HX2.out p1 s1 (List.Perm.refl _) s2
                    exact ⟨⟨_, rfl⟩, M1 ++ (L.drop ka ++ R.drop da), hs.1, hs.2, by simpa [List.append_assoc] using o1, g1⟩
                  have HEND := Lib.hid hend
                  clear hend HN2
                  by_cases h : mid < En
                  · have hi2 : (mid : Int) < (En : Int) := by omega
                    have hi3 : ¬ (En : Int) < (b : Int) := by omega
                    clear c3
                    go_wp2
                    all_goals (go_end0; exact HEND.out _)
                  · have hi2 : ¬ (mid : Int) < (En : Int) := by omega
                    clear c3
                    go_wp2
                    all_goals (go_end0; exact HEND.out _)
              · have hi2 : ¬ (a : Int) < (S : Int) := by omega
                clear c2
                by_cases c3 : mid < En ∧ En < b
                · have hi1 : (mid : Int) < (En : Int) := by omega
                  have hi2 : (En : Int) < (b : Int) := by omega
                  have hrec : ∀ M1 : List Nat, M1.Perm (L.take ka ++ R.take da) → wr.ownsRow base 83 3 (.slice A n c) n (eList eUs (((P ++ M1) ++ (L.drop ka ++ (R.drop da ++ B))).map x)) → Calls Try.prog 89 #[.slice A n c, .int .i64 mid, .int .i64 En, .int .i64 b, .func (.func 74) #[] #[]] wr (SymPostU cf A n c base x (P ++ M1) (L.drop ka) (R.drop da) B wr) := fun M1 p1 o1 => by
                    have hl1 := p1.length_eq
                    simp only [List.length_append, List.length_take] at hl1
                    have hk := HKD.out; have hpl := HP.out; have hnb := hNN.out
                    refine IH.out mid En b (P ++ M1) (L.drop ka) (R.drop da) B wr ?_ o1 ?_ ?_ ?_ ?_ ?_ (fun u hu v hv => HO.out u (List.mem_of_mem_drop hu) v (List.mem_of_mem_drop hv)) (srt_drop HSL.out ka) (srt_drop HSR.out da)
                    all_goals simp only [List.length_append, List.length_drop]
                    all_goals omega
                  obtain ⟨M1, p1, s1, o1, g1⟩ := HN2.out
                  have HC2 := Lib.hid (hrec M1 p1 o1)
                  have HP1 := Lib.hid (And.intro p1 (And.intro s1 g1))
                  clear hrec p1 s1 o1 g1 HN2 c3
                  go_wp2_with fail
                  refine HC2.out.mono ?_
                  rintro e w4 ⟨⟨v, rfl⟩, M2, p2, s2, o2, g2⟩
                  have o2 : w4.ownsRow base 83 3 (.slice A n c) n (eList eUs ((P ++ ((M1 ++ M2) ++ B)).map x)) := by simpa [List.append_assoc] using o2
                  have HF := Lib.hid (And.intro p2 (And.intro s2 (And.intro o2 (grown_tr HP1.out.2.2 g2))))
                  clear p2 s2 o2 g2
                  go_wp2
                  all_goals
                    go_end0
                    have hs := srt_sym hok HSL.out HSR.out hkL hdR HX1.out HX2.out HP1.out.1 HP1.out.2.1 HF.out.1 HF.out.2.1
                    exact ⟨⟨_, rfl⟩, M1 ++ M2, hs.1, hs.2, HF.out.2.2.1, HF.out.2.2.2⟩
                · have hend : ∀ v, SymPostU cf A n c base x P L R B w (.returned v) wr := fun v => by
                    obtain ⟨M1, p1, s1, o1, g1⟩ := HN2.out
                    have hk := HKD.out; have hpl := HP.out; have hnb := hNN.out
                    have s2 : Srt cf x (L.drop ka ++ R.drop da) := by
                      by_cases h : mid < En
                      · rw [show R.drop da = [] from List.drop_eq_nil_of_le (by omega), List.append_nil]
                        exact srt_drop HSL.out ka
                      · rw [show L.drop ka = [] from List.drop_eq_nil_of_le (by omega), List.nil_append]
                        exact srt_drop HSR.out da
                    have hs := srt_sym hok HSL.out HSR.out hkL hdR HX1.out HX2.out p1 s1 (List.Perm.refl _) s2
                    exact ⟨⟨_, rfl⟩, M1 ++ (L.drop ka ++ R.drop da), hs.1, hs.2, by simpa [List.append_assoc] using o1, g1⟩
                  have HEND := Lib.hid hend
                  clear hend HN2
                  by_cases h : mid < En
                  · have hi2 : (mid : Int) < (En : Int) := by omega
                    have hi3 : ¬ (En : Int) < (b : Int) := by omega
                    clear c3
                    go_wp2
                    all_goals (go_end0; exact HEND.out _)
                  · have hi2 : ¬ (mid : Int) < (En : Int) := by omega
                    clear c3
                    go_wp2
                    all_goals (go_end0; exact HEND.out _)
          · have hj2 : ¬ (S : Int) < (m : Int) := by omega
            clear c1
            by_cases c2 : a < S ∧ S < mid
            · have hi1 : (a : Int) < (S : Int) := by omega
              have hi2 : (S : Int) < (mid : Int) := by omega
              have hrec : Calls Try.prog 89 #[.slice A n c, .int .i64 a, .int .i64 S, .int .i64 mid, .func (.func 74) #[] #[]] wr (SymPostU cf A n c base x P (L.take ka) (R.take da) (L.drop ka ++ (R.drop da ++ B)) wr) := by
                have hk := HKD.out; have hpl := HP.out; have hnb := hNN.out
                refine IH.out a S mid P (L.take ka) (R.take da) _ wr ?_ HN1.out.1 HP.out ?_ ?_ ?_ ?_ (fun u hu v hv => HO.out u (List.mem_of_mem_take hu) v (List.mem_of_mem_take hv)) (srt_take HSL.out ka) (srt_take HSR.out da)
                all_goals simp only [List.length_take]
                all_goals omega
              have HC2 := Lib.hid hrec
              have HG1 := Lib.hid HN1.out.2
              clear hrec HN1 c2
              go_wp2_with fail
              refine HC2.out.mono ?_
              rintro e w3 ⟨⟨v, rfl⟩, M1, p1, s1, o1, g1⟩
              have HN2 : Hid (∃ M1, M1.Perm (L.take ka ++ R.take da) ∧ Srt cf x M1 ∧ w3.ownsRow base 83 3 (.slice A n c) n (eList eUs (((P ++ M1) ++ (L.drop ka ++ (R.drop da ++ B))).map x)) ∧ w.grownBy w3 (Value.slice A n c).ownBlock) := ⟨M1, p1, s1, by simpa [List.append_assoc] using o1, grown_tr HG1.out g1⟩
              clear p1 s1 o1 g1
              by_cases c3 : mid < En ∧ En < b
              · have hi1 : (mid : Int) < (En : Int) := by omega
                have hi2 : (En : Int) < (b : Int) := by omega
                have hrec : ∀ M1 : List Nat, M1.Perm (L.take ka ++ R.take da) → w3.ownsRow base 83 3 (.slice A n c) n (eList eUs (((P ++ M1) ++ (L.drop ka ++ (R.drop da ++ B))).map x)) → Calls Try.prog 89 #[.slice A n c, .int .i64 mid, .int .i64 En, .int .i64 b, .func (.func 74) #[] #[]] w3 (SymPostU cf A n c base x (P ++ M1) (L.drop ka) (R.drop da) B w3) := fun M1 p1 o1 => by
                  have hl1 := p1.length_eq
                  simp only [List.length_append, List.length_take] at hl1
                  have hk := HKD.out; have hpl := HP.out; have hnb := hNN.out
                  refine IH.out mid En b (P ++ M1) (L.drop ka) (R.drop da) B w3 ?_ o1 ?_ ?_ ?_ ?_ ?_ (fun u hu v hv => HO.out u (List.mem_of_mem_drop hu) v (List.mem_of_mem_drop hv)) (srt_drop HSL.out ka) (srt_drop HSR.out da)
                  all_goals simp only [List.length_append, List.length_drop]
                  all_goals omega
                obtain ⟨M1, p1, s1, o1, g1⟩ := HN2.out
                have HC2 := Lib.hid (hrec M1 p1 o1)
                have HP1 := Lib.hid (And.intro p1 (And.intro s1 g1))
                clear hrec p1 s1 o1 g1 HN2 c3
                go_wp2_with fail
                refine HC2.out.mono ?_
                rintro e w4 ⟨⟨v, rfl⟩, M2, p2, s2, o2, g2⟩
                have o2 : w4.ownsRow base 83 3 (.slice A n c) n (eList eUs ((P ++ ((M1 ++ M2) ++ B)).map x)) := by simpa [List.append_assoc] using o2
                have HF := Lib.hid (And.intro p2 (And.intro s2 (And.intro o2 (grown_tr HP1.out.2.2 g2))))
                clear p2 s2 o2 g2
                go_wp2
                all_goals
                  go_end0
                  have hs := srt_sym hok HSL.out HSR.out hkL hdR HX1.out HX2.out HP1.out.1 HP1.out.2.1 HF.out.1 HF.out.2.1
                  exact ⟨⟨_, rfl⟩, M1 ++ M2, hs.1, hs.2, HF.out.2.2.1, HF.out.2.2.2⟩
              · have hend : ∀ v, SymPostU cf A n c base x P L R B w (.returned v) w3 := fun v => by
                  obtain ⟨M1, p1, s1, o1, g1⟩ := HN2.out
                  have hk := HKD.out; have hpl := HP.out; have hnb := hNN.out
                  have s2 : Srt cf x (L.drop ka ++ R.drop da) := by
                    by_cases h : mid < En
                    · rw [show R.drop da = [] from List.drop_eq_nil_of_le (by omega), List.append_nil]
                      exact srt_drop HSL.out ka
                    · rw [show L.drop ka = [] from List.drop_eq_nil_of_le (by omega), List.nil_append]
                      exact srt_drop HSR.out da
                  have hs := srt_sym hok HSL.out HSR.out hkL hdR HX1.out HX2.out p1 s1 (List.Perm.refl _) s2
                  exact ⟨⟨_, rfl⟩, M1 ++ (L.drop ka ++ R.drop da), hs.1, hs.2, by simpa [List.append_assoc] using o1, g1⟩
                have HEND := Lib.hid hend
                clear hend HN2
                by_cases h : mid < En
                · have hi2 : (mid : Int) < (En : Int) := by omega
                  have hi3 : ¬ (En : Int) < (b : Int) := by omega
                  clear c3
                  go_wp2
                  all_goals (go_end0; exact HEND.out _)
                · have hi2 : ¬ (mid : Int) < (En : Int) := by omega
                  clear c3
                  go_wp2
                  all_goals (go_end0; exact HEND.out _)
            · have HN2 : Hid (∃ M1, M1.Perm (L.take ka ++ R.take da) ∧ Srt cf x M1 ∧ wr.ownsRow base 83 3 (.slice A n c) n (eList eUs (((P ++ M1) ++ (L.drop ka ++ (R.drop da ++ B))).map x)) ∧ w.grownBy wr (Value.slice A n c).ownBlock) := by
                have hk := HKD.out; have hpl := HP.out; have hnb := hNN.out
                refine ⟨_, List.Perm.refl _, ?_, by simpa [List.append_assoc] using HN1.out.1, HN1.out.2⟩
                by_cases h : a < S
                · rw [show da = 0 by omega, List.take_zero, List.append_nil]
                  exact srt_take HSL.out ka
                · rw [show ka = 0 by omega, List.take_zero, List.nil_append]
                  exact srt_take HSR.out da
              clear HN1
              by_cases h : a < S
              · have hi2 : (a : Int) < (S : Int) := by omega
                have hi3 : ¬ (S : Int) < (mid : Int) := by omega
                clear c2
                by_cases c3 : mid < En ∧ En < b
                · have hi1 : (mid : Int) < (En : Int) := by omega
                  have hi2 : (En : Int) < (b : Int) := by omega
                  have hrec : ∀ M1 : List Nat, M1.Perm (L.take ka ++ R.take da) → wr.ownsRow base 83 3 (.slice A n c) n (eList eUs (((P ++ M1) ++ (L.drop ka ++ (R.drop da ++ B))).map x)) → Calls Try.prog 89 #[.slice A n c, .int .i64 mid, .int .i64 En, .int .i64 b, .func (.func 74) #[] #[]] wr (SymPostU cf A n c base x (P ++ M1) (L.drop ka) (R.drop da) B wr) := fun M1 p1 o1 => by
                    have hl1 := p1.length_eq
                    simp only [List.length_append, List.length_take] at hl1
                    have hk := HKD.out; have hpl := HP.out; have hnb := hNN.out
                    refine IH.out mid En b (P ++ M1) (L.drop ka) (R.drop da) B wr ?_ o1 ?_ ?_ ?_ ?_ ?_ (fun u hu v hv => HO.out u (List.mem_of_mem_drop hu) v (List.mem_of_mem_drop hv)) (srt_drop HSL.out ka) (srt_drop HSR.out da)
                    all_goals simp only [List.length_append, List.length_drop]
                    all_goals omega
                  obtain ⟨M1, p1, s1, o1, g1⟩ := HN2.out
                  have HC2 := Lib.hid (hrec M1 p1 o1)
                  have HP1 := Lib.hid (And.intro p1 (And.intro s1 g1))
                  clear hrec p1 s1 o1 g1 HN2 c3
                  go_wp2_with fail
                  refine HC2.out.mono ?_
                  rintro e w4 ⟨⟨v, rfl⟩, M2, p2, s2, o2, g2⟩
                  have o2 : w4.ownsRow base 83 3 (.slice A n c) n (eList eUs ((P ++ ((M1 ++ M2) ++ B)).map x)) := by simpa [List.append_assoc] using o2
                  have HF := Lib.hid (And.intro p2 (And.intro s2 (And.intro o2 (grown_tr HP1.out.2.2 g2))))
                  clear p2 s2 o2 g2
                  go_wp2
                  all_goals
                    go_end0
                    have hs := srt_sym hok HSL.out HSR.out hkL hdR HX1.out HX2.out HP1.out.1 HP1.out.2.1 HF.out.1 HF.out.2.1
                    exact ⟨⟨_, rfl⟩, M1 ++ M2, hs.1, hs.2, HF.out.2.2.1, HF.out.2.2.2⟩
                · have hend : ∀ v, SymPostU cf A n c base x P L R B w (.returned v) wr := fun v => by
                    obtain ⟨M1, p1, s1, o1, g1⟩ := HN2.out
                    have hk := HKD.out; have hpl := HP.out; have hnb := hNN.out
                    have s2 : Srt cf x (L.drop ka ++ R.drop da) := by
                      by_cases h : mid < En
                      · rw [show R.drop da = [] from List.drop_eq_nil_of_le (by omega), List.append_nil]
                        exact srt_drop HSL.out ka
                      · rw [show L.drop ka = [] from List.drop_eq_nil_of_le (by omega), List.nil_append]
                        exact srt_drop HSR.out da
                    have hs := srt_sym hok HSL.out HSR.out hkL hdR HX1.out HX2.out p1 s1 (List.Perm.refl _) s2
                    exact ⟨⟨_, rfl⟩, M1 ++ (L.drop ka ++ R.drop da), hs.1, hs.2, by simpa [List.append_assoc] using o1, g1⟩
                  have HEND := Lib.hid hend
                  clear hend HN2
                  by_cases h : mid < En
                  · have hi2 : (mid : Int) < (En : Int) := by omega
                    have hi3 : ¬ (En : Int) < (b : Int) := by omega
                    clear c3
                    go_wp2
                    all_goals (go_end0; exact HEND.out _)
                  · have hi2 : ¬ (mid : Int) < (En : Int) := by omega
                    clear c3
                    go_wp2
                    all_goals (go_end0; exact HEND.out _)
              · have hi2 : ¬ (a : Int) < (S : Int) := by omega
                clear c2
                by_cases c3 : mid < En ∧ En < b
                · have hi1 : (mid : Int) < (En : Int) := by omega
                  have hi2 : (En : Int) < (b : Int) := by omega
                  have hrec : ∀ M1 : List Nat, M1.Perm (L.take ka ++ R.take da) → wr.ownsRow base 83 3 (.slice A n c) n (eList eUs (((P ++ M1) ++ (L.drop ka ++ (R.drop da ++ B))).map x)) → Calls Try.prog 89 #[.slice A n c, .int .i64 mid, .int .i64 En, .int .i64 b, .func (.func 74) #[] #[]] wr (SymPostU cf A n c base x (P ++ M1) (L.drop ka) (R.drop da) B wr) := fun M1 p1 o1 => by
                    have hl1 := p1.length_eq
                    simp only [List.length_append, List.length_take] at hl1
                    have hk := HKD.out; have hpl := HP.out; have hnb := hNN.out
                    refine IH.out mid En b (P ++ M1) (L.drop ka) (R.drop da) B wr ?_ o1 ?_ ?_ ?_ ?_ ?_ (fun u hu v hv => HO.out u (List.mem_of_mem_drop hu) v (List.mem_of_mem_drop hv)) (srt_drop HSL.out ka) (srt_drop HSR.out da)
                    all_goals simp only [List.length_append, List.length_drop]
                    all_goals omega
                  obtain ⟨M1, p1, s1, o1, g1⟩ := HN2.out
                  have HC2 := Lib.hid (hrec M1 p1 o1)
                  have HP1 := Lib.hid (And.intro p1 (And.intro s1 g1))
                  clear hrec p1 s1 o1 g1 HN2 c3
                  go_wp2_with fail
                  refine HC2.out.mono ?_
                  rintro e w4 ⟨⟨v, rfl⟩, M2, p2, s2, o2, g2⟩
                  have o2 : w4.ownsRow base 83 3 (.slice A n c) n (eList eUs ((P ++ ((M1 ++ M2) ++ B)).map x)) := by simpa [List.append_assoc] using o2
                  have HF := Lib.hid (And.intro p2 (And.intro s2 (And.intro o2 (grown_tr HP1.out.2.2 g2))))
                  clear p2 s2 o2 g2
                  go_wp2
                  all_goals
                    go_end0
                    have hs := srt_sym hok HSL.out HSR.out hkL hdR HX1.out HX2.out HP1.out.1 HP1.out.2.1 HF.out.1 HF.out.2.1
                    exact ⟨⟨_, rfl⟩, M1 ++ M2, hs.1, hs.2, HF.out.2.2.1, HF.out.2.2.2⟩
                · have hend : ∀ v, SymPostU cf A n c base x P L R B w (.returned v) wr := fun v => by
                    obtain ⟨M1, p1, s1, o1, g1⟩ := HN2.out
                    have hk := HKD.out; have hpl := HP.out; have hnb := hNN.out
                    have s2 : Srt cf x (L.drop ka ++ R.drop da) := by
                      by_cases h : mid < En
                      · rw [show R.drop da = [] from List.drop_eq_nil_of_le (by omega), List.append_nil]
                        exact srt_drop HSL.out ka
                      · rw [show L.drop ka = [] from List.drop_eq_nil_of_le (by omega), List.nil_append]
                        exact srt_drop HSR.out da
                    have hs := srt_sym hok HSL.out HSR.out hkL hdR HX1.out HX2.out p1 s1 (List.Perm.refl _) s2
                    exact ⟨⟨_, rfl⟩, M1 ++ (L.drop ka ++ R.drop da), hs.1, hs.2, by simpa [List.append_assoc] using o1, g1⟩
                  have HEND := Lib.hid hend
                  clear hend HN2
                  by_cases h : mid < En
                  · have hi2 : (mid : Int) < (En : Int) := by omega
                    have hi3 : ¬ (En : Int) < (b : Int) := by omega
                    clear c3
                    go_wp2
                    all_goals (go_end0; exact HEND.out _)
                  · have hi2 : ¬ (mid : Int) < (En : Int) := by omega
                    clear c3
                    go_wp2
                    all_goals (go_end0; exact HEND.out _)
  · subst hs0 hs1
    go_enter Try.func89, Try.ntmps89
    go_wp2_with fail
    clear hma hbm hma' hbm' hmid hnn hp hmm
    try clear hs0
    go_loopw [20, 21] (fun u v wr => ∃ S E : Nat, a ≤ S ∧ S ≤ E ∧ E ≤ m ∧ u = .int .i64 S ∧ v = .int .i64 E ∧ Hid (((∀ t t', a < S → L[S - 1 - a]? = some t → R[mid - S]? = some t' → pre cf x t t') ∧ (∀ t t', E < m → L[E - a]? = some t → R[mid - 1 - E]? = some t' → pre cf x t' t)) ∧ (wr.ownsRow base 83 3 (.slice A n c) n (eList eUs ((P ++ (L ++ (R ++ B))).map x)) ∧ w.grownBy wr (Value.slice A n c).ownBlock)))
      (fun u v _ => (intOf v).toNat - (intOf u).toNat)
    case atStart => exact ⟨a, m, Nat.le_refl _, by omega, Nat.le_refl _, rfl, rfl, ⟨fun t t' h => by omega, fun t t' h => by omega⟩, HA.out, grown_of_below (Below.refl _ _) _⟩
    case round =>
      clear HA
      obtain ⟨S, E, h1, h2, h3, rfl, rfl, HC1⟩ := hrel
      by_cases hlt : S < E
      · have hlt' : (S : Int) < (E : Int) := by omega
        obtain ⟨H, hH⟩ : ∃ H : Nat, ((S : Int) + (E : Int)) / 2 = (H : Int) := ⟨(S + E) / 2, by omega⟩
        have hH1 : S ≤ H := by omega
        have hH2 : H < E := by omega
        obtain ⟨hnn2, hp2⟩ := HNN.out
        obtain ⟨C, hC⟩ : ∃ C : Nat, p = C + H := ⟨p - H, by omega⟩
        have hC1 : m ≤ C := by omega
        have hC2 : C < b := by omega
        have hwr := HC1.out.2.1
        have hgr := HC1.out.2.2
        have hwz := ownU_zlen hwr
        obtain ⟨t, ht⟩ : ∃ t, L[H - a]? = some t := ⟨L[H - a]'(by have := HL.out; omega), List.getElem?_eq_getElem _⟩
        obtain ⟨t', ht'⟩ : ∃ t', R[C - m]? = some t' := ⟨R[C - m]'(by have := HR.out; omega), List.getElem?_eq_getElem _⟩
        have htl : t < t' := HO.out t (List.mem_of_getElem? ht) t' (List.mem_of_getElem? ht')
        have g2 : ((P ++ (L ++ (R ++ B))).map x)[H]? = some (x t) := by
          have := HP.out
          have := (List.getElem?_eq_some_iff.1 ht).1
          rw [List.getElem?_map, List.getElem?_append_right (by omega), show H - P.length = H - a by omega, List.getElem?_append_left (by omega), ht]
          rfl
        have g1 : ((P ++ (L ++ (R ++ B))).map x)[C]? = some (x t') := by
          have := HP.out
          have := HL.out
          have := (List.getElem?_eq_some_iff.1 ht').1
          rw [List.getElem?_map, List.getElem?_append_right (by omega), List.getElem?_append_right (by omega), show C - P.length - L.length = C - m by omega, List.getElem?_append_left (by omega), ht']
          rfl
        have hpe : cf (x t') (x t) < 0 ↔ pre cf x t' t := cmp_lt_iff hok htl
        have hpn : ¬ cf (x t') (x t) < 0 → pre cf x t t' := not_lt_pre hok htl
        have hi1 : (H : Int) < (n : Int) := by omega
        have hi2 : (C : Int) < (n : Int) := by omega
        have hi3 : C < n := by omega
        have hi4 : H < n := by omega
        have hw1 := wrapN H (by omega)
        have hw2 := wrapN C (by omega)
        have hw3 : IntKind.i64.wrap ((p : Int) - (H : Int)) = (C : Int) := by rw [show (p : Int) - (H : Int) = (C : Int) by omega]; exact hw2
        have HT := Lib.hid (And.intro ht ht')
        have HCI := Lib.hid (show mid = C - m + 1 + H ∧ mid - 1 - H = C - m ∧ mid - (H + 1) = C - m by omega)
        clear ht ht' hwz hnn2 hp2 hC
        obtain ⟨g, cap, hv, hgb, hgl⟩ := hwr.form (by omega)
        injection hv with hv1 hv2 hv3
        subst hv1 hv3
        obtain ⟨E, hE⟩ : ∃ E, x t' = E := ⟨_, rfl⟩
        obtain ⟨F, hF⟩ : ∃ F, x t = F := ⟨_, rfl⟩
        rw [hE] at g1
        rw [hF] at g2
        rw [hE, hF] at hpe hpn
        obtain ⟨x0, x1, x2⟩ := E
        obtain ⟨y0, y1, y2⟩ := F
        have hc := fun W => HCMP.out ⟨x0, x1, x2⟩ ⟨y0, y1, y2⟩ W
        simp only [Us.agg] at hc
        generalize cf ⟨x0, x1, x2⟩ ⟨y0, y1, y2⟩ = Z at hc hpe hpn
        have hcl := fun W (hW : Below wr.heap.size wr W) => ownU_cells (own_below hwr hW) g1
        have hdl := fun W (hW : Below wr.heap.size wr W) => ownU_cells (own_below hwr hW) g2
        dsimp only at hcl hdl
        have HCL := Lib.hid hcl
        have HDL := Lib.hid hdl
        have HWR := Lib.hid (And.intro hwr hgr)
        have HC := Lib.hid hc
        clear hc
        have HPE := Lib.hid hpe
        clear hpe
        have HPN := Lib.hid hpn
        clear hpn
        clear hcl hdl g1 g2 hE hF hwr hgr
        have e0 := fun p : Past wr => (HCL.out p.w p.h).1
        have k0 := fun p : Past wr => (HDL.out p.w p.h).1
        have e1 := fun p : Past wr => (HCL.out p.w p.h).2.1
        have k1 := fun p : Past wr => (HDL.out p.w p.h).2.1
        have e2 := fun p : Past wr => (HCL.out p.w p.h).2.2
        have k2 := fun p : Past wr => (HDL.out p.w p.h).2.2
        go_wp2_with fail
        clear hH
        by_cases hz : Z < 0
        · refine wp_region_quiet_past (by kernel_rfl) (by kernel_rfl) ?_
          repeat (refine qw_step (fun K_ hK_ => ?_); go_simp; first | (refine hK_ _ ?_; clear hK_ K_) | (apply Exists.intro; refine ⟨fun _ => ?_, hK_ _ ?_⟩; (go_at_call 74; exact calls_past_of (HC.out _)); clear hK_ K_) | (rw [if_pos (by first | assumption | omega)]; first | (refine hK_ _ ?_; clear hK_ K_) | (apply Exists.intro; refine ⟨fun _ => ?_, hK_ _ ?_⟩; (go_at_call 74; exact calls_past_of (HC.out _)); clear hK_ K_)) | (rw [if_neg (by first | assumption | omega)]; first | (refine hK_ _ ?_; clear hK_ K_) | (apply Exists.intro; refine ⟨fun _ => ?_, hK_ _ ?_⟩; (go_at_call 74; exact calls_past_of (HC.out _)); clear hK_ K_)))
          refine qw_nil ?_
          intro WQ hw_
          obtain ⟨p_, hp_⟩ := hw_
          have HQ := p_.h
          rw [← hp_] at HQ
          clear hp_ p_
          have hwq := own_below HWR.out.1 HQ
          have hgq := grown_tr HWR.out.2 (grown_of_below HQ _)
          have HN := Lib.hid (And.intro (And.intro (HPE.out.1 hz) HC1.out.1.1) (And.intro hwq hgq))
          clear HQ hwq hgq e0 e1 e2 k0 k1 k2
          go_wp2
          go_roundw
          case rel => exact ⟨S, H, by omega, by omega, by omega, rfl, by go_num, ⟨HN.out.1.2, fun u u' _ hu hu' => by
            rw [HT.out.1] at hu
            rw [HCI.out.2.1, HT.out.2] at hu'
            injection hu with hu
            injection hu' with hu'
            rw [← hu, ← hu']
            exact HN.out.1.1⟩, HN.out.2⟩
          case measure => simp [intOf]; omega
        · refine wp_region_quiet_past (by kernel_rfl) (by kernel_rfl) ?_
          repeat (refine qw_step (fun K_ hK_ => ?_); go_simp; first | (refine hK_ _ ?_; clear hK_ K_) | (apply Exists.intro; refine ⟨fun _ => ?_, hK_ _ ?_⟩; (go_at_call 74; exact calls_past_of (HC.out _)); clear hK_ K_) | (rw [if_pos (by first | assumption | omega)]; first | (refine hK_ _ ?_; clear hK_ K_) | (apply Exists.intro; refine ⟨fun _ => ?_, hK_ _ ?_⟩; (go_at_call 74; exact calls_past_of (HC.out _)); clear hK_ K_)) | (rw [if_neg (by first | assumption | omega)]; first | (refine hK_ _ ?_; clear hK_ K_) | (apply Exists.intro; refine ⟨fun _ => ?_, hK_ _ ?_⟩; (go_at_call 74; exact calls_past_of (HC.out _)); clear hK_ K_)))
          refine qw_nil ?_
          intro WQ hw_
          obtain ⟨p_, hp_⟩ := hw_
          have HQ := p_.h
          rw [← hp_] at HQ
          clear hp_ p_
          have hwq := own_below HWR.out.1 HQ
          have hgq := grown_tr HWR.out.2 (grown_of_below HQ _)
          have HN := Lib.hid (And.intro (And.intro (HPN.out (by omega)) HC1.out.1.2) (And.intro hwq hgq))
          clear HQ hwq hgq e0 e1 e2 k0 k1 k2
          go_wp2
          go_roundw
          case rel => exact ⟨H + 1, E, by omega, by omega, by omega, by go_num, rfl, ⟨fun u u' _ hu hu' => by
            rw [show H + 1 - 1 - a = H - a by omega, HT.out.1] at hu
            rw [HCI.out.2.2, HT.out.2] at hu'
            injection hu with hu
            injection hu' with hu'
            rw [← hu, ← hu']
            exact HN.out.1.1, HN.out.1.2⟩, HN.out.2⟩
          case measure => simp [intOf]; omega
      · have hIJ : S = E := by omega
        subst hIJ
        have hnn2 := HNN.out.1
        have hPl := HP.out
        have hLl := HL.out
        have hRl := HR.out
        obtain ⟨ka, hka⟩ : ∃ ka, S = a + ka := ⟨S - a, by omega⟩
        obtain ⟨da, hda⟩ : ∃ da, mid = S + da := ⟨mid - S, by omega⟩
        obtain ⟨En, hEn⟩ : ∃ En, En = m + da := ⟨_, rfl⟩
        have hEn2 : (nn : Int) - (S : Int) = (En : Int) := by omega
        have hkL : ka ≤ L.length := by omega
        have hdR : da ≤ R.length := by omega
        have hx1 : ∀ u v, 0 < ka → L[ka - 1]? = some u → R[da]? = some v → pre cf x u v := fun u v h hu hv => by
          have hv1 := (List.getElem?_eq_some_iff.1 hv).1
          have hq := HQ.out.1
          have h0 : a < S := by omega
          refine HC1.out.1.1 u v h0 ?_ ?_
          · rw [show S - 1 - a = ka - 1 by omega]
            exact hu
          · rw [show mid - S = da by omega]
            exact hv
        have hx2 : ∀ u v, 0 < da → R[da - 1]? = some u → L[ka]? = some v → pre cf x u v := fun u v h hu hv => by
          have hv1 := (List.getElem?_eq_some_iff.1 hv).1
          have hq := HQ.out.2
          have h0 : S < m := by omega
          refine HC1.out.1.2 v u h0 ?_ ?_
          · rw [show S - a = ka by omega]
            exact hv
          · rw [show mid - 1 - S = da - 1 by omega]
            exact hu
        have HX1 := Lib.hid hx1
        have HX2 := Lib.hid hx2
        have HW := Lib.hid HC1.out.2
        have hLL : L.length = ka + (m - S) := by omega
        have hLR : R.length = da + (b - En) := by omega
        have hlt' : ¬ (S : Int) < (S : Int) := by omega
        have HKD := Lib.hid (And.intro hka (And.intro hda (And.intro hEn (And.intro hLL hLR))))
        clear hx1 hx2 HC1 hPl hka hda hEn hnn2 hLl hRl hLL hLR
        have hq1 : ka ≤ S := by have := HKD.out; omega
        clear hq1
        by_cases c1 : S < m ∧ m < En
        · have hj1 : (S : Int) < (m : Int) := by omega
          have hj2 : (m : Int) < (En : Int) := by omega
          have hrot : ∀ f, _ := fun f => rotateU_any A n c base S m En f ((P ++ L.take ka).map x) ((L.drop ka).map x) ((R.take da).map x) ((R.drop da ++ B).map x) wr (by omega) (by
            have h := HW.out.1
            have e : P ++ (L ++ (R ++ B)) = (P ++ L.take ka) ++ (L.drop ka ++ (R.take da ++ (R.drop da ++ B))) := by
              rw [← List.append_assoc (R.take da), List.take_append_drop, List.append_assoc P, ← List.append_assoc (L.take ka), List.take_append_drop]
            rw [e] at h
            simp only [List.map_append, List.append_assoc] at h ⊢
            exact h) (by have hk := HKD.out; have hpl := HP.out; have hnb := hNN.out; simp; omega) (by have hk := HKD.out; have hpl := HP.out; have hnb := hNN.out; simp; omega) (by have hk := HKD.out; have hpl := HP.out; have hnb := hNN.out; simp; omega) (by have hk := HKD.out; have hpl := HP.out; have hnb := hNN.out; simp; omega) (by have hk := HKD.out; have hpl := HP.out; have hnb := hNN.out; simp; omega)
          have HROT := Lib.hid hrot
          have HG0 := Lib.hid HW.out.2
          clear hrot HW c1
          go_wp2_with fail
          refine (HROT.out _).mono ?_
          rintro e w2 ⟨⟨v, rfl⟩, o1, g1⟩
          have HN1 : Hid (w2.ownsRow base 83 3 (.slice A n c) n (eList eUs ((P ++ (L.take ka ++ (R.take da ++ (L.drop ka ++ (R.drop da ++ B))))).map x)) ∧ w.grownBy w2 (Value.slice A n c).ownBlock) := ⟨by simpa [List.append_assoc] using o1, grown_tr HG0.out g1⟩
          clear o1 g1 HROT
          by_cases c2 : a < S ∧ S < mid
          · have hi1 : (a : Int) < (S : Int) := by omega
            have hi2 : (S : Int) < (mid : Int) := by omega
            have hrec : Calls Try.prog 89 #[.slice A n c, .int .i64 a, .int .i64 S, .int .i64 mid, .func (.func 74) #[] #[]] w2 (SymPostU cf A n c base x P (L.take ka) (R.take da) (L.drop ka ++ (R.drop da ++ B)) w2) := by
              have hk := HKD.out; have hpl := HP.out; have hnb := hNN.out
              refine IH.out a S mid P (L.take ka) (R.take da) _ w2 ?_ HN1.out.1 HP.out ?_ ?_ ?_ ?_ (fun u hu v hv => HO.out u (List.mem_of_mem_take hu) v (List.mem_of_mem_take hv)) (srt_take HSL.out ka) (srt_take HSR.out da)
              all_goals simp only [List.length_take]
              all_goals omega
            have HC2 := Lib.hid hrec
            have HG1 := Lib.hid HN1.out.2
            clear hrec HN1 c2
            go_wp2_with fail
            refine HC2.out.mono ?_
            rintro e w3 ⟨⟨v, rfl⟩, M1, p1, s1, o1, g1⟩
            have HN2 : Hid (∃ M1, M1.Perm (L.take ka ++ R.take da) ∧ Srt cf x M1 ∧ w3.ownsRow base 83 3 (.slice A n c) n (eList eUs (((P ++ M1) ++ (L.drop ka ++ (R.drop da ++ B))).map x)) ∧ w.grownBy w3 (Value.slice A n c).ownBlock) := ⟨M1, p1, s1, by simpa [List.append_assoc] using o1, grown_tr HG1.out g1⟩
            clear p1 s1 o1 g1
            by_cases c3 : mid < En ∧ En < b
            · have hi1 : (mid : Int) < (En : Int) := by omega
              have hi2 : (En : Int) < (b : Int) := by omega
              have hrec : ∀ M1 : List Nat, M1.Perm (L.take ka ++ R.take da) → w3.ownsRow base 83 3 (.slice A n c) n (eList eUs (((P ++ M1) ++ (L.drop ka ++ (R.drop da ++ B))).map x)) → Calls Try.prog 89 #[.slice A n c, .int .i64 mid, .int .i64 En, .int .i64 b, .func (.func 74) #[] #[]] w3 (SymPostU cf A n c base x (P ++ M1) (L.drop ka) (R.drop da) B w3) := fun M1 p1 o1 => by
                have hl1 := p1.length_eq
                simp only [List.length_append, List.length_take] at hl1
                have hk := HKD.out; have hpl := HP.out; have hnb := hNN.out
                refine IH.out mid En b (P ++ M1) (L.drop ka) (R.drop da) B w3 ?_ o1 ?_ ?_ ?_ ?_ ?_ (fun u hu v hv => HO.out u (List.mem_of_mem_drop hu) v (List.mem_of_mem_drop hv)) (srt_drop HSL.out ka) (srt_drop HSR.out da)
                all_goals simp only [List.length_append, List.length_drop]
                all_goals omega
              obtain ⟨M1, p1, s1, o1, g1⟩ := HN2.out
              have HC2 := Lib.hid (hrec M1 p1 o1)
              have HP1 := Lib.hid (And.intro p1 (And.intro s1 g1))
              clear hrec p1 s1 o1 g1 HN2 c3
              go_wp2_with fail
              refine HC2.out.mono ?_
              rintro e w4 ⟨⟨v, rfl⟩, M2, p2, s2, o2, g2⟩
              have o2 : w4.ownsRow base 83 3 (.slice A n c) n (eList eUs ((P ++ ((M1 ++ M2) ++ B)).map x)) := by simpa [List.append_assoc] using o2
              have HF := Lib.hid (And.intro p2 (And.intro s2 (And.intro o2 (grown_tr HP1.out.2.2 g2))))
              clear p2 s2 o2 g2
              go_wp2
              all_goals
                go_end0
                have hs := srt_sym hok HSL.out HSR.out hkL hdR HX1.out HX2.out HP1.out.1 HP1.out.2.1 HF.out.1 HF.out.2.1
                exact ⟨⟨_, rfl⟩, M1 ++ M2, hs.1, hs.2, HF.out.2.2.1, HF.out.2.2.2⟩
            · have hend : ∀ v, SymPostU cf A n c base x P L R B w (.returned v) w3 := fun v => by
                obtain ⟨M1, p1, s1, o1, g1⟩ := HN2.out
                have hk := HKD.out; have hpl := HP.out; have hnb := hNN.out
                have s2 : Srt cf x (L.drop ka ++ R.drop da) := by
                  by_cases h : mid < En
                  · rw [show R.drop da = [] from List.drop_eq_nil_of_le (by omega), List.append_nil]
                    exact srt_drop HSL.out ka
                  · rw [show L.drop ka = [] from List.drop_eq_nil_of_le (by omega), List.nil_append]
                    exact srt_drop HSR.out da
                have hs := srt_sym hok HSL.out HSR.out hkL hdR HX1.out HX2.out p1 s1 (List.Perm.refl _) s2
                exact ⟨⟨_, rfl⟩, M1 ++ (L.drop ka ++ R.drop da), hs.1, hs.2, by simpa [List.append_assoc] using o1, g1⟩
              have HEND := Lib.hid hend
              clear hend HN2
              by_cases h : mid < En
              · have hi2 : (mid : Int) < (En : Int) := by omega
                have hi3 : ¬ (En : Int) < (b : Int) := by omega
                clear c3
                go_wp2
                all_goals (go_end0; exact HEND.out _)
              · have hi2 : ¬ (mid : Int) < (En : Int) := by omega
                clear c3
                go_wp2
                all_goals (go_end0; exact HEND.out _)
          · have HN2 : Hid (∃ M1, M1.Perm (L.take ka ++ R.take da) ∧ Srt cf x M1 ∧ w2.ownsRow base 83 3 (.slice A n c) n (eList eUs (((P ++ M1) ++ (L.drop ka ++ (R.drop da ++ B))).map x)) ∧ w.grownBy w2 (Value.slice A n c).ownBlock) := by
              have hk := HKD.out; have hpl := HP.out; have hnb := hNN.out
              refine ⟨_, List.Perm.refl _, ?_, by simpa [List.append_assoc] using HN1.out.1, HN1.out.2⟩
              by_cases h : a < S
              · rw [show da = 0 by omega, List.take_zero, List.append_nil]
                exact srt_take HSL.out ka
              · rw [show ka = 0 by omega, List.take_zero, List.nil_append]
                exact srt_take HSR.out da
            clear HN1
            by_cases h : a < S
            · have hi2 : (a : Int) < (S : Int) := by omega
              have hi3 : ¬ (S : Int) < (mid : Int) := by omega
              clear c2
              exfalso; have hk := HKD.out; omega
            · have hi2 : ¬ (a : Int) < (S : Int) := by omega
              clear c2
              by_cases c3 : mid < En ∧ En < b
              · have hi1 : (mid : Int) < (En : Int) := by omega
                have hi2 : (En : Int) < (b : Int) := by omega
                have hrec : ∀ M1 : List Nat, M1.Perm (L.take ka ++ R.take da) → w2.ownsRow base 83 3 (.slice A n c) n (eList eUs (((P ++ M1) ++ (L.drop ka ++ (R.drop da ++ B))).map x)) → Calls Try.prog 89 #[.slice A n c, .int .i64 mid, .int .i64 En, .int .i64 b, .func (.func 74) #[] #[]] w2 (SymPostU cf A n c base x (P ++ M1) (L.drop ka) (R.drop da) B w2) := fun M1 p1 o1 => by
                  have hl1 := p1.length_eq
                  simp only [List.length_append, List.length_take] at hl1
                  have hk := HKD.out; have hpl := HP.out; have hnb := hNN.out
                  refine IH.out mid En b (P ++ M1) (L.drop ka) (R.drop da) B w2 ?_ o1 ?_ ?_ ?_ ?_ ?_ (fun u hu v hv => HO.out u (List.mem_of_mem_drop hu) v (List.mem_of_mem_drop hv)) (srt_drop HSL.out ka) (srt_drop HSR.out da)
                  all_goals simp only [List.length_append, List.length_drop]
                  all_goals omega
                obtain ⟨M1, p1, s1, o1, g1⟩ := HN2.out
                have HC2 := Lib.hid (hrec M1 p1 o1)
                have HP1 := Lib.hid (And.intro p1 (And.intro s1 g1))
                clear hrec p1 s1 o1 g1 HN2 c3
                go_wp2_with fail
                refine HC2.out.mono ?_
                rintro e w4 ⟨⟨v, rfl⟩, M2, p2, s2, o2, g2⟩
                have o2 : w4.ownsRow base 83 3 (.slice A n c) n (eList eUs ((P ++ ((M1 ++ M2) ++ B)).map x)) := by simpa [List.append_assoc] using o2
                have HF := Lib.hid (And.intro p2 (And.intro s2 (And.intro o2 (grown_tr HP1.out.2.2 g2))))
                clear p2 s2 o2 g2
                go_wp2
                all_goals
                  go_end0
                  have hs := srt_sym hok HSL.out HSR.out hkL hdR HX1.out HX2.out HP1.out.1 HP1.out.2.1 HF.out.1 HF.out.2.1
                  exact ⟨⟨_, rfl⟩, M1 ++ M2, hs.1, hs.2, HF.out.2.2.1, HF.out.2.2.2⟩
              · have hend : ∀ v, SymPostU cf A n c base x P L R B w (.returned v) w2 := fun v => by
                  obtain ⟨M1, p1, s1, o1, g1⟩ := HN2.out
                  have hk := HKD.out; have hpl := HP.out; have hnb := hNN.out
                  have s2 : Srt cf x (L.drop ka ++ R.drop da) := by
                    by_cases h : mid < En
                    · rw [show R.drop da = [] from List.drop_eq_nil_of_le (by omega), List.append_nil]
                      exact srt_drop HSL.out ka
                    · rw [show L.drop ka = [] from List.drop_eq_nil_of_le (by omega), List.nil_append]
                      exact srt_drop HSR.out da
                  have hs := srt_sym hok HSL.out HSR.out hkL hdR HX1.out HX2.out p1 s1 (List.Perm.refl _) s2
                  exact ⟨⟨_, rfl⟩, M1 ++ (L.drop ka ++ R.drop da), hs.1, hs.2, by simpa [List.append_assoc] using o1, g1⟩
                have HEND := Lib.hid hend
                clear hend HN2
                by_cases h : mid < En
                · have hi2 : (mid : Int) < (En : Int) := by omega
                  have hi3 : ¬ (En : Int) < (b : Int) := by omega
                  clear c3
                  go_wp2
                  all_goals (go_end0; exact HEND.out _)
                · have hi2 : ¬ (mid : Int) < (En : Int) := by omega
                  clear c3
                  go_wp2
                  all_goals (go_end0; exact HEND.out _)
        · have HN1 : Hid (wr.ownsRow base 83 3 (.slice A n c) n (eList eUs ((P ++ (L.take ka ++ (R.take da ++ (L.drop ka ++ (R.drop da ++ B))))).map x)) ∧ w.grownBy wr (Value.slice A n c).ownBlock) := by
            refine ⟨?_, HW.out.2⟩
            have hk := HKD.out; have hpl := HP.out; have hnb := hNN.out
            have h := HW.out.1
            have e : P ++ (L ++ (R ++ B)) = P ++ (L.take ka ++ (R.take da ++ (L.drop ka ++ (R.drop da ++ B)))) := by
              by_cases h : S < m
              · rw [show da = 0 by omega, List.take_zero, List.drop_zero, List.nil_append, ← List.append_assoc (L.take ka), List.take_append_drop]
              · rw [show L.take ka = L from List.take_of_length_le (by omega), show L.drop ka = [] from List.drop_eq_nil_of_le (by omega), List.nil_append, ← List.append_assoc (R.take da), List.take_append_drop]
            rw [e] at h
            exact h
          clear HW
          by_cases h : S < m
          · have hj2 : (S : Int) < (m : Int) := by omega
            have hj3 : ¬ (m : Int) < (En : Int) := by omega
            clear c1
            by_cases c2 : a < S ∧ S < mid
            · have hi1 : (a : Int) < (S : Int) := by omega
              have hi2 : (S : Int) < (mid : Int) := by omega
              have hrec : Calls Try.prog 89 #[.slice A n c, .int .i64 a, .int .i64 S, .int .i64 mid, .func (.func 74) #[] #[]] wr (SymPostU cf A n c base x P (L.take ka) (R.take da) (L.drop ka ++ (R.drop da ++ B)) wr) := by
                have hk := HKD.out; have hpl := HP.out; have hnb := hNN.out
                refine IH.out a S mid P (L.take ka) (R.take da) _ wr ?_ HN1.out.1 HP.out ?_ ?_ ?_ ?_ (fun u hu v hv => HO.out u (List.mem_of_mem_take hu) v (List.mem_of_mem_take hv)) (srt_take HSL.out ka) (srt_take HSR.out da)
                all_goals simp only [List.length_take]
                all_goals omega
              have HC2 := Lib.hid hrec
              have HG1 := Lib.hid HN1.out.2
              clear hrec HN1 c2
              go_wp2_with fail
              refine HC2.out.mono ?_
              rintro e w3 ⟨⟨v, rfl⟩, M1, p1, s1, o1, g1⟩
              have HN2 : Hid (∃ M1, M1.Perm (L.take ka ++ R.take da) ∧ Srt cf x M1 ∧ w3.ownsRow base 83 3 (.slice A n c) n (eList eUs (((P ++ M1) ++ (L.drop ka ++ (R.drop da ++ B))).map x)) ∧ w.grownBy w3 (Value.slice A n c).ownBlock) := ⟨M1, p1, s1, by simpa [List.append_assoc] using o1, grown_tr HG1.out g1⟩
              clear p1 s1 o1 g1
              by_cases c3 : mid < En ∧ En < b
              · have hi1 : (mid : Int) < (En : Int) := by omega
                have hi2 : (En : Int) < (b : Int) := by omega
                have hrec : ∀ M1 : List Nat, M1.Perm (L.take ka ++ R.take da) → w3.ownsRow base 83 3 (.slice A n c) n (eList eUs (((P ++ M1) ++ (L.drop ka ++ (R.drop da ++ B))).map x)) → Calls Try.prog 89 #[.slice A n c, .int .i64 mid, .int .i64 En, .int .i64 b, .func (.func 74) #[] #[]] w3 (SymPostU cf A n c base x (P ++ M1) (L.drop ka) (R.drop da) B w3) := fun M1 p1 o1 => by
                  have hl1 := p1.length_eq
                  simp only [List.length_append, List.length_take] at hl1
                  have hk := HKD.out; have hpl := HP.out; have hnb := hNN.out
                  refine IH.out mid En b (P ++ M1) (L.drop ka) (R.drop da) B w3 ?_ o1 ?_ ?_ ?_ ?_ ?_ (fun u hu v hv => HO.out u (List.mem_of_mem_drop hu) v (List.mem_of_mem_drop hv)) (srt_drop HSL.out ka) (srt_drop HSR.out da)
                  all_goals simp only [List.length_append, List.length_drop]
                  all_goals omega
                obtain ⟨M1, p1, s1, o1, g1⟩ := HN2.out
                have HC2 := Lib.hid (hrec M1 p1 o1)
                have HP1 := Lib.hid (And.intro p1 (And.intro s1 g1))
                clear hrec p1 s1 o1 g1 HN2 c3
                go_wp2_with fail
                refine HC2.out.mono ?_
                rintro e w4 ⟨⟨v, rfl⟩, M2, p2, s2, o2, g2⟩
                have o2 : w4.ownsRow base 83 3 (.slice A n c) n (eList eUs ((P ++ ((M1 ++ M2) ++ B)).map x)) := by simpa [List.append_assoc] using o2
                have HF := Lib.hid (And.intro p2 (And.intro s2 (And.intro o2 (grown_tr HP1.out.2.2 g2))))
                clear p2 s2 o2 g2
                go_wp2
                all_goals
                  go_end0
                  have hs := srt_sym hok HSL.out HSR.out hkL hdR HX1.out HX2.out HP1.out.1 HP1.out.2.1 HF.out.1 HF.out.2.1
                  exact ⟨⟨_, rfl⟩, M1 ++ M2, hs.1, hs.2, HF.out.2.2.1, HF.out.2.2.2⟩
              · have hend : ∀ v, SymPostU cf A n c base x P L R B w (.returned v) w3 := fun v => by
                  obtain ⟨M1, p1, s1, o1, g1⟩ := HN2.out
                  have hk := HKD.out; have hpl := HP.out; have hnb := hNN.out
                  have s2 : Srt cf x (L.drop ka ++ R.drop da) := by
                    by_cases h : mid < En
                    · rw [show R.drop da = [] from List.drop_eq_nil_of_le (by omega), List.append_nil]
                      exact srt_drop HSL.out ka
                    · rw [show L.drop ka = [] from List.drop_eq_nil_of_le (by omega), List.nil_append]
                      exact srt_drop HSR.out da
                  have hs := srt_sym hok HSL.out HSR.out hkL hdR HX1.out HX2.out p1 s1 (List.Perm.refl _) s2
                  exact ⟨⟨_, rfl⟩, M1 ++ (L.drop ka ++ R.drop da), hs.1, hs.2, by simpa [List.append_assoc] using o1, g1⟩
                have HEND := Lib.hid hend
                clear hend HN2
                by_cases h : mid < En
                · have hi2 : (mid : Int) < (En : Int) := by omega
                  have hi3 : ¬ (En : Int) < (b : Int) := by omega
                  clear c3
                  go_wp2
                  all_goals (go_end0; exact HEND.out _)
                · have hi2 : ¬ (mid : Int) < (En : Int) := by omega
                  clear c3
                  go_wp2
                  all_goals (go_end0; exact HEND.out _)
            · have HN2 : Hid (∃ M1, M1.Perm (L.take ka ++ R.take da) ∧ Srt cf x M1 ∧ wr.ownsRow base 83 3 (.slice A n c) n (eList eUs (((P ++ M1) ++ (L.drop ka ++ (R.drop da ++ B))).map x)) ∧ w.grownBy wr (Value.slice A n c).ownBlock) := by
                have hk := HKD.out; have hpl := HP.out; have hnb := hNN.out
                refine ⟨_, List.Perm.refl _, ?_, by simpa [List.append_assoc] using HN1.out.1, HN1.out.2⟩
                by_cases h : a < S
                · rw [show da = 0 by omega, List.take_zero, List.append_nil]
                  exact srt_take HSL.out ka
                · rw [show ka = 0 by omega, List.take_zero, List.nil_append]
                  exact srt_take HSR.out da
              clear HN1
              by_cases h : a < S
              · have hi2 : (a : Int) < (S : Int) := by omega
                have hi3 : ¬ (S : Int) < (mid : Int) := by omega
                clear c2
                by_cases c3 : mid < En ∧ En < b
                · have hi1 : (mid : Int) < (En : Int) := by omega
                  have hi2 : (En : Int) < (b : Int) := by omega
                  have hrec : ∀ M1 : List Nat, M1.Perm (L.take ka ++ R.take da) → wr.ownsRow base 83 3 (.slice A n c) n (eList eUs (((P ++ M1) ++ (L.drop ka ++ (R.drop da ++ B))).map x)) → Calls Try.prog 89 #[.slice A n c, .int .i64 mid, .int .i64 En, .int .i64 b, .func (.func 74) #[] #[]] wr (SymPostU cf A n c base x (P ++ M1) (L.drop ka) (R.drop da) B wr) := fun M1 p1 o1 => by
                    have hl1 := p1.length_eq
                    simp only [List.length_append, List.length_take] at hl1
                    have hk := HKD.out; have hpl := HP.out; have hnb := hNN.out
                    refine IH.out mid En b (P ++ M1) (L.drop ka) (R.drop da) B wr ?_ o1 ?_ ?_ ?_ ?_ ?_ (fun u hu v hv => HO.out u (List.mem_of_mem_drop hu) v (List.mem_of_mem_drop hv)) (srt_drop HSL.out ka) (srt_drop HSR.out da)
                    all_goals simp only [List.length_append, List.length_drop]
                    all_goals omega
                  obtain ⟨M1, p1, s1, o1, g1⟩ := HN2.out
                  have HC2 := Lib.hid (hrec M1 p1 o1)
                  have HP1 := Lib.hid (And.intro p1 (And.intro s1 g1))
                  clear hrec p1 s1 o1 g1 HN2 c3
                  go_wp2_with fail
                  refine HC2.out.mono ?_
                  rintro e w4 ⟨⟨v, rfl⟩, M2, p2, s2, o2, g2⟩
                  have o2 : w4.ownsRow base 83 3 (.slice A n c) n (eList eUs ((P ++ ((M1 ++ M2) ++ B)).map x)) := by simpa [List.append_assoc] using o2
                  have HF := Lib.hid (And.intro p2 (And.intro s2 (And.intro o2 (grown_tr HP1.out.2.2 g2))))
                  clear p2 s2 o2 g2
                  go_wp2
                  all_goals
                    go_end0
                    have hs := srt_sym hok HSL.out HSR.out hkL hdR HX1.out HX2.out HP1.out.1 HP1.out.2.1 HF.out.1 HF.out.2.1
                    exact ⟨⟨_, rfl⟩, M1 ++ M2, hs.1, hs.2, HF.out.2.2.1, HF.out.2.2.2⟩
                · have hend : ∀ v, SymPostU cf A n c base x P L R B w (.returned v) wr := fun v => by
                    obtain ⟨M1, p1, s1, o1, g1⟩ := HN2.out
                    have hk := HKD.out; have hpl := HP.out; have hnb := hNN.out
                    have s2 : Srt cf x (L.drop ka ++ R.drop da) := by
                      by_cases h : mid < En
                      · rw [show R.drop da = [] from List.drop_eq_nil_of_le (by omega), List.append_nil]
                        exact srt_drop HSL.out ka
                      · rw [show L.drop ka = [] from List.drop_eq_nil_of_le (by omega), List.nil_append]
                        exact srt_drop HSR.out da
                    have hs := srt_sym hok HSL.out HSR.out hkL hdR HX1.out HX2.out p1 s1 (List.Perm.refl _) s2
                    exact ⟨⟨_, rfl⟩, M1 ++ (L.drop ka ++ R.drop da), hs.1, hs.2, by simpa [List.append_assoc] using o1, g1⟩
                  have HEND := Lib.hid hend
                  clear hend HN2
                  by_cases h : mid < En
                  · have hi2 : (mid : Int) < (En : Int) := by omega
                    have hi3 : ¬ (En : Int) < (b : Int) := by omega
                    clear c3
                    go_wp2
                    all_goals (go_end0; exact HEND.out _)
                  · have hi2 : ¬ (mid : Int) < (En : Int) := by omega
                    clear c3
                    go_wp2
                    all_goals (go_end0; exact HEND.out _)
              · have hi2 : ¬ (a : Int) < (S : Int) := by omega
                clear c2
                by_cases c3 : mid < En ∧ En < b
                · have hi1 : (mid : Int) < (En : Int) := by omega
                  have hi2 : (En : Int) < (b : Int) := by omega
                  have hrec : ∀ M1 : List Nat, M1.Perm (L.take ka ++ R.take da) → wr.ownsRow base 83 3 (.slice A n c) n (eList eUs (((P ++ M1) ++ (L.drop ka ++ (R.drop da ++ B))).map x)) → Calls Try.prog 89 #[.slice A n c, .int .i64 mid, .int .i64 En, .int .i64 b, .func (.func 74) #[] #[]] wr (SymPostU cf A n c base x (P ++ M1) (L.drop ka) (R.drop da) B wr) := fun M1 p1 o1 => by
                    have hl1 := p1.length_eq
                    simp only [List.length_append, List.length_take] at hl1
                    have hk := HKD.out; have hpl := HP.out; have hnb := hNN.out
                    refine IH.out mid En b (P ++ M1) (L.drop ka) (R.drop da) B wr ?_ o1 ?_ ?_ ?_ ?_ ?_ (fun u hu v hv => HO.out u (List.mem_of_mem_drop hu) v (List.mem_of_mem_drop hv)) (srt_drop HSL.out ka) (srt_drop HSR.out da)
                    all_goals simp only [List.length_append, List.length_drop]
                    all_goals omega
                  obtain ⟨M1, p1, s1, o1, g1⟩ := HN2.out
                  have HC2 := Lib.hid (hrec M1 p1 o1)
                  have HP1 := Lib.hid (And.intro p1 (And.intro s1 g1))
                  clear hrec p1 s1 o1 g1 HN2 c3
                  go_wp2_with fail
                  refine HC2.out.mono ?_
                  rintro e w4 ⟨⟨v, rfl⟩, M2, p2, s2, o2, g2⟩
                  have o2 : w4.ownsRow base 83 3 (.slice A n c) n (eList eUs ((P ++ ((M1 ++ M2) ++ B)).map x)) := by simpa [List.append_assoc] using o2
                  have HF := Lib.hid (And.intro p2 (And.intro s2 (And.intro o2 (grown_tr HP1.out.2.2 g2))))
                  clear p2 s2 o2 g2
                  go_wp2
                  all_goals
                    go_end0
                    have hs := srt_sym hok HSL.out HSR.out hkL hdR HX1.out HX2.out HP1.out.1 HP1.out.2.1 HF.out.1 HF.out.2.1
                    exact ⟨⟨_, rfl⟩, M1 ++ M2, hs.1, hs.2, HF.out.2.2.1, HF.out.2.2.2⟩
                · have hend : ∀ v, SymPostU cf A n c base x P L R B w (.returned v) wr := fun v => by
                    obtain ⟨M1, p1, s1, o1, g1⟩ := HN2.out
                    have hk := HKD.out; have hpl := HP.out; have hnb := hNN.out
                    have s2 : Srt cf x (L.drop ka ++ R.drop da) := by
                      by_cases h : mid < En
                      · rw [show R.drop da = [] from List.drop_eq_nil_of_le (by omega), List.append_nil]
                        exact srt_drop HSL.out ka
                      · rw [show L.drop ka = [] from List.drop_eq_nil_of_le (by omega), List.nil_append]
                        exact srt_drop HSR.out da
                    have hs := srt_sym hok HSL.out HSR.out hkL hdR HX1.out HX2.out p1 s1 (List.Perm.refl _) s2
                    exact ⟨⟨_, rfl⟩, M1 ++ (L.drop ka ++ R.drop da), hs.1, hs.2, by simpa [List.append_assoc] using o1, g1⟩
                  have HEND := Lib.hid hend
                  clear hend HN2
                  by_cases h : mid < En
                  · have hi2 : (mid : Int) < (En : Int) := by omega
                    have hi3 : ¬ (En : Int) < (b : Int) := by omega
                    clear c3
                    go_wp2
                    all_goals (go_end0; exact HEND.out _)
                  · have hi2 : ¬ (mid : Int) < (En : Int) := by omega
                    clear c3
                    go_wp2
                    all_goals (go_end0; exact HEND.out _)
          · have hj2 : ¬ (S : Int) < (m : Int) := by omega
            clear c1
            by_cases c2 : a < S ∧ S < mid
            · have hi1 : (a : Int) < (S : Int) := by omega
              have hi2 : (S : Int) < (mid : Int) := by omega
              have hrec : Calls Try.prog 89 #[.slice A n c, .int .i64 a, .int .i64 S, .int .i64 mid, .func (.func 74) #[] #[]] wr (SymPostU cf A n c base x P (L.take ka) (R.take da) (L.drop ka ++ (R.drop da ++ B)) wr) := by
                have hk := HKD.out; have hpl := HP.out; have hnb := hNN.out
                refine IH.out a S mid P (L.take ka) (R.take da) _ wr ?_ HN1.out.1 HP.out ?_ ?_ ?_ ?_ (fun u hu v hv => HO.out u (List.mem_of_mem_take hu) v (List.mem_of_mem_take hv)) (srt_take HSL.out ka) (srt_take HSR.out da)
                all_goals simp only [List.length_take]
                all_goals omega
              have HC2 := Lib.hid hrec
              have HG1 := Lib.hid HN1.out.2
              clear hrec HN1 c2
              go_wp2_with fail
              refine HC2.out.mono ?_
              rintro e w3 ⟨⟨v, rfl⟩, M1, p1, s1, o1, g1⟩
              have HN2 : Hid (∃ M1, M1.Perm (L.take ka ++ R.take da) ∧ Srt cf x M1 ∧ w3.ownsRow base 83 3 (.slice A n c) n (eList eUs (((P ++ M1) ++ (L.drop ka ++ (R.drop da ++ B))).map x)) ∧ w.grownBy w3 (Value.slice A n c).ownBlock) := ⟨M1, p1, s1, by simpa [List.append_assoc] using o1, grown_tr HG1.out g1⟩
              clear p1 s1 o1 g1
              by_cases c3 : mid < En ∧ En < b
              · have hi1 : (mid : Int) < (En : Int) := by omega
                have hi2 : (En : Int) < (b : Int) := by omega
                have hrec : ∀ M1 : List Nat, M1.Perm (L.take ka ++ R.take da) → w3.ownsRow base 83 3 (.slice A n c) n (eList eUs (((P ++ M1) ++ (L.drop ka ++ (R.drop da ++ B))).map x)) → Calls Try.prog 89 #[.slice A n c, .int .i64 mid, .int .i64 En, .int .i64 b, .func (.func 74) #[] #[]] w3 (SymPostU cf A n c base x (P ++ M1) (L.drop ka) (R.drop da) B w3) := fun M1 p1 o1 => by
                  have hl1 := p1.length_eq
                  simp only [List.length_append, List.length_take] at hl1
                  have hk := HKD.out; have hpl := HP.out; have hnb := hNN.out
                  refine IH.out mid En b (P ++ M1) (L.drop ka) (R.drop da) B w3 ?_ o1 ?_ ?_ ?_ ?_ ?_ (fun u hu v hv => HO.out u (List.mem_of_mem_drop hu) v (List.mem_of_mem_drop hv)) (srt_drop HSL.out ka) (srt_drop HSR.out da)
                  all_goals simp only [List.length_append, List.length_drop]
                  all_goals omega
                obtain ⟨M1, p1, s1, o1, g1⟩ := HN2.out
                have HC2 := Lib.hid (hrec M1 p1 o1)
                have HP1 := Lib.hid (And.intro p1 (And.intro s1 g1))
                clear hrec p1 s1 o1 g1 HN2 c3
                go_wp2_with fail
                refine HC2.out.mono ?_
                rintro e w4 ⟨⟨v, rfl⟩, M2, p2, s2, o2, g2⟩
                have o2 : w4.ownsRow base 83 3 (.slice A n c) n (eList eUs ((P ++ ((M1 ++ M2) ++ B)).map x)) := by simpa [List.append_assoc] using o2
                have HF := Lib.hid (And.intro p2 (And.intro s2 (And.intro o2 (grown_tr HP1.out.2.2 g2))))
                clear p2 s2 o2 g2
                go_wp2
                all_goals
                  go_end0
                  have hs := srt_sym hok HSL.out HSR.out hkL hdR HX1.out HX2.out HP1.out.1 HP1.out.2.1 HF.out.1 HF.out.2.1
                  exact ⟨⟨_, rfl⟩, M1 ++ M2, hs.1, hs.2, HF.out.2.2.1, HF.out.2.2.2⟩
              · have hend : ∀ v, SymPostU cf A n c base x P L R B w (.returned v) w3 := fun v => by
                  obtain ⟨M1, p1, s1, o1, g1⟩ := HN2.out
                  have hk := HKD.out; have hpl := HP.out; have hnb := hNN.out
                  have s2 : Srt cf x (L.drop ka ++ R.drop da) := by
                    by_cases h : mid < En
                    · rw [show R.drop da = [] from List.drop_eq_nil_of_le (by omega), List.append_nil]
                      exact srt_drop HSL.out ka
                    · rw [show L.drop ka = [] from List.drop_eq_nil_of_le (by omega), List.nil_append]
                      exact srt_drop HSR.out da
                  have hs := srt_sym hok HSL.out HSR.out hkL hdR HX1.out HX2.out p1 s1 (List.Perm.refl _) s2
                  exact ⟨⟨_, rfl⟩, M1 ++ (L.drop ka ++ R.drop da), hs.1, hs.2, by simpa [List.append_assoc] using o1, g1⟩
                have HEND := Lib.hid hend
                clear hend HN2
                by_cases h : mid < En
                · have hi2 : (mid : Int) < (En : Int) := by omega
                  have hi3 : ¬ (En : Int) < (b : Int) := by omega
                  clear c3
                  go_wp2
                  all_goals (go_end0; exact HEND.out _)
                · have hi2 : ¬ (mid : Int) < (En : Int) := by omega
                  clear c3
                  go_wp2
                  all_goals (go_end0; exact HEND.out _)
            · have HN2 : Hid (∃ M1, M1.Perm (L.take ka ++ R.take da) ∧ Srt cf x M1 ∧ wr.ownsRow base 83 3 (.slice A n c) n (eList eUs (((P ++ M1) ++ (L.drop ka ++ (R.drop da ++ B))).map x)) ∧ w.grownBy wr (Value.slice A n c).ownBlock) := by
                have hk := HKD.out; have hpl := HP.out; have hnb := hNN.out
                refine ⟨_, List.Perm.refl _, ?_, by simpa [List.append_assoc] using HN1.out.1, HN1.out.2⟩
                by_cases h : a < S
                · rw [show da = 0 by omega, List.take_zero, List.append_nil]
                  exact srt_take HSL.out ka
                · rw [show ka = 0 by omega, List.take_zero, List.nil_append]
                  exact srt_take HSR.out da
              clear HN1
              by_cases h : a < S
              · have hi2 : (a : Int) < (S : Int) := by omega
                have hi3 : ¬ (S : Int) < (mid : Int) := by omega
                clear c2
                by_cases c3 : mid < En ∧ En < b
                · have hi1 : (mid : Int) < (En : Int) := by omega
                  have hi2 : (En : Int) < (b : Int) := by omega
                  have hrec : ∀ M1 : List Nat, M1.Perm (L.take ka ++ R.take da) → wr.ownsRow base 83 3 (.slice A n c) n (eList eUs (((P ++ M1) ++ (L.drop ka ++ (R.drop da ++ B))).map x)) → Calls Try.prog 89 #[.slice A n c, .int .i64 mid, .int .i64 En, .int .i64 b, .func (.func 74) #[] #[]] wr (SymPostU cf A n c base x (P ++ M1) (L.drop ka) (R.drop da) B wr) := fun M1 p1 o1 => by
                    have hl1 := p1.length_eq
                    simp only [List.length_append, List.length_take] at hl1
                    have hk := HKD.out; have hpl := HP.out; have hnb := hNN.out
                    refine IH.out mid En b (P ++ M1) (L.drop ka) (R.drop da) B wr ?_ o1 ?_ ?_ ?_ ?_ ?_ (fun u hu v hv => HO.out u (List.mem_of_mem_drop hu) v (List.mem_of_mem_drop hv)) (srt_drop HSL.out ka) (srt_drop HSR.out da)
                    all_goals simp only [List.length_append, List.length_drop]
                    all_goals omega
                  obtain ⟨M1, p1, s1, o1, g1⟩ := HN2.out
                  have HC2 := Lib.hid (hrec M1 p1 o1)
                  have HP1 := Lib.hid (And.intro p1 (And.intro s1 g1))
                  clear hrec p1 s1 o1 g1 HN2 c3
                  go_wp2_with fail
                  refine HC2.out.mono ?_
                  rintro e w4 ⟨⟨v, rfl⟩, M2, p2, s2, o2, g2⟩
                  have o2 : w4.ownsRow base 83 3 (.slice A n c) n (eList eUs ((P ++ ((M1 ++ M2) ++ B)).map x)) := by simpa [List.append_assoc] using o2
                  have HF := Lib.hid (And.intro p2 (And.intro s2 (And.intro o2 (grown_tr HP1.out.2.2 g2))))
                  clear p2 s2 o2 g2
                  go_wp2
                  all_goals
                    go_end0
                    have hs := srt_sym hok HSL.out HSR.out hkL hdR HX1.out HX2.out HP1.out.1 HP1.out.2.1 HF.out.1 HF.out.2.1
                    exact ⟨⟨_, rfl⟩, M1 ++ M2, hs.1, hs.2, HF.out.2.2.1, HF.out.2.2.2⟩
                · have hend : ∀ v, SymPostU cf A n c base x P L R B w (.returned v) wr := fun v => by
                    obtain ⟨M1, p1, s1, o1, g1⟩ := HN2.out
                    have hk := HKD.out; have hpl := HP.out; have hnb := hNN.out
                    have s2 : Srt cf x (L.drop ka ++ R.drop da) := by
                      by_cases h : mid < En
                      · rw [show R.drop da = [] from List.drop_eq_nil_of_le (by omega), List.append_nil]
                        exact srt_drop HSL.out ka
                      · rw [show L.drop ka = [] from List.drop_eq_nil_of_le (by omega), List.nil_append]
                        exact srt_drop HSR.out da
                    have hs := srt_sym hok HSL.out HSR.out hkL hdR HX1.out HX2.out p1 s1 (List.Perm.refl _) s2
                    exact ⟨⟨_, rfl⟩, M1 ++ (L.drop ka ++ R.drop da), hs.1, hs.2, by simpa [List.append_assoc] using o1, g1⟩
                  have HEND := Lib.hid hend
                  clear hend HN2
                  by_cases h : mid < En
                  · have hi2 : (mid : Int) < (En : Int) := by omega
                    have hi3 : ¬ (En : Int) < (b : Int) := by omega
                    clear c3
                    go_wp2
                    all_goals (go_end0; exact HEND.out _)
                  · have hi2 : ¬ (mid : Int) < (En : Int) := by omega
                    clear c3
                    go_wp2
                    all_goals (go_end0; exact HEND.out _)
              · have hi2 : ¬ (a : Int) < (S : Int) := by omega
                clear c2
                by_cases c3 : mid < En ∧ En < b
                · have hi1 : (mid : Int) < (En : Int) := by omega
                  have hi2 : (En : Int) < (b : Int) := by omega
                  have hrec : ∀ M1 : List Nat, M1.Perm (L.take ka ++ R.take da) → wr.ownsRow base 83 3 (.slice A n c) n (eList eUs (((P ++ M1) ++ (L.drop ka ++ (R.drop da ++ B))).map x)) → Calls Try.prog 89 #[.slice A n c, .int .i64 mid, .int .i64 En, .int .i64 b, .func (.func 74) #[] #[]] wr (SymPostU cf A n c base x (P ++ M1) (L.drop ka) (R.drop da) B wr) := fun M1 p1 o1 => by
                    have hl1 := p1.length_eq
                    simp only [List.length_append, List.length_take] at hl1
                    have hk := HKD.out; have hpl := HP.out; have hnb := hNN.out
                    refine IH.out mid En b (P ++ M1) (L.drop ka) (R.drop da) B wr ?_ o1 ?_ ?_ ?_ ?_ ?_ (fun u hu v hv => HO.out u (List.mem_of_mem_drop hu) v (List.mem_of_mem_drop hv)) (srt_drop HSL.out ka) (srt_drop HSR.out da)
                    all_goals simp only [List.length_append, List.length_drop]
                    all_goals omega
                  obtain ⟨M1, p1, s1, o1, g1⟩ := HN2.out
                  have HC2 := Lib.hid (hrec M1 p1 o1)
                  have HP1 := Lib.hid (And.intro p1 (And.intro s1 g1))
                  clear hrec p1 s1 o1 g1 HN2 c3
                  go_wp2_with fail
                  refine HC2.out.mono ?_
                  rintro e w4 ⟨⟨v, rfl⟩, M2, p2, s2, o2, g2⟩
                  have o2 : w4.ownsRow base 83 3 (.slice A n c) n (eList eUs ((P ++ ((M1 ++ M2) ++ B)).map x)) := by simpa [List.append_assoc] using o2
                  have HF := Lib.hid (And.intro p2 (And.intro s2 (And.intro o2 (grown_tr HP1.out.2.2 g2))))
                  clear p2 s2 o2 g2
                  go_wp2
                  all_goals
                    go_end0
                    have hs := srt_sym hok HSL.out HSR.out hkL hdR HX1.out HX2.out HP1.out.1 HP1.out.2.1 HF.out.1 HF.out.2.1
                    exact ⟨⟨_, rfl⟩, M1 ++ M2, hs.1, hs.2, HF.out.2.2.1, HF.out.2.2.2⟩
                · have hend : ∀ v, SymPostU cf A n c base x P L R B w (.returned v) wr := fun v => by
                    obtain ⟨M1, p1, s1, o1, g1⟩ := HN2.out
                    have hk := HKD.out; have hpl := HP.out; have hnb := hNN.out
                    have s2 : Srt cf x (L.drop ka ++ R.drop da) := by
                      by_cases h : mid < En
                      · rw [show R.drop da = [] from List.drop_eq_nil_of_le (by omega), List.append_nil]
                        exact srt_drop HSL.out ka
                      · rw [show L.drop ka = [] from List.drop_eq_nil_of_le (by omega), List.nil_append]
                        exact srt_drop HSR.out da
                    have hs := srt_sym hok HSL.out HSR.out hkL hdR HX1.out HX2.out p1 s1 (List.Perm.refl _) s2
                    exact ⟨⟨_, rfl⟩, M1 ++ (L.drop ka ++ R.drop da), hs.1, hs.2, by simpa [List.append_assoc] using o1, g1⟩
                  have HEND := Lib.hid hend
                  clear hend HN2
                  by_cases h : mid < En
                  · have hi2 : (mid : Int) < (En : Int) := by omega
                    have hi3 : ¬ (En : Int) < (b : Int) := by omega
                    clear c3
                    go_wp2
                    all_goals (go_end0; exact HEND.out _)
                  · have hi2 : ¬ (mid : Int) < (En : Int) := by omega
                    clear c3
                    go_wp2
                    all_goals (go_end0; exact HEND.out _)
end Go.Proofs.Ytdjfkehbknbocaa

/- The walks of the reference's Ahead and of the law's own list comparison, at one list. -/
import Derived.Test.YtdjfkehbknbocabAheadR
namespace Go.Proofs.Ytdjfkehbknbocab
open Go.RowKit
set_option linter.unusedSimpArgs false
set_option linter.unusedVariables false

theorem rank_step {xs : List Ft} {K I : Nat} {y z : Ft} (hy : xs[K]? = some y) (hz : xs[I]? = some z) : rankN cfF (xOf xs) (K + 1) I = rankN cfF (xOf xs) K I + if y.at_ < z.at_ ∨ (y.at_ = z.at_ ∧ K < I) then 1 else 0 := by
  rw [rankN_succ]
  congr 1
  have e : preB cfF (xOf xs) K I = true ↔ (y.at_ < z.at_ ∨ (y.at_ = z.at_ ∧ K < I)) := by
    rw [preB_iff]
    simp only [pre, xOf_get hy, xOf_get hz, cfF, cmpF_neg, cmpF_zero]
  by_cases h : y.at_ < z.at_ ∨ (y.at_ = z.at_ ∧ K < I)
  · rw [if_pos h, if_pos (e.2 h)]
  · rw [if_neg h, if_neg (fun k => h (e.1 k))]
def RAPost (xs : List Ft) (n : Nat) (M : List Nat) (w : World) (e : Ending) (w' : World) : Prop := ∃ A c, e = .returned (.slice A n c) ∧ n ≤ c ∧ w'.ownsRow w.heap.size 37 4 (.slice A n c) n (eList eFt (M.map (xOf xs))) ∧ Below w.heap.size w w'
set_option maxRecDepth 100000 in
set_option maxHeartbeats 40000000 in
theorem refAhead_any (A : Option Addr) (n c : Nat) (xs : List Ft) (M : List Nat) (w : World) (hn : n ≤ 100000) (hA : Sl eFt 4 w A n xs) (hM : Ordered xs n M) :
    Calls Try.prog 11 #[.slice A n c] w (RAPost xs n M w) := by
  have hlen := hA.len
  have hMl := hM.len
  have HM := Lib.hid hM
  have hmk := fun w => makeF_run n hn w
  have hown0 := makeF_own n hn w
  have HO := Lib.hid hown0
  have HA := Lib.hid hA
  clear hA
  have HML := Lib.hid hMl
  clear hM hown0 hMl
  go_enter Try.func11, Try.ntmps11
  go_wp2_with fail
  clear hmk
  go_loopw [4] (fun i wr => ∃ I : Nat, I ≤ n ∧ i = .int .i64 I ∧ Hid ((∃ O, Put (xOf xs) M I O ∧ wr.ownsRow w.heap.size 37 4 (.slice (some ⟨w.heap.size, 0, none⟩) n n) n (eList eFt O)) ∧ Below w.heap.size w wr)) (fun i _ => n - (intOf i).toNat)
  case atStart => exact ⟨0, Nat.zero_le _, rfl, ⟨_, Put.zero (by rw [List.length_replicate, HML.out]), HO.out⟩, by ((try change Below _ _ _); (repeat (any_goals (first | (with_reducible exact Below.refl _ _) | (with_reducible exact Below.refl _ _) | (with_reducible apply Below.drew) | (with_reducible apply below_drewN) | (with_reducible refine Below.alloc ?_ ?_ _) | (with_reducible refine Below.setCell ?_ ?_ _)))); all_goals (first | exact Nat.le_refl _ | (simp; done) | (simp; omega) | omega | (dsimp only; omega)))⟩
  case round =>
    clear HO
    obtain ⟨I, hI, rfl, H⟩ := hrel
    obtain ⟨wo, rfl⟩ : ∃ wo : World, wo = wr := ⟨_, rfl⟩
    by_cases hlt : I < n
    · obtain ⟨bI, oI, z, hAe, hbI, hzI, _⟩ := (HA.out.below H.out.2).ft_ hlt
      obtain ⟨z0, z1, z2, z3⟩ := z
      subst hAe
      have HZ := Lib.hid hzI
      clear hzI hbI
      go_wp2_with fail
      go_loopw [5, 6] (fun u v wr => ∃ K r : Nat, K ≤ n ∧ r ≤ K ∧ u = .int .i64 r ∧ v = .int .i64 K ∧ Hid (r = rankN cfF (xOf xs) K I ∧ Below wo.heap.size wo wr)) (fun _ v _ => n - (intOf v).toNat)
      case atStart => exact ⟨0, 0, Nat.zero_le _, Nat.le_refl _, rfl, rfl, by simp [rankN], Below.refl _ _⟩
      case round =>
        obtain ⟨K, r, hK, hr, rfl, rfl, H2⟩ := hrel
        obtain ⟨O, hP, hown⟩ := H.out.1
        have hsl : Sl eFt 4 wr (some ⟨bI, oI, none⟩) n xs := (HA.out.below H.out.2).below H2.out.2
        by_cases hltK : K < n
        · obtain ⟨bK, oK, y, hAe, hbK, hyK, c0, _, _, _⟩ := hsl.ft_ hltK
          injection hAe with hAe
          injection hAe with hAe1 hAe2 _
          subst hAe1 hAe2
          obtain ⟨bJ, oJ, z', hAe, hbJ, hzJ, d0, _, _, _⟩ := hsl.ft_ hlt
          injection hAe with hAe
          injection hAe with hAe1 hAe2 _
          subst hAe1 hAe2
          rw [HZ.out] at hzJ
          injection hzJ with hzJ
          subst hzJ
          have hst := rank_step hyK HZ.out
          rw [← H2.out.1] at hst
          obtain ⟨y0, y1, y2, y3⟩ := y
          simp only at c0 d0 hst
          have hcd : ∀ p : Past wr, p.w.cell? ⟨bI, oI + K * 4, none⟩ = some (.int .i64 y0) ∧ p.w.cell? ⟨bI, oI + I * 4, none⟩ = some (.int .i64 z0) := fun p => ⟨(p.h.cell (p := ⟨bI, _, none⟩) hbK).trans c0, (p.h.cell (p := ⟨bI, _, none⟩) hbK).trans d0⟩
          have e0 := fun p => (hcd p).1
          have k0 := fun p => (hcd p).2
          have H2B := Lib.hid H2.out.2
          clear hcd c0 d0 hyK hsl hP hown H2
          by_cases t1 : y0 < z0
          · rw [if_pos (Or.inl t1)] at hst
            have HST := Lib.hid hst
            clear hst
            go_wp2_with fail
            refine wp_region_quiet_past (by kernel_rfl) (by kernel_rfl) ?_
            repeat (refine qw_step (fun K_ hK_ => ?_); go_simp; first | (refine hK_ _ ?_; clear hK_ K_) | (apply Exists.intro; refine ⟨fun _ => ?_, hK_ _ ?_⟩; (fail); clear hK_ K_) | (rw [if_pos (by first | assumption | omega)]; first | (refine hK_ _ ?_; clear hK_ K_) | (apply Exists.intro; refine ⟨fun _ => ?_, hK_ _ ?_⟩; (fail); clear hK_ K_)) | (rw [if_neg (by first | assumption | omega)]; first | (refine hK_ _ ?_; clear hK_ K_) | (apply Exists.intro; refine ⟨fun _ => ?_, hK_ _ ?_⟩; (fail); clear hK_ K_)))
            refine qw_nil ?_
            intro WQ hw_
            obtain ⟨p_, hp_⟩ := hw_
            have HQ := p_.h
            rw [← hp_] at HQ
            clear hp_ p_
            have HN := Lib.hid (below_tr H2B.out HQ)
            clear HQ e0 k0
            go_wp2
            go_roundw
            case rel => exact ⟨K + 1, r + 1, by omega, by omega, by go_num, by go_num, HST.out.symm, HN.out⟩
            case measure => simp [intOf]; omega
          · by_cases t2 : (y0 == z0) = true
            · have t2' : y0 = z0 := by simpa using t2
              by_cases t3 : K < I
              · rw [if_pos (Or.inr ⟨t2', t3⟩)] at hst
                have HST := Lib.hid hst
                clear hst
                have t3' : (K : Int) < (I : Int) := by omega
                clear t2'
                go_wp2_with fail
                refine wp_region_quiet_past (by kernel_rfl) (by kernel_rfl) ?_
                repeat (refine qw_step (fun K_ hK_ => ?_); go_simp; first | (refine hK_ _ ?_; clear hK_ K_) | (apply Exists.intro; refine ⟨fun _ => ?_, hK_ _ ?_⟩; (fail); clear hK_ K_) | (rw [if_pos (by first | assumption | omega)]; first | (refine hK_ _ ?_; clear hK_ K_) | (apply Exists.intro; refine ⟨fun _ => ?_, hK_ _ ?_⟩; (fail); clear hK_ K_)) | (rw [if_neg (by first | assumption | omega)]; first | (refine hK_ _ ?_; clear hK_ K_) | (apply Exists.intro; refine ⟨fun _ => ?_, hK_ _ ?_⟩; (fail); clear hK_ K_)))
                refine qw_nil ?_
                intro WQ hw_
                obtain ⟨p_, hp_⟩ := hw_
                have HQ := p_.h
                rw [← hp_] at HQ
                clear hp_ p_
                have HN := Lib.hid (below_tr H2B.out HQ)
                clear HQ e0 k0
                go_wp2
                go_roundw
                case rel => exact ⟨K + 1, r + 1, by omega, by omega, by go_num, by go_num, HST.out.symm, HN.out⟩
                case measure => simp [intOf]; omega
              · rw [if_neg (by omega)] at hst
                have HST := Lib.hid hst
                clear hst
                have t3' : ¬ (K : Int) < (I : Int) := by omega
                clear t2'
                go_wp2_with fail
                refine wp_region_quiet_past (by kernel_rfl) (by kernel_rfl) ?_
                repeat (refine qw_step (fun K_ hK_ => ?_); go_simp; first | (refine hK_ _ ?_; clear hK_ K_) | (apply Exists.intro; refine ⟨fun _ => ?_, hK_ _ ?_⟩; (fail); clear hK_ K_) | (rw [if_pos (by first | assumption | omega)]; first | (refine hK_ _ ?_; clear hK_ K_) | (apply Exists.intro; refine ⟨fun _ => ?_, hK_ _ ?_⟩; (fail); clear hK_ K_)) | (rw [if_neg (by first | assumption | omega)]; first | (refine hK_ _ ?_; clear hK_ K_) | (apply Exists.intro; refine ⟨fun _ => ?_, hK_ _ ?_⟩; (fail); clear hK_ K_)))
                refine qw_nil ?_
                intro WQ hw_
                obtain ⟨p_, hp_⟩ := hw_
                have HQ := p_.h
                rw [← hp_] at HQ
                clear hp_ p_
                have HN := Lib.hid (below_tr H2B.out HQ)
                clear HQ e0 k0
                go_wp2
                go_roundw
                case rel => exact ⟨K + 1, r, by omega, by omega, rfl, by go_num, HST.out.symm, HN.out⟩
                case measure => simp [intOf]; omega
            · have t2' : (y0 == z0) = false := by simpa using t2
              have t2'' : ¬ y0 = z0 := by simpa using t2
              rw [if_neg (by omega)] at hst
              have HST := Lib.hid hst
              clear hst
              clear t2 t2''
              go_wp2_with fail
              refine wp_region_quiet_past (by kernel_rfl) (by kernel_rfl) ?_
              repeat (refine qw_step (fun K_ hK_ => ?_); go_simp; first | (refine hK_ _ ?_; clear hK_ K_) | (apply Exists.intro; refine ⟨fun _ => ?_, hK_ _ ?_⟩; (fail); clear hK_ K_) | (rw [if_pos (by first | assumption | omega)]; first | (refine hK_ _ ?_; clear hK_ K_) | (apply Exists.intro; refine ⟨fun _ => ?_, hK_ _ ?_⟩; (fail); clear hK_ K_)) | (rw [if_neg (by first | assumption | omega)]; first | (refine hK_ _ ?_; clear hK_ K_) | (apply Exists.intro; refine ⟨fun _ => ?_, hK_ _ ?_⟩; (fail); clear hK_ K_)))
              refine qw_nil ?_
              intro WQ hw_
              obtain ⟨p_, hp_⟩ := hw_
              have HQ := p_.h
              rw [← hp_] at HQ
              clear hp_ p_
              have HN := Lib.hid (below_tr H2B.out HQ)
              clear HQ e0 k0
              go_wp2
              go_roundw
              case rel => exact ⟨K + 1, r, by omega, by omega, rfl, by go_num, HST.out.symm, HN.out⟩
              case measure => simp [intOf]; omega
        · have hKn : K = n := by omega
          subst hKn
          have hput := Put.succ cfF_ok HM.out.perm HM.out.srt hP hlt
          rw [xOf_get HZ.out, ← H2.out.1] at hput
          obtain ⟨hrn, hput⟩ := hput
          have hown' := own_below hown H2.out.2
          have hOl := ownF_zlen hown'
          obtain ⟨y, hy⟩ : ∃ y, O[r]? = some y := ⟨O[r]'(by omega), List.getElem?_eq_getElem _⟩
          obtain ⟨y0, y1, y2, y3⟩ := y
          obtain ⟨d0, d1, d2, d3⟩ := ownF_cells hown' hy
          dsimp only at d0 d1 d2 d3
          have f0 := own_frozen hown' (r * 4)
          have f1 := own_frozen hown' (r * 4 + 1)
          have f2 := own_frozen hown' (r * 4 + 2)
          have f3 := own_frozen hown' (r * 4 + 3)
          obtain ⟨bJ, oJ, z', hAe, hbJ, hzJ, c0, c1, c2, c3⟩ := hsl.ft_ hlt
          injection hAe with hAe
          injection hAe with hAe1 hAe2 _
          subst hAe1 hAe2
          rw [HZ.out] at hzJ
          injection hzJ with hzJ
          subst hzJ
          dsimp only at c0 c1 c2 c3
          have hb2 := below_tr H.out.2 H2.out.2
          have own1 : ((((wr.setCell ⟨w.heap.size, r * 4, none⟩ (.int .i64 z0)).setCell ⟨w.heap.size, r * 4 + 1, none⟩ (.int .i64 z1)).setCell ⟨w.heap.size, r * 4 + 2, none⟩ (.int .i64 z2)).setCell ⟨w.heap.size, r * 4 + 3, none⟩ (.int .i64 z3)).ownsRow w.heap.size 37 4 (.slice (some ⟨w.heap.size, 0, none⟩) K K) K (eList eFt (O.set r ⟨z0, z1, z2, z3⟩)) := by
            have h := ((((hown'.stored (r * 4) (.int .i64 z0)).1.stored (r * 4 + 1) (.int .i64 z1)).1.stored (r * 4 + 2) (.int .i64 z2)).1.stored (r * 4 + 3) (.int .i64 z3)).1
            rwa [set4 eFt_len O r ⟨z0, z1, z2, z3⟩ (by omega) (.int .i64 z0) (.int .i64 z1) (.int .i64 z2) (.int .i64 z3) rfl] at h
          have hb3 : Below w.heap.size w ((((wr.setCell ⟨w.heap.size, r * 4, none⟩ (.int .i64 z0)).setCell ⟨w.heap.size, r * 4 + 1, none⟩ (.int .i64 z1)).setCell ⟨w.heap.size, r * 4 + 2, none⟩ (.int .i64 z2)).setCell ⟨w.heap.size, r * 4 + 3, none⟩ (.int .i64 z3)) :=
            (((hb2.setCell (p := ⟨w.heap.size, r * 4, none⟩) (Nat.le_refl _) _).setCell (p := ⟨w.heap.size, r * 4 + 1, none⟩) (Nat.le_refl _) _).setCell (p := ⟨w.heap.size, r * 4 + 2, none⟩) (Nat.le_refl _) _).setCell (p := ⟨w.heap.size, r * 4 + 3, none⟩) (Nat.le_refl _) _
          have HE := Lib.hid (And.intro hput (And.intro own1 hb3))
          clear hput own1 hb3 hb2 hown hown' hP hOl hy hsl H H2 hbJ
          go_wp2
          go_roundw
          case rel => exact ⟨I + 1, by omega, by go_num, ⟨_, HE.out.1, HE.out.2.1⟩, HE.out.2.2⟩
          case measure => simp [intOf]; omega
    · have hIn : I = n := by omega
      subst hIn
      obtain ⟨O, hP, hown⟩ := H.out.1
      have hO := hP.done HM.out.perm
      subst hO
      have HE := Lib.hid (show RAPost xs I M w (.returned (.slice (some ⟨w.heap.size, 0, none⟩) I I)) wo from ⟨_, I, rfl, Nat.le_refl _, hown, H.out.2⟩)
      clear hP hown H
      go_wp2
      go_ret
      exact HE.out
set_option maxRecDepth 100000 in
set_option maxHeartbeats 4000000 in
theorem same09_any (A B : Option Addr) (n c d : Nat) (xs : List Ft) (w : World) (hA : Sl eFt 4 w A n xs) (hB : Sl eFt 4 w B n xs) :
    Calls Try.prog 12 #[.slice A n c, .slice B n d] w fun e w' => e = .returned (.bool true) ∧ Below w.heap.size w w' := by
  have hlen := hA.len
  have hbig := hA.big
  have HA := Lib.hid hA
  clear hA
  have HB := Lib.hid hB
  clear hB
  go_enter Try.func12, Try.ntmps12
  go_wp2
  go_loopw [13] (fun j wr => ∃ k : Nat, k ≤ n ∧ j = .int .i64 k ∧ Hid (Below w.heap.size w wr)) (fun j _ => n - (intOf j).toNat)
  case atStart => exact ⟨0, Nat.zero_le _, rfl, Below.refl _ _⟩
  case round =>
    obtain ⟨k, hk, rfl, HW⟩ := hrel
    by_cases hlt : k < n
    · obtain ⟨b, off, x, hAe, hb, hx, c0, c1, c2, c3⟩ := (HA.out.below HW.out).ft_ hlt
      obtain ⟨b', off', y, hBe, hb', hy, d0, d1, d2, d3⟩ := (HB.out.below HW.out).ft_ hlt
      rw [hx] at hy
      injection hy with hy
      subst hy hAe hBe
      obtain ⟨x0, x1, x2, x3⟩ := x
      simp only at c0 c1 c2 c3 d0 d1 d2 d3
      have he := fun W => eqFault x0 x1 x2 x3 x0 x1 x2 x3 W
      simp only [beq_self_eq_true, Bool.and_self] at he
      clear hb hb' hx
      go_wp2
      go_region
      go_wp2
      go_roundw
      case rel => exact ⟨k + 1, by omega, by go_num, by ((try change Below _ _ _); have bsz_ := (HW.out).size; (repeat (any_goals (first | (with_reducible exact HW.out) | (with_reducible exact Below.refl _ _) | (with_reducible apply Below.drew) | (with_reducible apply below_drewN) | (with_reducible refine Below.alloc ?_ ?_ _) | (with_reducible refine Below.setCell ?_ ?_ _)))); all_goals (first | exact Nat.le_refl _ | (simp; done) | (simp; omega) | omega | (dsimp only; omega)))⟩
      case measure => simp [intOf]; omega
    · have : k = n := by omega
      subst this
      go_wp2
      go_ret
      exact ⟨rfl, HW.out⟩
end Go.Proofs.Ytdjfkehbknbocab

/- The walk of VictimRoom. -/
import Derived.Test.YtdjfkehbknbocaaRoomP
import Derived.Test.YtdjfkehbknbocaaVictX
import Derived.Deep.OwnRows
namespace Go.Proofs.Ytdjfkehbknbocaa
open Go.RowKit
set_option linter.unusedSimpArgs false
set_option linter.unusedVariables false

theorem makeB_run (n : Nat) (hn : n ≤ 100000) (w : World) : (Instr.makeSlice 33 (.int .i64 (n : Int)) (.int .i64 (n : Int))).run Try.prog w = .ok (.slice (some ⟨w.heap.size, 0, none⟩) n n) (w.alloc (.cells (eList eBool (flg n [])).toArray 4)) := by
  have h := run_make_row' (P := Try.prog) 33 4 (.bool false) 1 Try.underlying33 info_boolR rfl .i64 .i64 n (by omega) (by omega) w
  rw [← madeB]
  exact h
set_option maxRecDepth 100000 in
set_option maxHeartbeats 40000000 in
theorem room_walk (lines : Int) (A : Option Addr) (n c : Nat) (xs : List Us) (w : World) (hlb : -9223372036854775808 ≤ lines ∧ lines ≤ 9223372036854775807) (hA : Sl eUs 3 w A n xs)
    (hbd : ∀ x ∈ xs, (-9223372036854775808 ≤ x.mode ∧ x.mode ≤ 9223372036854775807) ∧ -9223372036854775808 ≤ x.valid ∧ x.valid ≤ 9223372036854775807) :
    Calls Try.prog 14 #[.int .i64 lines, .slice A n c] w fun e w' => e = .returned (.bool true) ∧ Below w.heap.size w w' := by
  have hbe := fun W => below17_any lines 64 hlb (by omega) (by omega) W
  have m1 : 0 ≤ lines % 64 := Int.emod_nonneg _ (by omega)
  have m2 : lines % 64 < 64 := Int.emod_lt_of_pos _ (by omega)
  generalize lines % 64 = L0 at hbe m1 m2
  obtain ⟨La, hLa⟩ : ∃ La, 1 + L0 = La := ⟨_, rfl⟩
  have l1 : 1 ≤ La := by omega
  have l64 : La ≤ 64 := by omega
  have HA := Lib.hid hA
  clear hA
  have HBD := Lib.hid hbd
  clear hbd
  have HBE := Lib.hid hbe
  clear hbe
  go_enter Try.func14, Try.ntmps14
  go_wp2_with fail
  refine (works24 _).mono ?_
  rintro e w0 ⟨rfl, hb0⟩
  have HB0 := Lib.hid hb0
  clear hb0
  go_wp2_with fail
  refine (HBE.out _).mono ?_
  rintro e w0' ⟨rfl, rfl⟩
  go_wp2_with fail
  have hLaw : IntKind.i64.wrap La = La := by rw [IntKind.wrap_i64]; omega
  clear hLa m1 m2
  refine (own24_any La A n c xs _ l1 l64 (HA.out.below HB0.out) HBD.out).mono ?_
  rintro e w1 ⟨A1, N, c1, rfl, hown, hb1⟩
  have hw1 := below_tr HB0.out hb1
  have hOw := own_ownF l1 xs
  have hyl := ownU_zlen hown
  have hN64 : N ≤ 64 := by rw [← hyl]; simp [ownF]; omega
  obtain ⟨ys, hys⟩ : ∃ ys, ownF La xs = ys := ⟨_, rfl⟩
  rw [hys] at hown hOw hyl
  have hsl := Sl.own (k := 3) (fun _ => rfl) (by omega) hown
  have HSL := Lib.hid hsl
  have HOW := Lib.hid hOw
  have HYL := Lib.hid hyl
  have HW1 := Lib.hid hw1
  clear hown hb1 hw1 hOw hyl hys hsl HB0 HBE HA HBD
  go_wp2_with fail
  refine (gather_any La A1 N c1 ys _ (by omega) l64 HSL.out (fun x hx => by have := mayU_bd (HOW.out.may x hx); omega)).mono ?_
  rintro e w2 ⟨A2, n2, c2, M, T, hR, hG, rfl, hown2, hb2⟩
  obtain ⟨P, hP⟩ := room_of HOW.out hR hG
  obtain ⟨Q, hQ, hgo⟩ := room_q HOW.out l1 hP
  rw [hgo] at hown2
  have hsl2 := Sl.own (k := 1) (fun _ => rfl) (by omega) hown2
  have hn2 : n2 = Q.length := by have := hsl2.len; rw [List.length_map] at this; exact this.symm
  subst hn2
  have hw2 := below_tr HW1.out hb2
  have hsl1 := HSL.out.below hb2
  have hmk := fun W => makeB_run N (by omega) W
  have hcell : ∀ W, Below w2.heap.size w2 W → ∀ g, g < N → ∃ b3 o3, A1 = some ⟨b3, o3, none⟩ ∧ b3 < w2.heap.size ∧ W.cell? ⟨b3, o3 + g * 3, none⟩ = some (.int .i64 (uOf ys g).block) ∧ W.cell? ⟨b3, o3 + g * 3 + 1, none⟩ = some (.int .i64 (uOf ys g).mode) ∧ W.cell? ⟨b3, o3 + g * 3 + 2, none⟩ = some (.int .i64 (uOf ys g).valid) := fun W hW g hg => by
    obtain ⟨b3, o3, x, e, hb, hx, q0, q1, q2⟩ := hsl1.us_ hg
    obtain ⟨b4, o4, y, e', _, hy, r0, r1, r2⟩ := (hsl1.below hW).us_ hg
    rw [e] at e'
    injection e' with e'
    injection e' with e1 e2 _
    subst e1 e2
    rw [uOf_get hy]
    exact ⟨b3, o3, e, hb, r0, r1, r2⟩
  have hval : ∀ g, g < N → 1 ≤ (uOf ys g).valid ∧ (uOf ys g).valid ≤ 3 * La := fun g hg => by
    have e := List.getElem?_eq_getElem (show g < ys.length by rw [HYL.out]; exact hg)
    have := mayU_bd (HOW.out.may _ (List.getElem_mem (show g < ys.length by rw [HYL.out]; exact hg)))
    rw [uOf_get e]
    omega
  have hQlt : ∀ g ∈ Q, g < N := fun g hg => by rw [← HYL.out]; exact hQ.lt g hg
  have HC := Lib.hid hcell
  have HV := Lib.hid hval
  have HQL := Lib.hid hQlt
  have HQF := Lib.hid hQ
  have HG := Lib.hid (And.intro hsl2 hw2)
  have l3w : IntKind.i64.wrap (3 * La) = 3 * La := by rw [IntKind.wrap_i64]; omega
  have l3w' : IntKind.i64.wrap (3 * La + 1) = 3 * La + 1 := by rw [IntKind.wrap_i64]; omega
  have HL3 := Lib.hid (And.intro l3w l3w')
  have hq4 := hQ.len
  clear hcell hval hQlt hQ hsl2 hw2 hsl1 hb2 hown2 hgo hP hR hG HSL HW1 P M T l3w l3w' hLaw
  have HMK := Lib.hid hmk
  clear hmk
  have hmk := HMK.out
  go_wp2_with fail
  clear hmk HMK
  go_loopw [8, 9, 32] (fun s t i wr => ∃ (q : Nat) (sv tv : Int), q ≤ Q.length ∧ s = .int .i64 sv ∧ t = .int .i64 tv ∧ i = .int .i64 q ∧ Hid (Top ys Q q tv ∧ sv = sumV ((Q.take q).map (uOf ys)) ∧ (0 ≤ sv ∧ sv ≤ q * 192) ∧ Blk wr w2.heap.size 4 (eList eBool (flg N (Q.take q))).toArray ∧ Below w2.heap.size w2 wr)) (fun _ _ i _ => Q.length - (intOf i).toNat)
  case atStart => exact ⟨0, 0, 0, Nat.zero_le _, rfl, rfl, rfl, Top.zero _ _, rfl, ⟨by omega, by omega⟩, Blk.new w2 _ _, (Below.refl _ w2).alloc (Nat.le_refl _) _⟩
  case round =>
    obtain ⟨q, sv, tv, hq, rfl, rfl, rfl, H⟩ := hrel
    by_cases hlt : q < Q.length
    · have hlt' : (q : Int) < (Q.length : Int) := by omega
      obtain ⟨b4, o4, x, hAe, hb4, hx, g0⟩ := (HG.out.1.below H.out.2.2.2.2).int_ hlt
      rw [List.getElem?_map] at hx
      obtain ⟨g, hgq, rfl⟩ := Option.map_eq_some_iff.1 hx
      have hgm := List.mem_of_getElem? hgq
      have hgN := HQL.out g hgm
      obtain ⟨v1, v3⟩ := HV.out g hgN
      obtain ⟨b3, o3, hA3, hb3, _, _, z2⟩ := HC.out wr H.out.2.2.2.2 g hgN
      subst hAe hA3
      have hni := take_nd HQF.out.nodup hgq
      have hfl : (eList eBool (flg N (Q.take q))).toArray[g]? = some (.bool false) := by
        rw [List.getElem?_toArray, eBools_get _ _ _ (flg_get hgN), decide_eq_false hni]
      have f0 := (H.out.2.2.2.1.cell g).trans hfl
      have ff := H.out.2.2.2.1.frozen g
      have hb2 : b3 ≠ w2.heap.size := by omega
      have hbk : (w2.heap.size) < wr.heap.size := H.out.2.2.2.1.lt
      have htop := H.out.1.step hgq rfl (by omega) (by omega)
      have htk : Q.take (q + 1) = Q.take q ++ [g] := by rw [List.take_add_one, hgq]; rfl
      have hsum : sv + (uOf ys g).valid = sumV ((Q.take (q + 1)).map (uOf ys)) := by
        rw [htk, List.map_append, List.map_cons, List.map_nil, sumV_snoc, ← H.out.2.1]
      have hblk := H.out.2.2.2.1.set_ g (.bool true)
      have hset : (eList eBool (flg N (Q.take q))).toArray.setIfInBounds g (.bool true) = (eList eBool (flg N (Q.take (q + 1)))).toArray := by
        rw [htk, ← flg_set, ← eBools_set, List.setIfInBounds_toArray]
      rw [hset] at hblk
      have hbel : Below w2.heap.size w2 (wr.setCell ⟨w2.heap.size, g, none⟩ (.bool true)) := H.out.2.2.2.2.setCell (p := ⟨w2.heap.size, g, none⟩) (Nat.le_refl _) _
      have z3 : (wr.setCell ⟨w2.heap.size, g, none⟩ (.bool true)).cell? ⟨b3, o3 + g * 3 + 2, none⟩ = some (.int .i64 (uOf ys g).valid) := by
        obtain ⟨b5, o5, e, _, _, _, h⟩ := HC.out _ hbel g hgN
        injection e with e
        injection e with e1 e2 _
        subst e1 e2
        exact h
      have sb := H.out.2.2.1
      have HN := Lib.hid (And.intro htop (And.intro hsum (And.intro hblk hbel)))
      generalize (uOf ys g).valid = V at v1 v3 z2 z3 HN sb
      have hw : IntKind.i64.wrap (sv + V) = sv + V := by rw [IntKind.wrap_i64]; omega
      have n1 : ¬ (g : Int) < 0 := by omega
      have n2 : ¬ (N : Int) ≤ (g : Int) := by omega
      have n3 : (g : Int) < (N : Int) := by omega
      have HSB := Lib.hid sb
      clear hx hgq hgm hni hfl htop hsum hblk hbel hset htk hb3 hb4 H z2 sb
      go_wp2
      go_roundw
      case rel => exact ⟨q + 1, sv + V, mx tv V, by omega, rfl, rfl, by go_num, HN.out.1, HN.out.2.1, ⟨by have := HSB.out; omega, by have := HSB.out; omega⟩, HN.out.2.2.1, HN.out.2.2.2⟩
      case measure => simp [intOf]; omega
    · have hkN : q = Q.length := by omega
      subst hkN
      have hlt' : ¬ ((Q.length : Nat) : Int) < ((Q.length : Nat) : Int) := by omega
      obtain ⟨h1, h2, h3, h4, h5⟩ := H.out
      rw [List.take_of_length_le (Nat.le_refl _)] at h2 h4
      have htop : ∀ i, i < N → i ∉ Q → tv ≤ (uOf ys i).valid := fun i hi hn => h1.le _ (by have := HV.out i hi; omega) fun g hg => by
        rw [List.take_of_length_le (Nat.le_refl _)] at hg
        exact HQF.out.top g hg i (by rw [HYL.out]; exact hi) hn
      have s1 : sv ≤ 3 * La := by rw [h2]; exact HQF.out.sum
      have s0 : 0 ≤ sv := h3.1
      have HT := Lib.hid (And.intro htop (And.intro h2 (And.intro h4 h5)))
      obtain ⟨wo, rfl⟩ : ∃ wo : World, wo = wr := ⟨_, rfl⟩
      have hso : w2.heap.size < wo.heap.size := h4.lt
      clear htop h2 h4 h5 H h1 h3 hlt hq
      have l3w := HL3.out.1
      have l3w' := HL3.out.2
      have hs0 : (wo.alloc (.cells #[.int .i64 (3 * La + 1), .int .i64 (3 * La + 1)] 3)).heap.size = wo.heap.size + 1 := World.size_alloc _ _
      go_wp2_with fail
      go_loopw [12, 77] (fun nx i wr => ∃ (k : Nat) (xv a b : Int), k ≤ N ∧ nx = .int .i64 xv ∧ i = .int .i64 k ∧ Hid (Q ≠ [] → Nxt ys Q k xv) ∧ Hid (Lst La ys k a b) ∧ Hid (Blk wr w2.heap.size 4 (eList eBool (flg N Q)).toArray) ∧ Hid (Blk wr wo.heap.size 3 #[.int .i64 a, .int .i64 b]) ∧ Hid (Below w2.heap.size w2 wr)) (fun _ i _ => N - (intOf i).toNat)
      case atStart => exact ⟨0, 0, 3 * La + 1, 3 * La + 1, Nat.zero_le _, rfl, rfl, (fun _ => Nxt.start _ _), Lst.zero _ _, (HT.out.2.2.1).alloc _, Blk.new wo _ _, HT.out.2.2.2.alloc (by omega) _⟩
      case round =>
        obtain ⟨k, xv, a, b, hk, rfl, rfl, HX, HL, HB1, HB2, HBW⟩ := hrel
        have hlb := HL.out.bd HOW.out l1 (by rw [HYL.out]; exact hk)
        obtain ⟨⟨ba1, ba2⟩, bb1, bb2⟩ := hlb
        by_cases hlt : k < N
        · have hlt' : (k : Int) < (N : Int) := by omega
          obtain ⟨b3, o3, hA3, hb3, z0, z1, z2⟩ := HC.out wr HBW.out k hlt
          subst hA3
          obtain ⟨v1, v3⟩ := HV.out k hlt
          obtain ⟨⟨y0, y1, V⟩, hU⟩ : ∃ U, uOf ys k = U := ⟨_, rfl⟩
          have HVV := Lib.hid (show (uOf ys k).valid = V by rw [hU])
          have htp := HT.out.1 k hlt
          rw [hU] at z0 z1 z2 v1 v3 htp
          simp only at z0 z1 z2 v1 v3 htp
          have HTP := Lib.hid htp
          clear htp hU
          have hs := HBW.out.size
          have hs1 := HB1.out.lt
          have hs2 := HB2.out.lt
          have fl := ((HB1.out.alloc (.cells #[.int .i64 y0, .int .i64 y1, .int .i64 V] 83)).cell k).trans (show _ = some (Value.bool (decide (k ∈ Q))) by rw [List.getElem?_toArray, eBools_get _ _ _ (flg_get hlt)])
          have hb5 := HBW.out.alloc hs (.cells #[.int .i64 y0, .int .i64 y1, .int .i64 V] 83)
          have kx := Blk.new wr 83 #[.int .i64 y0, .int .i64 y1, .int .i64 V]
          have k1 := HB1.out.alloc (.cells #[.int .i64 y0, .int .i64 y1, .int .i64 V] 83)
          have k2 := HB2.out.alloc (.cells #[.int .i64 y0, .int .i64 y1, .int .i64 V] 83)
          obtain ⟨w5, hw5⟩ : ∃ w5, wr.alloc (.cells #[.int .i64 y0, .int .i64 y1, .int .i64 V] 83) = w5 := ⟨_, rfl⟩
          rw [hw5] at fl hb5 kx k1 k2
          have hst : ∀ W, Below w5.heap.size w5 W → W.cell? ⟨wr.heap.size, 2, none⟩ = some (.int .i64 V) ∧ W.cell? ⟨wo.heap.size, 0, none⟩ = some (.int .i64 a) ∧ W.cell? ⟨wo.heap.size, 1, none⟩ = some (.int .i64 b) ∧ ∀ i, W.frozen? ⟨wo.heap.size, i, none⟩ = false := fun W hW =>
            ⟨((kx.below_ hW).cell 2).trans rfl, ((k2.below_ hW).cell 0).trans rfl, ((k2.below_ hW).cell 1).trans rfl, (k2.below_ hW).frozen⟩
          have hpa : ∀ W, Below w5.heap.size w5 W → ∀ p : Past W, p.w.cell? ⟨wr.heap.size, 2, none⟩ = some (.int .i64 V) ∧ p.w.cell? ⟨wo.heap.size, 0, none⟩ = some (.int .i64 a) ∧ p.w.cell? ⟨wo.heap.size, 1, none⟩ = some (.int .i64 b) := fun W hW p =>
            ⟨(((kx.below_ hW).below_ p.h).cell 2).trans rfl, (((k2.below_ hW).below_ p.h).cell 0).trans rfl, (((k2.below_ hW).below_ p.h).cell 1).trans rfl⟩
          have hsk : ∀ W, Below w5.heap.size w5 W → Blk W w2.heap.size 4 (eList eBool (flg N Q)).toArray ∧ Blk W wo.heap.size 3 #[.int .i64 a, .int .i64 b] ∧ Below w2.heap.size w2 W := fun W hW => ⟨k1.below_ hW, k2.below_ hW, hb5.trans (hW.mono hb5.size)⟩
          have hsto : ∀ W, Below w5.heap.size w5 W → ∀ x y : Int, Blk ((W.setCell ⟨wo.heap.size, 1, none⟩ (.int .i64 x)).setCell ⟨wo.heap.size, 0, none⟩ (.int .i64 y)) wo.heap.size 3 #[.int .i64 y, .int .i64 x] ∧ Blk ((W.setCell ⟨wo.heap.size, 1, none⟩ (.int .i64 x)).setCell ⟨wo.heap.size, 0, none⟩ (.int .i64 y)) w2.heap.size 4 (eList eBool (flg N Q)).toArray ∧ Below w2.heap.size w2 ((W.setCell ⟨wo.heap.size, 1, none⟩ (.int .i64 x)).setCell ⟨wo.heap.size, 0, none⟩ (.int .i64 y)) := fun W hW x y =>
            ⟨((k2.below_ hW).set_ 1 _).set_ 0 _, ((k1.below_ hW).far (by simp only; omega) _).far (by simp only; omega) _, ((hb5.trans (hW.mono hb5.size)).setCell (p := ⟨wo.heap.size, 1, none⟩) (by simp only; omega) _).setCell (p := ⟨wo.heap.size, 0, none⟩) (by simp only; omega) _⟩
          have hstp : ∀ W, Below w5.heap.size w5 W → ∀ x : Int, Blk (W.setCell ⟨wo.heap.size, 1, none⟩ (.int .i64 x)) wo.heap.size 3 #[.int .i64 a, .int .i64 x] ∧ Blk (W.setCell ⟨wo.heap.size, 1, none⟩ (.int .i64 x)) w2.heap.size 4 (eList eBool (flg N Q)).toArray ∧ Below w2.heap.size w2 (W.setCell ⟨wo.heap.size, 1, none⟩ (.int .i64 x)) := fun W hW x =>
            ⟨(k2.below_ hW).set_ 1 _, (k1.below_ hW).far (by simp only; omega) _, (hb5.trans (hW.mono hb5.size)).setCell (p := ⟨wo.heap.size, 1, none⟩) (by simp only; omega) _⟩
          have HST := Lib.hid hst
          have HPA := Lib.hid hpa
          have HSK := Lib.hid hsk
          have HSTO := Lib.hid hsto
          have HSTP := Lib.hid hstp
          have p1 := fun p => (hpa w5 (Below.refl _ _) p).1
          have p2 := fun p => (hpa w5 (Below.refl _ _) p).2.1
          have p3 := fun p => (hpa w5 (Below.refl _ _) p).2.2
          clear hst hpa hsk hsto hstp hb5 kx k1 k2 hs hb3
          subst hw5
          by_cases hm : k ∈ Q
          · have HNX := Lib.hid (fun h : Q ≠ [] => (HX.out h).skip hm)
            rw [decide_eq_true hm] at fl
            by_cases e1 : V < a
            · have hl2 := HVV.out ▸ HL.out.first
              go_wp2_with fail
              refine wp_region_quiet_past (by kernel_rfl) (by kernel_rfl) ?_
              repeat (refine qw_step (fun K_ hK_ => ?_); go_simp; first | (refine hK_ _ ?_; clear hK_ K_) | (apply Exists.intro; refine ⟨fun _ => ?_, hK_ _ ?_⟩; (fail); clear hK_ K_) | (rw [if_pos (by first | assumption | omega)]; first | (refine hK_ _ ?_; clear hK_ K_) | (apply Exists.intro; refine ⟨fun _ => ?_, hK_ _ ?_⟩; (fail); clear hK_ K_)) | (rw [if_neg (by first | assumption | omega)]; first | (refine hK_ _ ?_; clear hK_ K_) | (apply Exists.intro; refine ⟨fun _ => ?_, hK_ _ ?_⟩; (fail); clear hK_ K_)))
              refine qw_nil ?_
              intro WQ hw_
              obtain ⟨p_, hp_⟩ := hw_
              have HQ := p_.h
              rw [← hp_] at HQ
              clear hp_ p_
              have HQ_ := Lib.hid HQ
              have HK := Lib.hid (HSTO.out WQ HQ a V)
              obtain ⟨hv2, ha0, ha1, ff0⟩ := HST.out WQ HQ
              have hx0 := ((HSTP.out WQ HQ a).1.cell 0).trans rfl
              have hx1 := (HSTP.out WQ HQ a).1.frozen
              clear HQ p1 p2 p3
              have HL2 := Lib.hid hl2
              clear hl2
              go_wp2_with fail
              go_region
              all_goals (
                have HN := Lib.hid (And.intro HK.out.2.1 (And.intro HK.out.1 HK.out.2.2))
                clear HK
                go_wp2
                go_roundw
                case rel => exact ⟨k + 1, xv, V, a, by omega, rfl, by go_num, HNX.out, HL2.out, HN.out.1, HN.out.2.1, (show Below _ _ _ from by repeat (first | exact HN.out.2.2 | refine Below.drew ?_ | refine below_drewN ?_ _))⟩
                case measure => simp [intOf]; omega)
            · have d1 : decide (V < a) = false := by simpa using e1
              go_wp2_with fail
              refine wp_region_quiet_past (by kernel_rfl) (by kernel_rfl) ?_
              repeat (refine qw_step (fun K_ hK_ => ?_); go_simp; first | (refine hK_ _ ?_; clear hK_ K_) | (apply Exists.intro; refine ⟨fun _ => ?_, hK_ _ ?_⟩; (fail); clear hK_ K_) | (rw [if_pos (by first | assumption | omega)]; first | (refine hK_ _ ?_; clear hK_ K_) | (apply Exists.intro; refine ⟨fun _ => ?_, hK_ _ ?_⟩; (fail); clear hK_ K_)) | (rw [if_neg (by first | assumption | omega)]; first | (refine hK_ _ ?_; clear hK_ K_) | (apply Exists.intro; refine ⟨fun _ => ?_, hK_ _ ?_⟩; (fail); clear hK_ K_)))
              refine qw_nil ?_
              intro WQ hw_
              obtain ⟨p_, hp_⟩ := hw_
              have HQ := p_.h
              rw [← hp_] at HQ
              clear hp_ p_
              have HQ_ := Lib.hid HQ
              have hp_ := HPA.out WQ HQ
              clear HQ p1 p2 p3
              obtain ⟨W1, rfl⟩ : ∃ W1 : World, W1 = WQ := ⟨_, rfl⟩
              by_cases e2 : V < b
              · have hl2 := HVV.out ▸ HL.out.second
                have HL2 := Lib.hid hl2
                clear hl2
                have p1 := fun p => (hp_ p).1
                have p2 := fun p => (hp_ p).2.1
                have p3 := fun p => (hp_ p).2.2
                clear hp_
                go_wp2_with fail
                refine wp_region_quiet_past (by kernel_rfl) (by kernel_rfl) ?_
                repeat (refine qw_step (fun K_ hK_ => ?_); go_simp; first | (refine hK_ _ ?_; clear hK_ K_) | (apply Exists.intro; refine ⟨fun _ => ?_, hK_ _ ?_⟩; (fail); clear hK_ K_) | (rw [if_pos (by first | assumption | omega)]; first | (refine hK_ _ ?_; clear hK_ K_) | (apply Exists.intro; refine ⟨fun _ => ?_, hK_ _ ?_⟩; (fail); clear hK_ K_)) | (rw [if_neg (by first | assumption | omega)]; first | (refine hK_ _ ?_; clear hK_ K_) | (apply Exists.intro; refine ⟨fun _ => ?_, hK_ _ ?_⟩; (fail); clear hK_ K_)))
                refine qw_nil ?_
                intro WQ hw_
                obtain ⟨p_, hp_⟩ := hw_
                have HQ := p_.h
                rw [← hp_] at HQ
                clear hp_ p_
                have hq3 := below_tr HQ_.out HQ
                have HK := Lib.hid (HSTP.out WQ hq3 V)
                obtain ⟨hv2, ha0, ha1, ff0⟩ := HST.out WQ hq3
                clear HQ p1 p2 p3 hq3
                have HN := Lib.hid (And.intro HK.out.2.1 (And.intro HK.out.1 HK.out.2.2))
                clear HK
                go_wp2
                go_roundw
                case rel => exact ⟨k + 1, xv, a, V, by omega, rfl, by go_num, HNX.out, HL2.out, HN.out.1, HN.out.2.1, (show Below _ _ _ from by repeat (first | exact HN.out.2.2 | refine Below.drew ?_ | refine below_drewN ?_ _))⟩
                case measure => simp [intOf]; omega
              · have d2 : decide (V < b) = false := by simpa using e2
                have p1 := fun p => (hp_ p).1
                have p2 := fun p => (hp_ p).2.1
                have p3 := fun p => (hp_ p).2.2
                clear hp_
                go_wp2_with fail
                refine wp_region_quiet_past (by kernel_rfl) (by kernel_rfl) ?_
                repeat (refine qw_step (fun K_ hK_ => ?_); go_simp; first | (refine hK_ _ ?_; clear hK_ K_) | (apply Exists.intro; refine ⟨fun _ => ?_, hK_ _ ?_⟩; (fail); clear hK_ K_) | (rw [if_pos (by first | assumption | omega)]; first | (refine hK_ _ ?_; clear hK_ K_) | (apply Exists.intro; refine ⟨fun _ => ?_, hK_ _ ?_⟩; (fail); clear hK_ K_)) | (rw [if_neg (by first | assumption | omega)]; first | (refine hK_ _ ?_; clear hK_ K_) | (apply Exists.intro; refine ⟨fun _ => ?_, hK_ _ ?_⟩; (fail); clear hK_ K_)))
                refine qw_nil ?_
                intro WQ hw_
                obtain ⟨p_, hp_⟩ := hw_
                have HQ := p_.h
                rw [← hp_] at HQ
                clear hp_ p_
                have hq3 := below_tr HQ_.out HQ
                have HN := Lib.hid (HSK.out WQ hq3)
                clear HQ p1 p2 p3 hq3
                go_wp2
                go_roundw
                case rel => exact ⟨k + 1, xv, a, b, by omega, rfl, by go_num, HNX.out, HL.out.skip, HN.out.1, HN.out.2.1, (show Below _ _ _ from by repeat (first | exact HN.out.2.2 | refine Below.drew ?_ | refine below_drewN ?_ _))⟩
                case measure => simp [intOf]; omega
          · rw [decide_eq_false hm] at fl
            by_cases hq0 : Q = []
            · have HNX := Lib.hid (fun h : Q ≠ [] => (absurd hq0 h : Nxt ys Q (k + 1) xv))
              have d0 : ¬ 0 < (Q.length : Int) := by rw [hq0]; simp
              have d00 : decide (0 < (Q.length : Int)) = false := by simpa using d0
              clear hq0
              by_cases e1 : V < a
              · have hl2 := HVV.out ▸ HL.out.first
                go_wp2_with fail
                refine wp_region_quiet_past (by kernel_rfl) (by kernel_rfl) ?_
                repeat (refine qw_step (fun K_ hK_ => ?_); go_simp; first | (refine hK_ _ ?_; clear hK_ K_) | (apply Exists.intro; refine ⟨fun _ => ?_, hK_ _ ?_⟩; (fail); clear hK_ K_) | (rw [if_pos (by first | assumption | omega)]; first | (refine hK_ _ ?_; clear hK_ K_) | (apply Exists.intro; refine ⟨fun _ => ?_, hK_ _ ?_⟩; (fail); clear hK_ K_)) | (rw [if_neg (by first | assumption | omega)]; first | (refine hK_ _ ?_; clear hK_ K_) | (apply Exists.intro; refine ⟨fun _ => ?_, hK_ _ ?_⟩; (fail); clear hK_ K_)))
                refine qw_nil ?_
                intro WQ hw_
                obtain ⟨p_, hp_⟩ := hw_
                have HQ := p_.h
                rw [← hp_] at HQ
                clear hp_ p_
                have HQ_ := Lib.hid HQ
                have HK := Lib.hid (HSTO.out WQ HQ a V)
                obtain ⟨hv2, ha0, ha1, ff0⟩ := HST.out WQ HQ
                have hx0 := ((HSTP.out WQ HQ a).1.cell 0).trans rfl
                have hx1 := (HSTP.out WQ HQ a).1.frozen
                clear HQ p1 p2 p3
                have HL2 := Lib.hid hl2
                clear hl2
                go_wp2_with fail
                go_region
                all_goals (
                  have HN := Lib.hid (And.intro HK.out.2.1 (And.intro HK.out.1 HK.out.2.2))
                  clear HK
                  go_wp2
                  go_roundw
                  case rel => exact ⟨k + 1, xv, V, a, by omega, rfl, by go_num, HNX.out, HL2.out, HN.out.1, HN.out.2.1, (show Below _ _ _ from by repeat (first | exact HN.out.2.2 | refine Below.drew ?_ | refine below_drewN ?_ _))⟩
                  case measure => simp [intOf]; omega)
              · have d1 : decide (V < a) = false := by simpa using e1
                go_wp2_with fail
                refine wp_region_quiet_past (by kernel_rfl) (by kernel_rfl) ?_
                repeat (refine qw_step (fun K_ hK_ => ?_); go_simp; first | (refine hK_ _ ?_; clear hK_ K_) | (apply Exists.intro; refine ⟨fun _ => ?_, hK_ _ ?_⟩; (fail); clear hK_ K_) | (rw [if_pos (by first | assumption | omega)]; first | (refine hK_ _ ?_; clear hK_ K_) | (apply Exists.intro; refine ⟨fun _ => ?_, hK_ _ ?_⟩; (fail); clear hK_ K_)) | (rw [if_neg (by first | assumption | omega)]; first | (refine hK_ _ ?_; clear hK_ K_) | (apply Exists.intro; refine ⟨fun _ => ?_, hK_ _ ?_⟩; (fail); clear hK_ K_)))
                refine qw_nil ?_
                intro WQ hw_
                obtain ⟨p_, hp_⟩ := hw_
                have HQ := p_.h
                rw [← hp_] at HQ
                clear hp_ p_
                have HQ_ := Lib.hid HQ
                have hp_ := HPA.out WQ HQ
                clear HQ p1 p2 p3
                obtain ⟨W1, rfl⟩ : ∃ W1 : World, W1 = WQ := ⟨_, rfl⟩
                by_cases e2 : V < b
                · have hl2 := HVV.out ▸ HL.out.second
                  have HL2 := Lib.hid hl2
                  clear hl2
                  have p1 := fun p => (hp_ p).1
                  have p2 := fun p => (hp_ p).2.1
                  have p3 := fun p => (hp_ p).2.2
                  clear hp_
                  go_wp2_with fail
                  refine wp_region_quiet_past (by kernel_rfl) (by kernel_rfl) ?_
                  repeat (refine qw_step (fun K_ hK_ => ?_); go_simp; first | (refine hK_ _ ?_; clear hK_ K_) | (apply Exists.intro; refine ⟨fun _ => ?_, hK_ _ ?_⟩; (fail); clear hK_ K_) | (rw [if_pos (by first | assumption | omega)]; first | (refine hK_ _ ?_; clear hK_ K_) | (apply Exists.intro; refine ⟨fun _ => ?_, hK_ _ ?_⟩; (fail); clear hK_ K_)) | (rw [if_neg (by first | assumption | omega)]; first | (refine hK_ _ ?_; clear hK_ K_) | (apply Exists.intro; refine ⟨fun _ => ?_, hK_ _ ?_⟩; (fail); clear hK_ K_)))
                  refine qw_nil ?_
                  intro WQ hw_
                  obtain ⟨p_, hp_⟩ := hw_
                  have HQ := p_.h
                  rw [← hp_] at HQ
                  clear hp_ p_
                  have hq3 := below_tr HQ_.out HQ
                  have HK := Lib.hid (HSTP.out WQ hq3 V)
                  obtain ⟨hv2, ha0, ha1, ff0⟩ := HST.out WQ hq3
                  clear HQ p1 p2 p3 hq3
                  have HN := Lib.hid (And.intro HK.out.2.1 (And.intro HK.out.1 HK.out.2.2))
                  clear HK
                  go_wp2
                  go_roundw
                  case rel => exact ⟨k + 1, xv, a, V, by omega, rfl, by go_num, HNX.out, HL2.out, HN.out.1, HN.out.2.1, (show Below _ _ _ from by repeat (first | exact HN.out.2.2 | refine Below.drew ?_ | refine below_drewN ?_ _))⟩
                  case measure => simp [intOf]; omega
                · have d2 : decide (V < b) = false := by simpa using e2
                  have p1 := fun p => (hp_ p).1
                  have p2 := fun p => (hp_ p).2.1
                  have p3 := fun p => (hp_ p).2.2
                  clear hp_
                  go_wp2_with fail
                  refine wp_region_quiet_past (by kernel_rfl) (by kernel_rfl) ?_
                  repeat (refine qw_step (fun K_ hK_ => ?_); go_simp; first | (refine hK_ _ ?_; clear hK_ K_) | (apply Exists.intro; refine ⟨fun _ => ?_, hK_ _ ?_⟩; (fail); clear hK_ K_) | (rw [if_pos (by first | assumption | omega)]; first | (refine hK_ _ ?_; clear hK_ K_) | (apply Exists.intro; refine ⟨fun _ => ?_, hK_ _ ?_⟩; (fail); clear hK_ K_)) | (rw [if_neg (by first | assumption | omega)]; first | (refine hK_ _ ?_; clear hK_ K_) | (apply Exists.intro; refine ⟨fun _ => ?_, hK_ _ ?_⟩; (fail); clear hK_ K_)))
                  refine qw_nil ?_
                  intro WQ hw_
                  obtain ⟨p_, hp_⟩ := hw_
                  have HQ := p_.h
                  rw [← hp_] at HQ
                  clear hp_ p_
                  have hq3 := below_tr HQ_.out HQ
                  have HN := Lib.hid (HSK.out WQ hq3)
                  clear HQ p1 p2 p3 hq3
                  go_wp2
                  go_roundw
                  case rel => exact ⟨k + 1, xv, a, b, by omega, rfl, by go_num, HNX.out, HL.out.skip, HN.out.1, HN.out.2.1, (show Below _ _ _ from by repeat (first | exact HN.out.2.2 | refine Below.drew ?_ | refine below_drewN ?_ _))⟩
                  case measure => simp [intOf]; omega
            · have d0 : 0 < (Q.length : Int) := by have := List.length_pos_iff.2 hq0; omega
              have d1 : ¬ V < tv := by have := HTP.out hm; omega
              by_cases hx0 : (xv == 0) = true
              · have HNX := Lib.hid (fun h : Q ≠ [] => HVV.out ▸ Nxt.take hm (by rw [HVV.out]; omega))
                clear hq0
                by_cases e1 : V < a
                · have hl2 := HVV.out ▸ HL.out.first
                  go_wp2_with fail
                  refine wp_region_quiet_past (by kernel_rfl) (by kernel_rfl) ?_
                  repeat (refine qw_step (fun K_ hK_ => ?_); go_simp; first | (refine hK_ _ ?_; clear hK_ K_) | (apply Exists.intro; refine ⟨fun _ => ?_, hK_ _ ?_⟩; (fail); clear hK_ K_) | (rw [if_pos (by first | assumption | omega)]; first | (refine hK_ _ ?_; clear hK_ K_) | (apply Exists.intro; refine ⟨fun _ => ?_, hK_ _ ?_⟩; (fail); clear hK_ K_)) | (rw [if_neg (by first | assumption | omega)]; first | (refine hK_ _ ?_; clear hK_ K_) | (apply Exists.intro; refine ⟨fun _ => ?_, hK_ _ ?_⟩; (fail); clear hK_ K_)))
                  refine qw_nil ?_
                  intro WQ hw_
                  obtain ⟨p_, hp_⟩ := hw_
                  have HQ := p_.h
                  rw [← hp_] at HQ
                  clear hp_ p_
                  have HQ_ := Lib.hid HQ
                  have HK := Lib.hid (HSTO.out WQ HQ a V)
                  obtain ⟨hv2, ha0, ha1, ff0⟩ := HST.out WQ HQ
                  have hx0 := ((HSTP.out WQ HQ a).1.cell 0).trans rfl
                  have hx1 := (HSTP.out WQ HQ a).1.frozen
                  clear HQ p1 p2 p3
                  have HL2 := Lib.hid hl2
                  clear hl2
                  go_wp2_with fail
                  go_region
                  all_goals (
                    have HN := Lib.hid (And.intro HK.out.2.1 (And.intro HK.out.1 HK.out.2.2))
                    clear HK
                    go_wp2
                    go_roundw
                    case rel => exact ⟨k + 1, V, V, a, by omega, rfl, by go_num, HNX.out, HL2.out, HN.out.1, HN.out.2.1, (show Below _ _ _ from by repeat (first | exact HN.out.2.2 | refine Below.drew ?_ | refine below_drewN ?_ _))⟩
                    case measure => simp [intOf]; omega)
                · have d1 : decide (V < a) = false := by simpa using e1
                  go_wp2_with fail
                  refine wp_region_quiet_past (by kernel_rfl) (by kernel_rfl) ?_
                  repeat (refine qw_step (fun K_ hK_ => ?_); go_simp; first | (refine hK_ _ ?_; clear hK_ K_) | (apply Exists.intro; refine ⟨fun _ => ?_, hK_ _ ?_⟩; (fail); clear hK_ K_) | (rw [if_pos (by first | assumption | omega)]; first | (refine hK_ _ ?_; clear hK_ K_) | (apply Exists.intro; refine ⟨fun _ => ?_, hK_ _ ?_⟩; (fail); clear hK_ K_)) | (rw [if_neg (by first | assumption | omega)]; first | (refine hK_ _ ?_; clear hK_ K_) | (apply Exists.intro; refine ⟨fun _ => ?_, hK_ _ ?_⟩; (fail); clear hK_ K_)))
                  refine qw_nil ?_
                  intro WQ hw_
                  obtain ⟨p_, hp_⟩ := hw_
                  have HQ := p_.h
                  rw [← hp_] at HQ
                  clear hp_ p_
                  have HQ_ := Lib.hid HQ
                  have hp_ := HPA.out WQ HQ
                  clear HQ p1 p2 p3
                  obtain ⟨W1, rfl⟩ : ∃ W1 : World, W1 = WQ := ⟨_, rfl⟩
                  by_cases e2 : V < b
                  · have hl2 := HVV.out ▸ HL.out.second
                    have HL2 := Lib.hid hl2
                    clear hl2
                    have p1 := fun p => (hp_ p).1
                    have p2 := fun p => (hp_ p).2.1
                    have p3 := fun p => (hp_ p).2.2
                    clear hp_
                    go_wp2_with fail
                    refine wp_region_quiet_past (by kernel_rfl) (by kernel_rfl) ?_
                    repeat (refine qw_step (fun K_ hK_ => ?_); go_simp; first | (refine hK_ _ ?_; clear hK_ K_) | (apply Exists.intro; refine ⟨fun _ => ?_, hK_ _ ?_⟩; (fail); clear hK_ K_) | (rw [if_pos (by first | assumption | omega)]; first | (refine hK_ _ ?_; clear hK_ K_) | (apply Exists.intro; refine ⟨fun _ => ?_, hK_ _ ?_⟩; (fail); clear hK_ K_)) | (rw [if_neg (by first | assumption | omega)]; first | (refine hK_ _ ?_; clear hK_ K_) | (apply Exists.intro; refine ⟨fun _ => ?_, hK_ _ ?_⟩; (fail); clear hK_ K_)))
                    refine qw_nil ?_
                    intro WQ hw_
                    obtain ⟨p_, hp_⟩ := hw_
                    have HQ := p_.h
                    rw [← hp_] at HQ
                    clear hp_ p_
                    have hq3 := below_tr HQ_.out HQ
                    have HK := Lib.hid (HSTP.out WQ hq3 V)
                    obtain ⟨hv2, ha0, ha1, ff0⟩ := HST.out WQ hq3
                    clear HQ p1 p2 p3 hq3
                    have HN := Lib.hid (And.intro HK.out.2.1 (And.intro HK.out.1 HK.out.2.2))
                    clear HK
                    go_wp2
                    go_roundw
                    case rel => exact ⟨k + 1, V, a, V, by omega, rfl, by go_num, HNX.out, HL2.out, HN.out.1, HN.out.2.1, (show Below _ _ _ from by repeat (first | exact HN.out.2.2 | refine Below.drew ?_ | refine below_drewN ?_ _))⟩
                    case measure => simp [intOf]; omega
                  · have d2 : decide (V < b) = false := by simpa using e2
                    have p1 := fun p => (hp_ p).1
                    have p2 := fun p => (hp_ p).2.1
                    have p3 := fun p => (hp_ p).2.2
                    clear hp_
                    go_wp2_with fail
                    refine wp_region_quiet_past (by kernel_rfl) (by kernel_rfl) ?_
                    repeat (refine qw_step (fun K_ hK_ => ?_); go_simp; first | (refine hK_ _ ?_; clear hK_ K_) | (apply Exists.intro; refine ⟨fun _ => ?_, hK_ _ ?_⟩; (fail); clear hK_ K_) | (rw [if_pos (by first | assumption | omega)]; first | (refine hK_ _ ?_; clear hK_ K_) | (apply Exists.intro; refine ⟨fun _ => ?_, hK_ _ ?_⟩; (fail); clear hK_ K_)) | (rw [if_neg (by first | assumption | omega)]; first | (refine hK_ _ ?_; clear hK_ K_) | (apply Exists.intro; refine ⟨fun _ => ?_, hK_ _ ?_⟩; (fail); clear hK_ K_)))
                    refine qw_nil ?_
                    intro WQ hw_
                    obtain ⟨p_, hp_⟩ := hw_
                    have HQ := p_.h
                    rw [← hp_] at HQ
                    clear hp_ p_
                    have hq3 := below_tr HQ_.out HQ
                    have HN := Lib.hid (HSK.out WQ hq3)
                    clear HQ p1 p2 p3 hq3
                    go_wp2
                    go_roundw
                    case rel => exact ⟨k + 1, V, a, b, by omega, rfl, by go_num, HNX.out, HL.out.skip, HN.out.1, HN.out.2.1, (show Below _ _ _ from by repeat (first | exact HN.out.2.2 | refine Below.drew ?_ | refine below_drewN ?_ _))⟩
                    case measure => simp [intOf]; omega
              · have hx1 : (xv == 0) = false := by simpa using hx0
                have hx2 : ¬ xv = 0 := by simpa using hx0
                by_cases hx3 : V < xv
                · have HNX := Lib.hid (fun h : Q ≠ [] => HVV.out ▸ Nxt.take hm (by rw [HVV.out]; omega))
                  clear hq0 hx0 hx2
                  by_cases e1 : V < a
                  · have hl2 := HVV.out ▸ HL.out.first
                    go_wp2_with fail
                    refine wp_region_quiet_past (by kernel_rfl) (by kernel_rfl) ?_
                    repeat (refine qw_step (fun K_ hK_ => ?_); go_simp; first | (refine hK_ _ ?_; clear hK_ K_) | (apply Exists.intro; refine ⟨fun _ => ?_, hK_ _ ?_⟩; (fail); clear hK_ K_) | (rw [if_pos (by first | assumption | omega)]; first | (refine hK_ _ ?_; clear hK_ K_) | (apply Exists.intro; refine ⟨fun _ => ?_, hK_ _ ?_⟩; (fail); clear hK_ K_)) | (rw [if_neg (by first | assumption | omega)]; first | (refine hK_ _ ?_; clear hK_ K_) | (apply Exists.intro; refine ⟨fun _ => ?_, hK_ _ ?_⟩; (fail); clear hK_ K_)))
                    refine qw_nil ?_
                    intro WQ hw_
                    obtain ⟨p_, hp_⟩ := hw_
                    have HQ := p_.h
                    rw [← hp_] at HQ
                    clear hp_ p_
                    have HQ_ := Lib.hid HQ
                    have HK := Lib.hid (HSTO.out WQ HQ a V)
                    obtain ⟨hv2, ha0, ha1, ff0⟩ := HST.out WQ HQ
                    have hx0 := ((HSTP.out WQ HQ a).1.cell 0).trans rfl
                    have hx1 := (HSTP.out WQ HQ a).1.frozen
                    clear HQ p1 p2 p3
                    have HL2 := Lib.hid hl2
                    clear hl2
                    go_wp2_with fail
                    go_region
                    all_goals (
                      have HN := Lib.hid (And.intro HK.out.2.1 (And.intro HK.out.1 HK.out.2.2))
                      clear HK
                      go_wp2
                      go_roundw
                      case rel => exact ⟨k + 1, V, V, a, by omega, rfl, by go_num, HNX.out, HL2.out, HN.out.1, HN.out.2.1, (show Below _ _ _ from by repeat (first | exact HN.out.2.2 | refine Below.drew ?_ | refine below_drewN ?_ _))⟩
                      case measure => simp [intOf]; omega)
                  · have d1 : decide (V < a) = false := by simpa using e1
                    go_wp2_with fail
                    refine wp_region_quiet_past (by kernel_rfl) (by kernel_rfl) ?_
                    repeat (refine qw_step (fun K_ hK_ => ?_); go_simp; first | (refine hK_ _ ?_; clear hK_ K_) | (apply Exists.intro; refine ⟨fun _ => ?_, hK_ _ ?_⟩; (fail); clear hK_ K_) | (rw [if_pos (by first | assumption | omega)]; first | (refine hK_ _ ?_; clear hK_ K_) | (apply Exists.intro; refine ⟨fun _ => ?_, hK_ _ ?_⟩; (fail); clear hK_ K_)) | (rw [if_neg (by first | assumption | omega)]; first | (refine hK_ _ ?_; clear hK_ K_) | (apply Exists.intro; refine ⟨fun _ => ?_, hK_ _ ?_⟩; (fail); clear hK_ K_)))
                    refine qw_nil ?_
                    intro WQ hw_
                    obtain ⟨p_, hp_⟩ := hw_
                    have HQ := p_.h
                    rw [← hp_] at HQ
                    clear hp_ p_
                    have HQ_ := Lib.hid HQ
                    have hp_ := HPA.out WQ HQ
                    clear HQ p1 p2 p3
                    obtain ⟨W1, rfl⟩ : ∃ W1 : World, W1 = WQ := ⟨_, rfl⟩
                    by_cases e2 : V < b
                    · have hl2 := HVV.out ▸ HL.out.second
                      have HL2 := Lib.hid hl2
                      clear hl2
                      have p1 := fun p => (hp_ p).1
                      have p2 := fun p => (hp_ p).2.1
                      have p3 := fun p => (hp_ p).2.2
                      clear hp_
                      go_wp2_with fail
                      refine wp_region_quiet_past (by kernel_rfl) (by kernel_rfl) ?_
                      repeat (refine qw_step (fun K_ hK_ => ?_); go_simp; first | (refine hK_ _ ?_; clear hK_ K_) | (apply Exists.intro; refine ⟨fun _ => ?_, hK_ _ ?_⟩; (fail); clear hK_ K_) | (rw [if_pos (by first | assumption | omega)]; first | (refine hK_ _ ?_; clear hK_ K_) | (apply Exists.intro; refine ⟨fun _ => ?_, hK_ _ ?_⟩; (fail); clear hK_ K_)) | (rw [if_neg (by first | assumption | omega)]; first | (refine hK_ _ ?_; clear hK_ K_) | (apply Exists.intro; refine ⟨fun _ => ?_, hK_ _ ?_⟩; (fail); clear hK_ K_)))
                      refine qw_nil ?_
                      intro WQ hw_
                      obtain ⟨p_, hp_⟩ := hw_
                      have HQ := p_.h
                      rw [← hp_] at HQ
                      clear hp_ p_
                      have hq3 := below_tr HQ_.out HQ
                      have HK := Lib.hid (HSTP.out WQ hq3 V)
                      obtain ⟨hv2, ha0, ha1, ff0⟩ := HST.out WQ hq3
                      clear HQ p1 p2 p3 hq3
                      have HN := Lib.hid (And.intro HK.out.2.1 (And.intro HK.out.1 HK.out.2.2))
                      clear HK
                      go_wp2
                      go_roundw
                      case rel => exact ⟨k + 1, V, a, V, by omega, rfl, by go_num, HNX.out, HL2.out, HN.out.1, HN.out.2.1, (show Below _ _ _ from by repeat (first | exact HN.out.2.2 | refine Below.drew ?_ | refine below_drewN ?_ _))⟩
                      case measure => simp [intOf]; omega
                    · have d2 : decide (V < b) = false := by simpa using e2
                      have p1 := fun p => (hp_ p).1
                      have p2 := fun p => (hp_ p).2.1
                      have p3 := fun p => (hp_ p).2.2
                      clear hp_
                      go_wp2_with fail
                      refine wp_region_quiet_past (by kernel_rfl) (by kernel_rfl) ?_
                      repeat (refine qw_step (fun K_ hK_ => ?_); go_simp; first | (refine hK_ _ ?_; clear hK_ K_) | (apply Exists.intro; refine ⟨fun _ => ?_, hK_ _ ?_⟩; (fail); clear hK_ K_) | (rw [if_pos (by first | assumption | omega)]; first | (refine hK_ _ ?_; clear hK_ K_) | (apply Exists.intro; refine ⟨fun _ => ?_, hK_ _ ?_⟩; (fail); clear hK_ K_)) | (rw [if_neg (by first | assumption | omega)]; first | (refine hK_ _ ?_; clear hK_ K_) | (apply Exists.intro; refine ⟨fun _ => ?_, hK_ _ ?_⟩; (fail); clear hK_ K_)))
                      refine qw_nil ?_
                      intro WQ hw_
                      obtain ⟨p_, hp_⟩ := hw_
                      have HQ := p_.h
                      rw [← hp_] at HQ
                      clear hp_ p_
                      have hq3 := below_tr HQ_.out HQ
                      have HN := Lib.hid (HSK.out WQ hq3)
                      clear HQ p1 p2 p3 hq3
                      go_wp2
                      go_roundw
                      case rel => exact ⟨k + 1, V, a, b, by omega, rfl, by go_num, HNX.out, HL.out.skip, HN.out.1, HN.out.2.1, (show Below _ _ _ from by repeat (first | exact HN.out.2.2 | refine Below.drew ?_ | refine below_drewN ?_ _))⟩
                      case measure => simp [intOf]; omega
                · have HNX := Lib.hid (fun h : Q ≠ [] => (HX.out h).same hx2)
                  have hx4 : decide (V < xv) = false := by simpa using hx3
                  clear hq0 hx0 hx2
                  by_cases e1 : V < a
                  · have hl2 := HVV.out ▸ HL.out.first
                    go_wp2_with fail
                    refine wp_region_quiet_past (by kernel_rfl) (by kernel_rfl) ?_
                    repeat (refine qw_step (fun K_ hK_ => ?_); go_simp; first | (refine hK_ _ ?_; clear hK_ K_) | (apply Exists.intro; refine ⟨fun _ => ?_, hK_ _ ?_⟩; (fail); clear hK_ K_) | (rw [if_pos (by first | assumption | omega)]; first | (refine hK_ _ ?_; clear hK_ K_) | (apply Exists.intro; refine ⟨fun _ => ?_, hK_ _ ?_⟩; (fail); clear hK_ K_)) | (rw [if_neg (by first | assumption | omega)]; first | (refine hK_ _ ?_; clear hK_ K_) | (apply Exists.intro; refine ⟨fun _ => ?_, hK_ _ ?_⟩; (fail); clear hK_ K_)))
                    refine qw_nil ?_
                    intro WQ hw_
                    obtain ⟨p_, hp_⟩ := hw_
                    have HQ := p_.h
                    rw [← hp_] at HQ
                    clear hp_ p_
                    have HQ_ := Lib.hid HQ
                    have HK := Lib.hid (HSTO.out WQ HQ a V)
                    obtain ⟨hv2, ha0, ha1, ff0⟩ := HST.out WQ HQ
                    have hx0 := ((HSTP.out WQ HQ a).1.cell 0).trans rfl
                    have hx1 := (HSTP.out WQ HQ a).1.frozen
                    clear HQ p1 p2 p3
                    have HL2 := Lib.hid hl2
                    clear hl2
                    go_wp2_with fail
                    go_region
                    all_goals (
                      have HN := Lib.hid (And.intro HK.out.2.1 (And.intro HK.out.1 HK.out.2.2))
                      clear HK
                      go_wp2
                      go_roundw
                      case rel => exact ⟨k + 1, xv, V, a, by omega, rfl, by go_num, HNX.out, HL2.out, HN.out.1, HN.out.2.1, (show Below _ _ _ from by repeat (first | exact HN.out.2.2 | refine Below.drew ?_ | refine below_drewN ?_ _))⟩
                      case measure => simp [intOf]; omega)
                  · have d1 : decide (V < a) = false := by simpa using e1
                    go_wp2_with fail
                    refine wp_region_quiet_past (by kernel_rfl) (by kernel_rfl) ?_
                    repeat (refine qw_step (fun K_ hK_ => ?_); go_simp; first | (refine hK_ _ ?_; clear hK_ K_) | (apply Exists.intro; refine ⟨fun _ => ?_, hK_ _ ?_⟩; (fail); clear hK_ K_) | (rw [if_pos (by first | assumption | omega)]; first | (refine hK_ _ ?_; clear hK_ K_) | (apply Exists.intro; refine ⟨fun _ => ?_, hK_ _ ?_⟩; (fail); clear hK_ K_)) | (rw [if_neg (by first | assumption | omega)]; first | (refine hK_ _ ?_; clear hK_ K_) | (apply Exists.intro; refine ⟨fun _ => ?_, hK_ _ ?_⟩; (fail); clear hK_ K_)))
                    refine qw_nil ?_
                    intro WQ hw_
                    obtain ⟨p_, hp_⟩ := hw_
                    have HQ := p_.h
                    rw [← hp_] at HQ
                    clear hp_ p_
                    have HQ_ := Lib.hid HQ
                    have hp_ := HPA.out WQ HQ
                    clear HQ p1 p2 p3
                    obtain ⟨W1, rfl⟩ : ∃ W1 : World, W1 = WQ := ⟨_, rfl⟩
                    by_cases e2 : V < b
                    · have hl2 := HVV.out ▸ HL.out.second
                      have HL2 := Lib.hid hl2
                      clear hl2
                      have p1 := fun p => (hp_ p).1
                      have p2 := fun p => (hp_ p).2.1
                      have p3 := fun p => (hp_ p).2.2
                      clear hp_
                      go_wp2_with fail
                      refine wp_region_quiet_past (by kernel_rfl) (by kernel_rfl) ?_
                      repeat (refine qw_step (fun K_ hK_ => ?_); go_simp; first | (refine hK_ _ ?_; clear hK_ K_) | (apply Exists.intro; refine ⟨fun _ => ?_, hK_ _ ?_⟩; (fail); clear hK_ K_) | (rw [if_pos (by first | assumption | omega)]; first | (refine hK_ _ ?_; clear hK_ K_) | (apply Exists.intro; refine ⟨fun _ => ?_, hK_ _ ?_⟩; (fail); clear hK_ K_)) | (rw [if_neg (by first | assumption | omega)]; first | (refine hK_ _ ?_; clear hK_ K_) | (apply Exists.intro; refine ⟨fun _ => ?_, hK_ _ ?_⟩; (fail); clear hK_ K_)))
                      refine qw_nil ?_
                      intro WQ hw_
                      obtain ⟨p_, hp_⟩ := hw_
                      have HQ := p_.h
                      rw [← hp_] at HQ
                      clear hp_ p_
                      have hq3 := below_tr HQ_.out HQ
                      have HK := Lib.hid (HSTP.out WQ hq3 V)
                      obtain ⟨hv2, ha0, ha1, ff0⟩ := HST.out WQ hq3
                      clear HQ p1 p2 p3 hq3
                      have HN := Lib.hid (And.intro HK.out.2.1 (And.intro HK.out.1 HK.out.2.2))
                      clear HK
                      go_wp2
                      go_roundw
                      case rel => exact ⟨k + 1, xv, a, V, by omega, rfl, by go_num, HNX.out, HL2.out, HN.out.1, HN.out.2.1, (show Below _ _ _ from by repeat (first | exact HN.out.2.2 | refine Below.drew ?_ | refine below_drewN ?_ _))⟩
                      case measure => simp [intOf]; omega
                    · have d2 : decide (V < b) = false := by simpa using e2
                      have p1 := fun p => (hp_ p).1
                      have p2 := fun p => (hp_ p).2.1
                      have p3 := fun p => (hp_ p).2.2
                      clear hp_
                      go_wp2_with fail
                      refine wp_region_quiet_past (by kernel_rfl) (by kernel_rfl) ?_
                      repeat (refine qw_step (fun K_ hK_ => ?_); go_simp; first | (refine hK_ _ ?_; clear hK_ K_) | (apply Exists.intro; refine ⟨fun _ => ?_, hK_ _ ?_⟩; (fail); clear hK_ K_) | (rw [if_pos (by first | assumption | omega)]; first | (refine hK_ _ ?_; clear hK_ K_) | (apply Exists.intro; refine ⟨fun _ => ?_, hK_ _ ?_⟩; (fail); clear hK_ K_)) | (rw [if_neg (by first | assumption | omega)]; first | (refine hK_ _ ?_; clear hK_ K_) | (apply Exists.intro; refine ⟨fun _ => ?_, hK_ _ ?_⟩; (fail); clear hK_ K_)))
                      refine qw_nil ?_
                      intro WQ hw_
                      obtain ⟨p_, hp_⟩ := hw_
                      have HQ := p_.h
                      rw [← hp_] at HQ
                      clear hp_ p_
                      have hq3 := below_tr HQ_.out HQ
                      have HN := Lib.hid (HSK.out WQ hq3)
                      clear HQ p1 p2 p3 hq3
                      go_wp2
                      go_roundw
                      case rel => exact ⟨k + 1, xv, a, b, by omega, rfl, by go_num, HNX.out, HL.out.skip, HN.out.1, HN.out.2.1, (show Below _ _ _ from by repeat (first | exact HN.out.2.2 | refine Below.drew ?_ | refine below_drewN ?_ _))⟩
                      case measure => simp [intOf]; omega
        · have hkN : k = N := by omega
          subst hkN
          have hlt' : ¬ (k : Int) < (k : Int) := by omega
          have p1 := fun p : Past wr => ((HB2.out.below_ p.h).cell 0).trans rfl
          have p2 := fun p : Past wr => ((HB2.out.below_ p.h).cell 1).trans rfl
          by_cases hq0 : Q = []
          · have hov := HQF.out.over hq0 a b (by rw [HYL.out]; exact HL.out)
            have d0 : ((Q.length : Int) == 0) = true := by rw [hq0]; rfl
            have hab : IntKind.i64.wrap (a + b) = a + b := by rw [IntKind.wrap_i64]; omega
            clear hq0
            go_wp2_with fail
            refine wp_region_quiet_past (by kernel_rfl) (by kernel_rfl) ?_
            repeat (refine qw_step (fun K_ hK_ => ?_); go_simp; first | (refine hK_ _ ?_; clear hK_ K_) | (apply Exists.intro; refine ⟨fun _ => ?_, hK_ _ ?_⟩; (fail); clear hK_ K_) | (rw [if_pos (by first | assumption | omega)]; first | (refine hK_ _ ?_; clear hK_ K_) | (apply Exists.intro; refine ⟨fun _ => ?_, hK_ _ ?_⟩; (fail); clear hK_ K_)) | (rw [if_neg (by first | assumption | omega)]; first | (refine hK_ _ ?_; clear hK_ K_) | (apply Exists.intro; refine ⟨fun _ => ?_, hK_ _ ?_⟩; (fail); clear hK_ K_)))
            refine qw_nil ?_
            intro WQ hw_
            obtain ⟨p_, hp_⟩ := hw_
            have HQ := p_.h
            rw [← hp_] at HQ
            clear hp_ p_
            have HN := Lib.hid (below_tr (below_tr HG.out.2 HBW.out) HQ)
            clear HQ p1 p2
            go_wp2
            go_ret
            exact ⟨rfl, HN.out⟩
          · clear p1 p2
            have hn2 : 2 ≤ Q.length := by rcases HQF.out.two with h | h; exact absurd h hq0; exact h
            have d0 : ((Q.length : Int) == 0) = false := by simp; omega
            have d2 : (2 : Int) ≤ (Q.length : Int) := by omega
            have d4 : (Q.length : Int) ≤ 4 := by omega
            have HX := Lib.hid (HX.out hq0)
            have hab : ∀ x, 0 ≤ x → x ≤ 192 → IntKind.i64.wrap (sv + x) = sv + x := fun x h1 h2 => by rw [IntKind.wrap_i64]; omega
            have HN := Lib.hid (below_tr HG.out.2 HBW.out)
            have hsv := HT.out.2.1
            by_cases e4 : ((Q.length : Int) == 4) = true
            · go_wp2
              go_ret
              exact ⟨rfl, HN.out⟩
            · have e4f : ((Q.length : Int) == 4) = false := by simpa using e4
              have hn4 : Q.length ≠ 4 := by simp at e4; omega
              by_cases e5 : (xv == 0) = true
              · clear hn4 e4
                go_wp2
                go_ret
                exact ⟨rfl, HN.out⟩
              · have e5f : (xv == 0) = false := by simpa using e5
                have hx2 : ¬ xv = 0 := by simpa using e5
                obtain ⟨i, hi, hni, hxe⟩ := HX.out.some hx2
                have hnx := HQF.out.next hn2 hn4 i (by rw [HYL.out]; exact hi) hni
                rw [← hsv, ← hxe] at hnx
                have hvb := HV.out i hi
                rw [← hxe] at hvb
                have hww := hab xv (by omega) (by omega)
                clear hab hvb hxe hni hx2 hn4 e4 e5 hsv
                go_wp2
                go_ret
                exact ⟨rfl, HN.out⟩
      #print axioms room_walk
      end Go.Proofs.Ytdjfkehbknbocaa

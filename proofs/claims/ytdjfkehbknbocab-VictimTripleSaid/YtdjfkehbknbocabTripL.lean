/- The walk of VictimTriple. -/
import Derived.Test.YtdjfkehbknbocabTripP
import Derived.Test.YtdjfkehbknbocabVictX
namespace Go.Proofs.Ytdjfkehbknbocab
open Go.RowKit
set_option linter.unusedSimpArgs false
set_option linter.unusedVariables false

set_option maxRecDepth 100000 in
set_option maxHeartbeats 40000000 in
theorem triple_walk (lines : Int) (A : Option Addr) (n c : Nat) (xs : List Us) (w : World) (hlb : -9223372036854775808 ≤ lines ∧ lines ≤ 9223372036854775807) (hA : Sl eUs 3 w A n xs)
    (hbd : ∀ x ∈ xs, (-9223372036854775808 ≤ x.mode ∧ x.mode ≤ 9223372036854775807) ∧ -9223372036854775808 ≤ x.valid ∧ x.valid ≤ 9223372036854775807) :
    Calls Try.prog 3 #[.int .i64 lines, .slice A n c] w fun e w' => e = .returned (.bool true) ∧ Below w.heap.size w w' := by
  have hbe := fun W => below17_any lines 64 hlb (by omega) (by omega) W
  have m1 : 0 ≤ lines % 64 := Int.emod_nonneg _ (by omega)
  have m2 : lines % 64 < 64 := Int.emod_lt_of_pos _ (by omega)
  generalize lines % 64 = L0 at hbe m1 m2
  obtain ⟨La, hLa⟩ : ∃ La, 1 + L0 = La := ⟨_, rfl⟩
  have l1 : 1 ≤ La := by omega
  have l64 : La ≤ 64 := by omega
  have HA := Lib.hid hA
  clear hA
  have HBD := Lib.hid hbd
  clear hbd
  have HBE := Lib.hid hbe
  clear hbe
  go_enter Try.func3, Try.ntmps3
  go_wp2_with fail
  refine (works24 _).mono ?_
  rintro e w0 ⟨rfl, hb0⟩
  have HB0 := Lib.hid hb0
  clear hb0
  go_wp2_with fail
  refine (HBE.out _).mono ?_
  rintro e w0' ⟨rfl, rfl⟩
  go_wp2_with fail
  have hLaw : IntKind.i64.wrap La = La := by rw [IntKind.wrap_i64]; omega
  clear hLa m1 m2
  refine (own24_any La A n c xs _ l1 l64 (HA.out.below HB0.out) HBD.out).mono ?_
  rintro e w1 ⟨A1, N, c1, rfl, hown, hb1⟩
  have hw1 := below_tr HB0.out hb1
  have hOw := own_ownF l1 xs
  have hyl := ownU_zlen hown
  have hN64 : N ≤ 64 := by rw [← hyl]; simp [ownF]; omega
  obtain ⟨ys, hys⟩ : ∃ ys, ownF La xs = ys := ⟨_, rfl⟩
  rw [hys] at hown hOw hyl
  have hsl := Sl.own (k := 3) (fun _ => rfl) (by omega) hown
  have HSL := Lib.hid hsl
  have HOW := Lib.hid hOw
  have HYL := Lib.hid hyl
  have HW1 := Lib.hid hw1
  clear hown hb1 hw1 hOw hyl hys hsl HB0 HBE hLaw
  go_wp2_with fail
  go_loopw [5, 6, 23] (fun v s i wr => ∃ (k m : Nat) (A' : Option Addr) (c' : Nat), k ≤ N ∧ m ≤ k ∧ i = .int .i64 k ∧ s = .int .i64 m ∧ v = .slice A' k c' ∧ Hid (m = cntS ((ys.take k).map (adjU La)) ∧ wr.ownsRow w1.heap.size 27 3 (.slice A' k c') k (eList eUs ((ys.take k).map (adjU La))) ∧ Below w1.heap.size w1 wr)) (fun _ _ i _ => N - (intOf i).toNat)
  case atStart => exact ⟨0, 0, none, 0, Nat.zero_le _, Nat.le_refl _, rfl, rfl, rfl, rfl, World.ownsRow_nil _ _ _ _, Below.refl _ _⟩
  case round =>
    obtain ⟨k, m, A', c', hk, hmk, rfl, rfl, rfl, H⟩ := hrel
    by_cases hlt : k < N
    · have hlt' : (k : Int) < (N : Int) := by omega
      obtain ⟨b, off, x, hAe, hb, hx, q0, q1, q2⟩ := (HSL.out.below H.out.2.2).us_ hlt
      have hmx := mayU_bd (HOW.out.may x (List.mem_of_getElem? hx))
      have hcs := cntS_snoc (lines := La) hx
      have hadj : (ys.take (k + 1)).map (adjU La) = (ys.take k).map (adjU La) ++ [adjU La x] := by rw [List.take_add_one, hx]; simp
      rw [← H.out.1] at hcs
      obtain ⟨x0, x1, x2⟩ := x
      simp only at q0 q1 q2 hmx hcs
      obtain ⟨v1, v2, _, _⟩ := hmx
      subst hAe
      by_cases e1 : (x1 == 1) = true
      · have e1' : x1 = 1 := by simpa using e1
        subst e1'
        have e1' : (1 : Int) = 1 := rfl
        rw [if_pos rfl] at hcs
        have r1 : 0 ≤ x2 % La := Int.emod_nonneg _ (by omega)
        have r2 : x2 % La < La := Int.emod_lt_of_pos _ (by omega)
        have hadj2 : adjU La ⟨x0, 1, x2⟩ = ⟨x0, 1, 1 + x2 % La⟩ := by simp [adjU]
        have HCS := Lib.hid hcs
        have HADJ := Lib.hid (show (ys.take (k + 1)).map (adjU La) = (ys.take k).map (adjU La) ++ [⟨x0, 1, 1 + x2 % La⟩] by rw [hadj, hadj2])
        have hown1 := H.out.2.1.alloc (.cells #[.int .i64 x0, .int .i64 1, .int .i64 (1 + x2 % La)] 27)
        have hbw := H.out.2.2.alloc H.out.2.2.size (.cells #[.int .i64 x0, .int .i64 1, .int .i64 (1 + x2 % La)] 27)
        have HO := Lib.hid (And.intro hown1 hbw)
        have HSZ := Lib.hid H.out.2.2.size
        clear hx hcs hadj hadj2 e1' hb e1 hown1 hbw H
        go_wp2_with (first | (at_builtin; refine wpList_app rfl (.tmp 38) (.tmp 40) 22 rfl Try.underlying22 info_use rfl (by omega) (by omega) rfl (HO.out.1.alloc _) rfl (Blk.new1 wr _ _ _) rfl (by simp [Value.oneCell']) (by omega) (by have := HSZ.out; rw [World.size_alloc, World.size_alloc]; omega) ?_; intro g cap w2 hown2 hg hor hlt2))
        have hbe := (HO.out.2.alloc HO.out.2.size (.cells #[.int .i64 x0, .int .i64 1, .int .i64 (1 + x2 % La)] 27)).grown hg (by have := HSZ.out; rw [World.size_alloc, World.size_alloc]; omega) (own_base HO.out.1)
        have HE := Lib.hid (show w2.ownsRow w1.heap.size 27 3 (.slice (some ⟨g, 0, none⟩) (k + 1) cap) (k + 1) (eList eUs ((ys.take (k + 1)).map (adjU La))) ∧ Below w1.heap.size w1 w2 from ⟨by rw [HADJ.out, eList_snoc]; exact hown2, hbe⟩)
        clear hown2 hg hor hlt2 hbe
        go_wp2
        go_roundw
        case rel => exact ⟨k + 1, m + 1, some ⟨g, 0, none⟩, cap, by omega, by omega, by go_num, by go_num, rfl, HCS.out.symm, HE.out⟩
        case measure => simp [intOf]; omega
      · have e1' : ¬ x1 = 1 := by simpa using e1
        have e1f : (x1 == 1) = false := by simpa using e1
        rw [if_neg e1'] at hcs
        have hadj2 : adjU La ⟨x0, x1, x2⟩ = ⟨x0, x1, x2⟩ := by simp [adjU, e1']
        have HCS := Lib.hid hcs
        have HADJ := Lib.hid (show (ys.take (k + 1)).map (adjU La) = (ys.take k).map (adjU La) ++ [⟨x0, x1, x2⟩] by rw [hadj, hadj2])
        have hown1 := H.out.2.1.alloc (.cells #[.int .i64 x0, .int .i64 x1, .int .i64 x2] 27)
        have hbw := H.out.2.2.alloc H.out.2.2.size (.cells #[.int .i64 x0, .int .i64 x1, .int .i64 x2] 27)
        have HO := Lib.hid (And.intro hown1 hbw)
        have HSZ := Lib.hid H.out.2.2.size
        clear hx hcs hadj hadj2 e1' hb hown1 hbw H e1
        go_wp2_with (first | (at_builtin; refine wpList_app rfl (.tmp 38) (.tmp 40) 22 rfl Try.underlying22 info_use rfl (by omega) (by omega) rfl (HO.out.1.alloc _) rfl (Blk.new1 wr _ _ _) rfl (by simp [Value.oneCell']) (by omega) (by have := HSZ.out; rw [World.size_alloc, World.size_alloc]; omega) ?_; intro g cap w2 hown2 hg hor hlt2))
        have hbe := (HO.out.2.alloc HO.out.2.size (.cells #[.int .i64 x0, .int .i64 x1, .int .i64 x2] 27)).grown hg (by have := HSZ.out; rw [World.size_alloc, World.size_alloc]; omega) (own_base HO.out.1)
        have HE := Lib.hid (show w2.ownsRow w1.heap.size 27 3 (.slice (some ⟨g, 0, none⟩) (k + 1) cap) (k + 1) (eList eUs ((ys.take (k + 1)).map (adjU La))) ∧ Below w1.heap.size w1 w2 from ⟨by rw [HADJ.out, eList_snoc]; exact hown2, hbe⟩)
        clear hown2 hg hor hlt2 hbe
        go_wp2
        go_roundw
        case rel => exact ⟨k + 1, m, some ⟨g, 0, none⟩, cap, by omega, by omega, by go_num, rfl, rfl, HCS.out.symm, HE.out⟩
        case measure => simp [intOf]; omega
    · have hkN : k = N := by omega
      have htk : ys.take k = ys := List.take_of_length_le (by have := HYL.out; omega)
      have hm := H.out.1
      have hown := H.out.2.1
      have hb1 := H.out.2.2
      rw [htk] at hm hown
      have hOz := adj_own l1 HOW.out
      have hzv : ∀ u ∈ ys.map (adjU La), u.mode = 1 → u.valid ≤ La := fun u hu hmode => by
        obtain ⟨x, hx, rfl⟩ := List.mem_map.1 hu
        unfold adjU at hmode ⊢
        split
        · have := Int.emod_lt_of_pos x.valid (show 0 < La by omega)
          simp only
          omega
        · rename_i h
          rw [if_neg h] at hmode
          exact absurd hmode h
      obtain ⟨zs, hzs⟩ : ∃ zs, ys.map (adjU La) = zs := ⟨_, rfl⟩
      rw [hzs] at hm hown hOz hzv
      have hzl := ownU_zlen hown
      have hslz := Sl.own (k := 3) (fun _ => rfl) (by omega) hown
      have htr := triple_any La A' k c' zs wr (by omega) l64 hslz (fun x hx => by have := mayU_bd (hOz.may x hx); omega)
      have hbw := HW1.out.trans (hb1.mono HW1.out.size)
      have HTR := Lib.hid htr
      have HZ := Lib.hid (And.intro hOz (And.intro hzv (And.intro hm (And.intro hzl (And.intro hslz hbw)))))
      have hlt' : ¬ (k : Int) < (N : Int) := by omega
      obtain ⟨wo, rfl⟩ : ∃ wo : World, wo = wr := ⟨_, rfl⟩
      subst hkN
      clear htk hm hown hb1 hOz hzv hzs hslz htr hbw H hzl
      go_wp2_with fail
      refine HTR.out.mono ?_
      rintro e w3 ⟨A3, n3, c3, M, hR, rfl, hown3, hb3⟩
      have hbw3 := below_tr HZ.out.2.2.2.2.2 hb3
      have hsl3 := HZ.out.2.2.2.2.1.below hb3
      by_cases h3 : m < 3
      · have h3' : (m : Int) < 3 := by omega
        have ht := trip_none HZ.out.1 hR (by rw [← HZ.out.2.2.1]; exact h3)
        rw [ht] at hown3
        have hn3 : n3 = 0 := by have := hown3.1; simpa [eList] using this.symm
        subst hn3
        have HW3 := Lib.hid hbw3
        clear ht hown3 hbw3 hsl3 hb3 hR HTR h3
        go_wp2
        go_ret
        exact ⟨rfl, HW3.out⟩
      · have h3' : ¬ (m : Int) < 3 := by omega
        obtain ⟨a, b, cc, ht⟩ := three_of HZ.out.1 HZ.out.2.1 hR (by rw [← HZ.out.2.2.1]; omega)
        rw [ht.out] at hown3
        have hn3 : n3 = 3 := by have := hown3.1; simpa [eList, eInt] using this.symm
        subst hn3
        have hg3 := Sl.own (k := 1) (fun _ => rfl) (by omega) hown3
        have HT := Lib.hid ht
        have HG := Lib.hid (And.intro hg3 (And.intro hsl3 hbw3))
        clear ht hown3 hbw3 hsl3 hb3 hR HTR hg3 h3
        have hzl : Hid (zs.length = k) := HZ.out.2.2.2.1
        have hcell : ∀ W, Below w3.heap.size w3 W → ∀ g, g < k → ∃ b3 o3, A' = some ⟨b3, o3, none⟩ ∧ b3 < W.heap.size ∧ W.cell? ⟨b3, o3 + g * 3, none⟩ = some (.int .i64 (uOf zs g).block) ∧ W.cell? ⟨b3, o3 + g * 3 + 1, none⟩ = some (.int .i64 (uOf zs g).mode) ∧ W.cell? ⟨b3, o3 + g * 3 + 2, none⟩ = some (.int .i64 (uOf zs g).valid) := fun W hW g hg => by
          obtain ⟨b3, o3, x, e, hb, hx, q0, q1, q2⟩ := (HG.out.2.1.below hW).us_ hg
          rw [uOf_get hx]
          exact ⟨b3, o3, e, hb, q0, q1, q2⟩
        have hgc : ∀ W, Below w3.heap.size w3 W → ∃ b4 o4, A3 = some ⟨b4, o4, none⟩ ∧ b4 < W.heap.size ∧ W.cell? ⟨b4, o4, none⟩ = some (.int .i64 a) ∧ W.cell? ⟨b4, o4 + 1, none⟩ = some (.int .i64 b) ∧ W.cell? ⟨b4, o4 + 2, none⟩ = some (.int .i64 cc) := fun W hW => by
          obtain ⟨b4, o4, e, hb, hc⟩ := (HG.out.1.below hW).2.2 (by omega)
          have c0 := hc 0 (a : Int) rfl 0 _ rfl
          have c1 := hc 1 (b : Int) rfl 0 _ rfl
          have c2 := hc 2 (cc : Int) rfl 0 _ rfl
          exact ⟨b4, o4, e, hb, by simpa using c0, by simpa using c1, by simpa using c2⟩
        obtain ⟨b4, o4, hA3, hb4, _, _, _⟩ := hgc w3 (Below.refl _ _)
        subst hA3
        have hk3 : a < k := by rw [← hzl.out]; exact HT.out.la
        obtain ⟨b3, o3, hA', hb3', _, _, _⟩ := hcell w3 (Below.refl _ _) a hk3
        subst hA'
        have hcell2 : ∀ W, Below w3.heap.size w3 W → ∀ g, g < k → W.cell? ⟨b3, o3 + g * 3, none⟩ = some (.int .i64 (uOf zs g).block) ∧ W.cell? ⟨b3, o3 + g * 3 + 1, none⟩ = some (.int .i64 (uOf zs g).mode) ∧ W.cell? ⟨b3, o3 + g * 3 + 2, none⟩ = some (.int .i64 (uOf zs g).valid) := fun W hW g hg => by
          obtain ⟨b3', o3', e, _, h⟩ := hcell W hW g hg
          injection e with e
          injection e with e1 e2 _
          subst e1 e2
          exact h
        have hgc2 : ∀ W, Below w3.heap.size w3 W → W.cell? ⟨b4, o4, none⟩ = some (.int .i64 a) ∧ W.cell? ⟨b4, o4 + 1, none⟩ = some (.int .i64 b) ∧ W.cell? ⟨b4, o4 + 2, none⟩ = some (.int .i64 cc) := fun W hW => by
          obtain ⟨b4', o4', e, _, h⟩ := hgc W hW
          injection e with e
          injection e with e1 e2 _
          subst e1 e2
          exact h
        have HC := Lib.hid hcell2
        have HGC := Lib.hid hgc2
        clear hcell hgc hcell2 hgc2
        go_wp2_with fail
        go_loopw [56] (fun j wr => ∃ q : Nat, q ≤ 3 ∧ j = .int .i64 q ∧ Hid (Below w3.heap.size w3 wr)) (fun j _ => 3 - (intOf j).toNat)
        case atStart => exact ⟨0, by omega, rfl, Below.refl _ _⟩
        case round =>
          obtain ⟨q, hq, rfl, HB⟩ := hrel
          obtain ⟨g0, g1, g2⟩ := HGC.out wr HB.out
          by_cases hq3 : q < 3
          · obtain ⟨g, hg, hgq⟩ : ∃ g : Nat, (g = a ∨ g = b ∨ g = cc) ∧ wr.cell? ⟨b4, o4 + q, none⟩ = some (.int .i64 g) := by
              match q, hq3 with
              | 0, _ => exact ⟨a, .inl rfl, by simpa using g0⟩
              | 1, _ => exact ⟨b, .inr (.inl rfl), g1⟩
              | 2, _ => exact ⟨cc, .inr (.inr rfl), g2⟩
            have hgk : g < k ∧ (uOf zs g).mode = 1 := by
              rw [← hzl.out]
              rcases hg with rfl | rfl | rfl
              · exact ⟨HT.out.la, HT.out.ma⟩
              · exact ⟨HT.out.lb, HT.out.mb⟩
              · exact ⟨HT.out.lc, HT.out.mc⟩
            obtain ⟨hgk, hgm⟩ := hgk
            obtain ⟨_, z1, _⟩ := HC.out wr HB.out g hgk
            rw [hgm] at z1
            have n1 : ¬ (g : Int) < 0 := by omega
            have n2 : ¬ (k : Int) ≤ (g : Int) := by omega
            have hq3' : (q : Int) < 3 := by omega
            have HGG := Lib.hid hg
            obtain ⟨wp, rfl⟩ : ∃ wp : World, wp = wr := ⟨_, rfl⟩
            clear hg hgm g0 g1 g2
            go_wp2_with fail
            clear hgq z1
            go_loopw [78] (fun j wr => ∃ i : Nat, i ≤ k ∧ j = .int .i64 i ∧ Hid (Below w3.heap.size w3 wr)) (fun j _ => k - (intOf j).toNat)
            case atStart => exact ⟨0, by omega, rfl, HB.out⟩
            case round =>
              clear HB
              obtain ⟨i, hi, rfl, HB⟩ := hrel
              by_cases hik : i < k
              · have hik' : (i : Int) < (k : Int) := by omega
                obtain ⟨u0, u1, u2⟩ := HC.out wr HB.out i hik
                have hfew := HT.out.few i g (by rw [hzl.out]; exact hik)
                obtain ⟨U, hU⟩ : ∃ U, uOf zs i = U := ⟨_, rfl⟩
                rw [hU] at u0 u1 u2 hfew
                obtain ⟨y0, y1, y2⟩ := U
                simp only at u0 u1 u2 hfew
                obtain ⟨V, hV⟩ : ∃ V, (uOf zs g).valid = V := ⟨_, rfl⟩
                rw [hV] at hfew
                have hfew := fun h1 h2 => hfew h1 HGG.out h2
                have hb5 := HB.out.alloc HB.out.size (.cells #[.int .i64 y0, .int .i64 y1, .int .i64 y2] 27)
                have kx := Blk.new wr 27 #[.int .i64 y0, .int .i64 y1, .int .i64 y2]
                have hpast : ∀ p : Past (wr.alloc (.cells #[.int .i64 y0, .int .i64 y1, .int .i64 y2] 27)), (p.w.cell? ⟨wr.heap.size, 1, none⟩ = some (.int .i64 y1) ∧ p.w.cell? ⟨wr.heap.size, 2, none⟩ = some (.int .i64 y2)) ∧ p.w.cell? ⟨b3, o3 + g * 3 + 2, none⟩ = some (.int .i64 V) ∧ (p.w.cell? ⟨b4, o4, none⟩ = some (.int .i64 a) ∧ p.w.cell? ⟨b4, o4 + 1, none⟩ = some (.int .i64 b) ∧ p.w.cell? ⟨b4, o4 + 2, none⟩ = some (.int .i64 cc)) := fun p => by
                  have hbp := hb5.trans (p.h.mono hb5.size)
                  refine ⟨⟨((kx.below_ p.h).cell 1).trans rfl, ((kx.below_ p.h).cell 2).trans rfl⟩, ?_, HGC.out p.w hbp⟩
                  have := (HC.out p.w hbp g hgk).2.2
                  rwa [hV] at this
                have p1 := fun p => (hpast p).1.1
                have p2 := fun p => (hpast p).1.2
                have p3 := fun p => (hpast p).2.1
                have p4 := fun p => (hpast p).2.2.1
                have p5 := fun p => (hpast p).2.2.2.1
                have p6 := fun p => (hpast p).2.2.2.2
                have HB5 := Lib.hid hb5
                have HFEW := Lib.hid hfew
                clear hpast hb5 kx hU hV hfew HB
                by_cases e1 : (y1 == 1) = true
                · by_cases e2 : y2 < V
                  · have e1' : y1 = 1 := by simpa using e1
                    have hor : (i = a) ∨ (i ≠ a ∧ i = b) ∨ (i ≠ a ∧ i ≠ b ∧ i = cc) := by have := HFEW.out e1' e2; omega
                    clear e1'
                    rcases hor with h | ⟨h, h'⟩ | ⟨h, h', h''⟩
                    · subst h
                      go_wp2_with fail
                      refine wp_region_quiet_past (by kernel_rfl) (by kernel_rfl) ?_
                      repeat (refine qw_step (fun K_ hK_ => ?_); go_simp; first | (refine hK_ _ ?_; clear hK_ K_) | (apply Exists.intro; refine ⟨fun _ => ?_, hK_ _ ?_⟩; (fail); clear hK_ K_) | (rw [if_pos (by first | assumption | omega)]; first | (refine hK_ _ ?_; clear hK_ K_) | (apply Exists.intro; refine ⟨fun _ => ?_, hK_ _ ?_⟩; (fail); clear hK_ K_)) | (rw [if_neg (by first | assumption | omega)]; first | (refine hK_ _ ?_; clear hK_ K_) | (apply Exists.intro; refine ⟨fun _ => ?_, hK_ _ ?_⟩; (fail); clear hK_ K_)))
                      refine qw_nil ?_
                      intro WQ hw_
                      obtain ⟨p_, hp_⟩ := hw_
                      have HQ := p_.h
                      rw [← hp_] at HQ
                      clear hp_ p_
                      have HN := Lib.hid (HB5.out.trans (HQ.mono HB5.out.size))
                      clear HQ p1 p2 p3 p4 p5 p6
                      go_wp2
                      go_roundw
                      case rel => exact ⟨i + 1, by omega, by go_num, HN.out⟩
                      case measure => simp [intOf]; omega
                    · subst h'
                      have h1 : ((i : Int) != (a : Int)) = true := by simp; omega
                      go_wp2_with fail
                      refine wp_region_quiet_past (by kernel_rfl) (by kernel_rfl) ?_
                      repeat (refine qw_step (fun K_ hK_ => ?_); go_simp; first | (refine hK_ _ ?_; clear hK_ K_) | (apply Exists.intro; refine ⟨fun _ => ?_, hK_ _ ?_⟩; (fail); clear hK_ K_) | (rw [if_pos (by first | assumption | omega)]; first | (refine hK_ _ ?_; clear hK_ K_) | (apply Exists.intro; refine ⟨fun _ => ?_, hK_ _ ?_⟩; (fail); clear hK_ K_)) | (rw [if_neg (by first | assumption | omega)]; first | (refine hK_ _ ?_; clear hK_ K_) | (apply Exists.intro; refine ⟨fun _ => ?_, hK_ _ ?_⟩; (fail); clear hK_ K_)))
                      refine qw_nil ?_
                      intro WQ hw_
                      obtain ⟨p_, hp_⟩ := hw_
                      have HQ := p_.h
                      rw [← hp_] at HQ
                      clear hp_ p_
                      have HN := Lib.hid (HB5.out.trans (HQ.mono HB5.out.size))
                      clear HQ p1 p2 p3 p4 p5 p6
                      go_wp2
                      go_roundw
                      case rel => exact ⟨i + 1, by omega, by go_num, HN.out⟩
                      case measure => simp [intOf]; omega
                    · subst h''
                      have h1 : ((i : Int) != (a : Int)) = true := by simp; omega
                      have h2 : ((i : Int) != (b : Int)) = true := by simp; omega
                      go_wp2_with fail
                      refine wp_region_quiet_past (by kernel_rfl) (by kernel_rfl) ?_
                      repeat (refine qw_step (fun K_ hK_ => ?_); go_simp; first | (refine hK_ _ ?_; clear hK_ K_) | (apply Exists.intro; refine ⟨fun _ => ?_, hK_ _ ?_⟩; (fail); clear hK_ K_) | (rw [if_pos (by first | assumption | omega)]; first | (refine hK_ _ ?_; clear hK_ K_) | (apply Exists.intro; refine ⟨fun _ => ?_, hK_ _ ?_⟩; (fail); clear hK_ K_)) | (rw [if_neg (by first | assumption | omega)]; first | (refine hK_ _ ?_; clear hK_ K_) | (apply Exists.intro; refine ⟨fun _ => ?_, hK_ _ ?_⟩; (fail); clear hK_ K_)))
                      refine qw_nil ?_
                      intro WQ hw_
                      obtain ⟨p_, hp_⟩ := hw_
                      have HQ := p_.h
                      rw [← hp_] at HQ
                      clear hp_ p_
                      have HN := Lib.hid (HB5.out.trans (HQ.mono HB5.out.size))
                      clear HQ p1 p2 p3 p4 p5 p6
                      go_wp2
                      go_roundw
                      case rel => exact ⟨i + 1, by omega, by go_num, HN.out⟩
                      case measure => simp [intOf]; omega
                  · have hd : decide (y2 < V) = false := by simpa using e2
                    go_wp2_with fail
                    refine wp_region_quiet_past (by kernel_rfl) (by kernel_rfl) ?_
                    repeat (refine qw_step (fun K_ hK_ => ?_); go_simp; first | (refine hK_ _ ?_; clear hK_ K_) | (apply Exists.intro; refine ⟨fun _ => ?_, hK_ _ ?_⟩; (fail); clear hK_ K_) | (rw [if_pos (by first | assumption | omega)]; first | (refine hK_ _ ?_; clear hK_ K_) | (apply Exists.intro; refine ⟨fun _ => ?_, hK_ _ ?_⟩; (fail); clear hK_ K_)) | (rw [if_neg (by first | assumption | omega)]; first | (refine hK_ _ ?_; clear hK_ K_) | (apply Exists.intro; refine ⟨fun _ => ?_, hK_ _ ?_⟩; (fail); clear hK_ K_)))
                    refine qw_nil ?_
                    intro WQ hw_
                    obtain ⟨p_, hp_⟩ := hw_
                    have HQ := p_.h
                    rw [← hp_] at HQ
                    clear hp_ p_
                    have HN := Lib.hid (HB5.out.trans (HQ.mono HB5.out.size))
                    clear HQ p1 p2 p3 p4 p5 p6
                    go_wp2
                    go_roundw
                    case rel => exact ⟨i + 1, by omega, by go_num, HN.out⟩
                    case measure => simp [intOf]; omega
                · have e1f : (y1 == 1) = false := by simpa using e1
                  clear e1
                  go_wp2_with fail
                  refine wp_region_quiet_past (by kernel_rfl) (by kernel_rfl) ?_
                  repeat (refine qw_step (fun K_ hK_ => ?_); go_simp; first | (refine hK_ _ ?_; clear hK_ K_) | (apply Exists.intro; refine ⟨fun _ => ?_, hK_ _ ?_⟩; (fail); clear hK_ K_) | (rw [if_pos (by first | assumption | omega)]; first | (refine hK_ _ ?_; clear hK_ K_) | (apply Exists.intro; refine ⟨fun _ => ?_, hK_ _ ?_⟩; (fail); clear hK_ K_)) | (rw [if_neg (by first | assumption | omega)]; first | (refine hK_ _ ?_; clear hK_ K_) | (apply Exists.intro; refine ⟨fun _ => ?_, hK_ _ ?_⟩; (fail); clear hK_ K_)))
                  refine qw_nil ?_
                  intro WQ hw_
                  obtain ⟨p_, hp_⟩ := hw_
                  have HQ := p_.h
                  rw [← hp_] at HQ
                  clear hp_ p_
                  have HN := Lib.hid (HB5.out.trans (HQ.mono HB5.out.size))
                  clear HQ p1 p2 p3 p4 p5 p6
                  go_wp2
                  go_roundw
                  case rel => exact ⟨i + 1, by omega, by go_num, HN.out⟩
                  case measure => simp [intOf]; omega
              · have hik' : ¬ (i : Int) < (k : Int) := by omega
                go_wp2
                go_roundw
                case rel => exact ⟨q + 1, by omega, by go_num, HB.out⟩
                case measure => simp [intOf]; omega
          · have hq3' : ¬ (q : Int) < 3 := by omega
            have n1 : ((a : Int) != (b : Int)) = true := by have := HT.out.ab; simp; omega
            have n2 : ((b : Int) != (cc : Int)) = true := by have := HT.out.bc; simp; omega
            have n3 : ((a : Int) != (cc : Int)) = true := by have := HT.out.ac; simp; omega
            have p4 := fun p : Past wr => (p.h.cell (p := ⟨b4, o4, none⟩) (Nat.lt_of_lt_of_le hb4 HB.out.size)).trans g0
            have p5 := fun p : Past wr => (p.h.cell (p := ⟨b4, o4 + 1, none⟩) (Nat.lt_of_lt_of_le hb4 HB.out.size)).trans g1
            have p6 := fun p : Past wr => (p.h.cell (p := ⟨b4, o4 + 2, none⟩) (Nat.lt_of_lt_of_le hb4 HB.out.size)).trans g2
            clear g0 g1 g2
            go_wp2_with fail
            refine wp_region_quiet_past (by kernel_rfl) (by kernel_rfl) ?_
            repeat (refine qw_step (fun K_ hK_ => ?_); go_simp; first | (refine hK_ _ ?_; clear hK_ K_) | (apply Exists.intro; refine ⟨fun _ => ?_, hK_ _ ?_⟩; (fail); clear hK_ K_) | (rw [if_pos (by first | assumption | omega)]; first | (refine hK_ _ ?_; clear hK_ K_) | (apply Exists.intro; refine ⟨fun _ => ?_, hK_ _ ?_⟩; (fail); clear hK_ K_)) | (rw [if_neg (by first | assumption | omega)]; first | (refine hK_ _ ?_; clear hK_ K_) | (apply Exists.intro; refine ⟨fun _ => ?_, hK_ _ ?_⟩; (fail); clear hK_ K_)))
            refine qw_nil ?_
            intro WQ hw_
            obtain ⟨p_, hp_⟩ := hw_
            have HQ := p_.h
            rw [← hp_] at HQ
            clear hp_ p_
            have HN := Lib.hid (below_tr (below_tr HG.out.2.2 HB.out) HQ)
            clear HQ p4 p5 p6
            go_wp2
            go_ret
            exact ⟨rfl, HN.out⟩
#print axioms triple_walk
end Go.Proofs.Ytdjfkehbknbocab

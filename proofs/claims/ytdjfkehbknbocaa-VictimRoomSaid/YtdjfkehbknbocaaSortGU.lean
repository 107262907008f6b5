/- slices' stable sort at rows of Us, whole: what comes is the places, sorted by the comparison, equal ones by their place. -/
import Derived.Test.YtdjfkehbknbocaaSortFU
import Derived.Test.YtdjfkehbknbocaaSortCU
import Derived.Test.YtdjfkehbknbocaaSortR
namespace Go.Proofs.Ytdjfkehbknbocaa
open Go.RowKit
set_option linter.unusedSimpArgs false
set_option linter.unusedVariables false

theorem symU_any (cf : Us → Us → Int) (hcmp : ∀ u v W, Calls Try.prog 74 #[u.agg, v.agg] W fun e w' => e = .returned (.int .i64 (cf u v)) ∧ Below W.heap.size W w') (hok : CmpOK cf) (A : Option Addr) (n c base : Nat) (x : Nat → Us) (hbig : n ≤ 1000000000) : ∀ (N a m b : Nat) (P L R B : List Nat) (w : World) (hN : L.length + R.length ≤ N) (hA : w.ownsRow base 83 3 (.slice A n c) n (eList eUs ((P ++ (L ++ (R ++ B))).map x))) (hP : P.length = a) (hL : a + L.length = m) (hR : m + R.length = b) (hL0 : 0 < L.length) (hR0 : 0 < R.length) (hord : ∀ u ∈ L, ∀ v ∈ R, u < v) (hSL : Srt cf x L) (hSR : Srt cf x R),
    Calls Try.prog 89 #[.slice A n c, .int .i64 a, .int .i64 m, .int .i64 b, .func (.func 74) #[] #[]] w (SymPostU cf A n c base x P L R B w) := by
  intro N
  induction N using Nat.strongRecOn with
  | ind N ih =>
    intro a m b P L R B w hN hA hP hL hR hL0 hR0 hord hSL hSR
    by_cases hL1 : L.length = 1
    · obtain ⟨l, rfl⟩ := List.length_eq_one_iff.1 hL1
      refine (symAU_any cf hcmp hok A n c base a m b x P R B l w hbig (by simpa using hA) hP (by simpa using hL) hR (fun v hv => hord l (by simp) v hv)).mono ?_
      rintro e w1 ⟨hv, q, hq, h1, h2, h3, h4⟩
      exact ⟨hv, _, perm_ins R l q, srt_ins hok hSR hq (fun u h0 hu => h1 u h0 hu) h2, by simpa using h3, h4⟩
    · by_cases hR1 : R.length = 1
      · obtain ⟨r, rfl⟩ := List.length_eq_one_iff.1 hR1
        refine (symBU_any cf hcmp hok A n c base a m b x P L B r w hbig (by simpa using hA) hP hL hL1 (by simpa using hR) (fun v hv => hord v hv r (by simp))).mono ?_
        rintro e w1 ⟨hv, q, hq, h1, h2, h3, h4⟩
        exact ⟨hv, _, perm_ins' L r q, srt_ins hok hSL hq (fun u h0 hu => h1 u h0 hu) h2, by simpa using h3, h4⟩
      · exact symCU_any cf hcmp hok A n c base x hbig N (fun a m b P L R B w hlt h1 h2 h3 h4 h5 h6 h7 h8 h9 => ih (L.length + R.length) hlt a m b P L R B w (Nat.le_refl _) h1 h2 h3 h4 h5 h6 h7 h8 h9)
          a m b P L R B w hN hA hP hL hR hL0 hR0 hord hSL hSR hL1 hR1
set_option maxRecDepth 100000 in
set_option maxHeartbeats 40000000 in
theorem stableU_any (cf : Us → Us → Int) (hcmp : ∀ u v W, Calls Try.prog 74 #[u.agg, v.agg] W fun e w' => e = .returned (.int .i64 (cf u v)) ∧ Below W.heap.size W w') (hok : CmpOK cf) (A : Option Addr) (n c base : Nat) (x : Nat → Us) (hbig : n ≤ 1000000000) (w : World) (hA : w.ownsRow base 83 3 (.slice A n c) n (eList eUs ((List.range' 0 n).map x))) :
    Calls Try.prog 86 #[.slice A n c, .int .i64 n, .func (.func 74) #[] #[]] w fun e w' => (∃ v, e = .returned v) ∧ ∃ M, M.Perm (List.range' 0 n) ∧ Srt cf x M ∧ w'.ownsRow base 83 3 (.slice A n c) n (eList eUs ((M).map x)) ∧ w.grownBy w' (Value.slice A n c).ownBlock := by
  have INS := Lib.hid (insertU_any cf hcmp hok A n c base)
  have SYM := Lib.hid (symU_any cf hcmp hok A n c base x hbig)
  have HA := Lib.hid hA
  clear hA
  clear hcmp
  go_enter Try.func86, Try.ntmps86
  go_wp2_with fail
  go_loopw [7, 8] (fun u v wr => ∃ a : Nat, a ≤ n ∧ u = .int .i64 a ∧ v = .int .i64 ((a : Int) + 20) ∧ Hid (∃ Q, Full cf x 20 0 a Q ∧ wr.ownsRow base 83 3 (.slice A n c) n (eList eUs ((Q ++ (List.range' a (n - a))).map x)) ∧ w.grownBy wr (Value.slice A n c).ownBlock)) (fun u _ _ => n - (intOf u).toNat)
  case atStart => exact ⟨0, Nat.zero_le _, rfl, rfl, [], Full.nil 0, by simpa using HA.out, grown_of_below (Below.refl _ _) _⟩
  case round =>
    clear HA
    obtain ⟨a, ha, rfl, rfl, H⟩ := hrel
    by_cases hlt : a + 20 ≤ n
    · have hlt' : (a : Int) + 20 ≤ (n : Int) := by omega
      obtain ⟨Q, hQ, hown, hgr⟩ := H.out
      have hQl := hQ.len
      have e : n - a = 20 + (n - (a + 20)) := by omega
      rw [e, range_split] at hown
      have hins := INS.out a (a + 20) x Q (List.range' a 20) (List.range' (a + 20) (n - (a + 20))) wr hbig hown (by omega) (by simp) (range_inc _ _)
      have HINS := Lib.hid hins
      have HQ := Lib.hid (And.intro hQ hgr)
      clear hins H hQ hown hgr e
      go_wp2_with fail
      refine HINS.out.mono ?_
      rintro e w2 ⟨⟨v, rfl⟩, M, hM, hS, hown, hgr⟩
      have HE := Lib.hid (And.intro (HQ.out.1.snoc hM hS) (And.intro hown (grown_tr HQ.out.2 hgr)))
      clear hM hS hown hgr HINS
      go_wp2
      go_roundw
      case rel => exact ⟨a + 20, hlt, by go_num, by go_num, Q ++ M, HE.out.1, by simpa using HE.out.2.1, HE.out.2.2⟩
      case measure => simp [intOf]; omega
    · have hlt' : ¬ (a : Int) + 20 ≤ (n : Int) := by omega
      obtain ⟨Q, hQ, hown, hgr⟩ := H.out
      have hQl := hQ.len
      have hins := INS.out a n x Q (List.range' a (n - a)) [] wr hbig (by simpa using hown) (by omega) (by simp; omega) (range_inc _ _)
      have HINS := Lib.hid hins
      have HQ := Lib.hid (And.intro hQ hgr)
      obtain ⟨wo, rfl⟩ : ∃ wo : World, wo = wr := ⟨_, rfl⟩
      clear hins H hQ hown hgr
      go_wp2_with fail
      refine HINS.out.mono ?_
      rintro e w2 ⟨⟨v, rfl⟩, M, hM, hS, hown, hgr⟩
      have HE := Lib.hid (And.intro (HQ.out.1.app ha (Runs.of_short (n := n) (show n < a + 20 by omega) ha hM hS)) (And.intro hown (grown_tr HQ.out.2 hgr)))
      clear hM hS hown hgr HINS
      go_wp2_with fail
      go_loopw [6] (fun u wr => ∃ s : Nat, 20 ≤ s ∧ u = .int .i64 s ∧ Hid (∃ Q, Runs cf x s n 0 Q ∧ wr.ownsRow base 83 3 (.slice A n c) n (eList eUs ((Q).map x)) ∧ w.grownBy wr (Value.slice A n c).ownBlock)) (fun u _ => n - (intOf u).toNat)
      case atStart => exact ⟨20, Nat.le_refl _, rfl, Q ++ M, HE.out.1, by simpa using HE.out.2.1, HE.out.2.2⟩
      case round =>
        clear HE
        obtain ⟨s, hs, rfl, H⟩ := hrel
        by_cases hlt : s < n
        · have hlt2 : (s : Int) < (n : Int) := by omega
          obtain ⟨wo, rfl⟩ : ∃ wo : World, wo = wr := ⟨_, rfl⟩
          go_wp2_with fail
          go_loopw [7, 8] (fun u v wr => ∃ a : Nat, a ≤ n ∧ u = .int .i64 a ∧ v = .int .i64 ((a : Int) + 2 * (s : Int)) ∧ Hid (∃ Q R, Full cf x (2 * s) 0 a Q ∧ Runs cf x s n a R ∧ wr.ownsRow base 83 3 (.slice A n c) n (eList eUs ((Q ++ R).map x)) ∧ w.grownBy wr (Value.slice A n c).ownBlock)) (fun u _ _ => n - (intOf u).toNat)
          case atStart =>
            obtain ⟨R, h1, h2, h3⟩ := H.out
            exact ⟨0, Nat.zero_le _, rfl, by simp, [], R, Full.nil 0, h1, by simpa using h2, h3⟩
          case round =>
            clear H
            obtain ⟨a, ha, rfl, rfl, H⟩ := hrel
            obtain ⟨Q, R, hQ, hR, hown, hgr⟩ := H.out
            have hQl := hQ.len
            by_cases hlt3 : a + 2 * s ≤ n
            · have hlt4 : (a : Int) + 2 * (s : Int) ≤ (n : Int) := by omega
              obtain ⟨M1, R1, rfl, p1, s1, hR1⟩ := hR.take (by omega) (by omega)
              obtain ⟨M2, R2, rfl, p2, s2, hR2⟩ := hR1.take (by omega) (by omega)
              have l1 := p1.length_eq
              have l2 := p2.length_eq
              simp only [List.length_range'] at l1 l2
              have hsym := SYM.out _ a (a + s) (a + 2 * s) Q M1 M2 R2 wr (Nat.le_refl _) hown (by omega) (by omega) (by omega) (by omega) (by omega) (run_lt p1 p2) s1 s2
              simp only [Int.natCast_add, Int.natCast_mul, Int.cast_ofNat_Int] at hsym
              have hR2' : Runs cf x s n (a + 2 * s) R2 := by rw [show a + 2 * s = a + s + s by omega]; exact hR2
              have HSYM := Lib.hid hsym
              have HQ := Lib.hid (And.intro hQ (And.intro hR2' (And.intro hgr (And.intro p1 p2))))
              clear hsym H hQ hR hR1 hR2 hR2' hown hgr p1 p2 s1 s2 l1 l2
              go_wp2_with fail
              refine HSYM.out.mono ?_
              rintro e w3 ⟨⟨v, rfl⟩, M, hM, hS, hown, hgr⟩
              have hM' : M.Perm (List.range' a (2 * s)) := by
                have := perm_run hM HQ.out.2.2.2.1 HQ.out.2.2.2.2
                rwa [show s + s = 2 * s by omega] at this
              have HE := Lib.hid (And.intro (HQ.out.1.snoc hM' hS) (And.intro HQ.out.2.1 (And.intro hown (grown_tr HQ.out.2.2.1 hgr))))
              clear hM hM' hS hown hgr HSYM
              go_wp2
              go_roundw
              case rel => exact ⟨a + 2 * s, hlt3, by go_num, by go_num, Q ++ M, R2, HE.out.1, HE.out.2.1, by simpa using HE.out.2.2.1, HE.out.2.2.2⟩
              case measure => simp [intOf]; omega
            · have hlt4 : ¬ (a : Int) + 2 * (s : Int) ≤ (n : Int) := by omega
              by_cases hm : a + s < n
              · have hm2 : (a : Int) + (s : Int) < (n : Int) := by omega
                obtain ⟨M1, R1, rfl, p1, s1, hR1⟩ := hR.take (by omega) (by omega)
                obtain ⟨p2, s2⟩ := hR1.short (by omega)
                have l1 := p1.length_eq
                have l2 := p2.length_eq
                simp only [List.length_range'] at l1 l2
                have hsym := SYM.out _ a (a + s) n Q M1 R1 [] wr (Nat.le_refl _) (by simpa using hown) (by omega) (by omega) (by omega) (by omega) (by omega) (run_lt p1 p2) s1 s2
                simp only [Int.natCast_add] at hsym
                have HSYM := Lib.hid hsym
                have HQ := Lib.hid (And.intro hQ (And.intro hgr (And.intro p1 p2)))
                clear hsym H hQ hR hR1 hown hgr p1 p2 s1 s2 l1 l2
                go_wp2_with fail
                refine HSYM.out.mono ?_
                rintro e w3 ⟨⟨v, rfl⟩, M, hM, hS, hown, hgr⟩
                have hM' : M.Perm (List.range' a (n - a)) := by
                  have := perm_run hM HQ.out.2.2.1 HQ.out.2.2.2
                  rwa [show s + (n - (a + s)) = n - a by omega] at this
                have HE := Lib.hid (And.intro (HQ.out.1.app ha (Runs.of_short (n := n) (show n < a + 2 * s by omega) ha hM' hS)) (And.intro hown (grown_tr HQ.out.2.1 hgr)))
                clear hM hM' hS hown hgr HSYM
                go_wp2
                go_roundw
                case rel => exact ⟨2 * s, by omega, by go_num, Q ++ M, HE.out.1, by simpa using HE.out.2.1, HE.out.2.2⟩
                case measure => simp [intOf]; omega
              · have hm2 : ¬ (a : Int) + (s : Int) < (n : Int) := by omega
                obtain ⟨p2, s2⟩ : R.Perm (List.range' a (n - a)) ∧ Srt cf x R := by
                  rcases Nat.lt_or_ge n (a + s) with h | h
                  · exact hR.short h
                  · obtain ⟨M1, R1, rfl, p1, s1, hR1⟩ := hR.take h (by omega)
                    have l1 := hR1.len
                    have : R1 = [] := List.length_eq_zero_iff.1 (by omega)
                    subst this
                    rw [List.append_nil, show n - a = s by omega]
                    exact ⟨p1, s1⟩
                have HE := Lib.hid (And.intro (hQ.app ha (Runs.of_short (n := n) (show n < a + 2 * s by omega) ha p2 s2)) (And.intro hown hgr))
                clear H hQ hR hown hgr p2 s2
                go_wp2
                go_roundw
                case rel => exact ⟨2 * s, by omega, by go_num, Q ++ R, HE.out.1, by simpa using HE.out.2.1, HE.out.2.2⟩
                case measure => simp [intOf]; omega
        · have hlt2 : ¬ (s : Int) < (n : Int) := by omega
          go_wp2
          go_end0
          obtain ⟨Q, hQ, hown, hgr⟩ := H.out
          by_cases h : n < 0 + s
          · obtain ⟨p, hs2⟩ := hQ.short h
            exact ⟨⟨_, rfl⟩, Q, by simpa using p, hs2, hown, hgr⟩
          · obtain ⟨M1, R1, rfl, p1, s1, hR1⟩ := hQ.take (by omega) (by omega)
            have l1 := hR1.len
            have : R1 = [] := List.length_eq_zero_iff.1 (by omega)
            subst this
            have : s = n := by omega
            subst this
            exact ⟨⟨_, rfl⟩, M1, p1, s1, by simpa using hown, hgr⟩
set_option maxRecDepth 100000 in
set_option maxHeartbeats 4000000 in
theorem sortStableU_any (cf : Us → Us → Int) (hcmp : ∀ u v W, Calls Try.prog 74 #[u.agg, v.agg] W fun e w' => e = .returned (.int .i64 (cf u v)) ∧ Below W.heap.size W w') (hok : CmpOK cf) (A : Option Addr) (n c base : Nat) (x : Nat → Us) (hbig : n ≤ 1000000000) (w : World) (hA : w.ownsRow base 83 3 (.slice A n c) n (eList eUs ((List.range' 0 n).map x))) :
    Calls Try.prog 73 #[.slice A n c, .func (.func 74) #[] #[]] w fun e w' => (∃ v, e = .returned v) ∧ ∃ M, M.Perm (List.range' 0 n) ∧ Srt cf x M ∧ w'.ownsRow base 83 3 (.slice A n c) n (eList eUs ((M).map x)) ∧ w.grownBy w' (Value.slice A n c).ownBlock := by
  have HS := Lib.hid (stableU_any cf hcmp hok A n c base x hbig w hA)
  clear hcmp hA
  go_enter Try.func73, Try.ntmps73
  go_wp2_with fail
  refine HS.out.mono ?_
  rintro e w2 ⟨⟨v, rfl⟩, M, hM⟩
  have HM := Lib.hid hM
  clear hM HS
  go_wp2
  go_end0
  exact ⟨⟨_, rfl⟩, M, HM.out⟩
end Go.Proofs.Ytdjfkehbknbocaa

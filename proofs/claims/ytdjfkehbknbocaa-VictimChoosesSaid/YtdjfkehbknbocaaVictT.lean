/- The walks of chapter 24's reference's Triple and Gather. -/
import Derived.Test.YtdjfkehbknbocaaVictS
namespace Go.Proofs.Ytdjfkehbknbocaa
open Go.RowKit
set_option linter.unusedSimpArgs false
set_option linter.unusedVariables false

theorem take_filter_snoc {Z : List Us} {k : Nat} {x : Us} (hx : Z[k]? = some x) : (Z.take (k + 1)).filter slcB = (Z.take k).filter slcB ++ if x.mode = 1 then [x] else [] := by
  rw [filterU_snoc slcB hx]
  congr 1
  by_cases h : x.mode = 1 <;> simp [slcB, h]
theorem take_split {Z : List Us} {k : Nat} {x : Us} (hx : Z[k]? = some x) : Z = Z.take k ++ (x :: Z.drop (k + 1)) := by
  have hk := (List.getElem?_eq_some_iff.1 hx).1
  have h := List.take_append_drop k Z
  rw [List.drop_eq_getElem_cons hk] at h
  rw [List.getElem?_eq_getElem hk] at hx
  injection hx with hx
  rw [hx] at h
  exact h.symm
def RefTripPost (lines : Int) (Z : List Us) (w : World) (e : Ending) (w' : World) : Prop := ∃ A n c, e = .returned (.slice A n c) ∧ w'.ownsRow w.heap.size 3 1 (.slice A n c) n (eList eInt (tripleF lines (Z.filter slcB))) ∧ Below w.heap.size w w'
set_option maxRecDepth 100000 in
set_option maxHeartbeats 40000000 in
theorem refTriple_any (lines : Int) (A : Option Addr) (n c : Nat) (xs : List Us) (M : List Nat) (w : World) (hn : n ≤ 100000) (hl : lines ≤ 64) (hA : Sl eUs 3 w A n xs) (hbd : ∀ x ∈ xs, x.valid ≤ 9223372036854775807) (hM : RankedBy lines xs M) :
    Calls Try.prog 48 #[.int .i64 lines, .slice A n c] w (RefTripPost lines (zOf lines xs M) w) := by
  have hrk := refRanked_any lines A n c xs M w hn hA hbd hM
  have hmay := zOf_may hM
  have hfl := List.length_filter_le (mayU lines) xs
  have hNl : (zOf lines xs M).length = M.length := by simp [zOf]
  have hN : M.length ≤ n := by have := hM.len; have := hA.len; omega
  obtain ⟨Z, hZ⟩ : ∃ Z, zOf lines xs M = Z := ⟨_, rfl⟩
  unfold RefRankPost at hrk
  rw [hZ] at hrk hmay hNl ⊢
  obtain ⟨N, hNN⟩ : ∃ N, M.length = N := ⟨_, rfl⟩
  rw [hNN] at hrk hNl hN
  have HMAY := Lib.hid hmay
  have HNL := Lib.hid hNl
  have HRK := Lib.hid hrk
  clear hrk
  clear hmay hNl hA hbd hM hfl hZ hNN
  go_enter Try.func48, Try.ntmps48
  go_wp2_with fail
  refine HRK.out.mono ?_
  rintro e w1 ⟨A1, c1, rfl, hown, hb1⟩
  have hsl := Sl.own (k := 3) (fun _ => rfl) (by omega) hown
  have HSL := Lib.hid hsl
  have HB1 := Lib.hid hb1
  have hb1s := hb1.size
  clear hown hb1 hsl HRK
  go_wp2_with fail
  go_loopw [6, 7, 8] (fun v s i wr => ∃ (k m : Nat) (SV : Int) (A' : Option Addr) (c' : Nat), k ≤ N ∧ m ≤ 2 ∧ 0 ≤ SV ∧ SV ≤ 1000 ∧ i = .int .i64 k ∧ s = .int .i64 SV ∧ v = .slice A' m c' ∧ Hid ((((Z.take k).filter slcB).length = m ∧ sumV ((Z.take k).filter slcB) = SV ∧ (m = 2 → SV ≤ 3 * lines)) ∧ wr.ownsRow w1.heap.size 3 1 (.slice A' m c') m (eList eInt (((Z.take k).filter slcB).map Us.block)) ∧ Below w1.heap.size w1 wr)) (fun _ _ i _ => N - (intOf i).toNat)
  case atStart => exact ⟨0, 0, 0, none, 0, Nat.zero_le _, by omega, by omega, by omega, rfl, rfl, rfl, ⟨rfl, rfl, fun h => by cases h⟩, World.ownsRow_nil _ _ _ _, Below.refl _ _⟩
  case round =>
    obtain ⟨k, m, SV, A', c', hk, hm2, hs0, hs1, rfl, rfl, rfl, H⟩ := hrel
    have hnil : ∀ T, tripleF lines (Z.filter slcB) = [] → T = wr → RefTripPost lines Z w (.returned (.slice none 0 0)) T := fun T h hT => ⟨none, 0, 0, rfl, by rw [h]; exact World.ownsRow_nil _ _ _ _, by rw [hT]; exact HB1.out.trans (H.out.2.2.mono hb1s)⟩
    by_cases hlt : k < N
    · have hlt' : (k : Int) < (N : Int) := by omega
      obtain ⟨b, off, x, hAe, hb, hx, p0, p1, p2⟩ := HSL.out.us_ hlt
      have q0 := (H.out.2.2.cell (p := ⟨b, off + k * 3, none⟩) hb).trans p0
      have q1 := (H.out.2.2.cell (p := ⟨b, off + k * 3 + 1, none⟩) hb).trans p1
      have q2 := (H.out.2.2.cell (p := ⟨b, off + k * 3 + 2, none⟩) hb).trans p2
      clear p0 p1 p2
      have hmx := mayU_bd (HMAY.out x (List.mem_of_getElem? hx))
      have htf := take_filter_snoc hx
      have hts := take_split hx
      have hrest : ∀ u ∈ (Z.drop (k + 1)).filter slcB, mayU lines u = true := fun u hu => HMAY.out u (List.mem_of_mem_drop (List.mem_filter.1 hu).1)
      obtain ⟨x0, x1, x2⟩ := x
      simp only at q0 q1 q2 hmx htf
      obtain ⟨v1, v2, v3, _⟩ := hmx
      subst hAe
      have hsz := H.out.2.2.size
      by_cases hmo : x1 = 1
      · subst hmo
        rw [if_pos rfl] at htf
        have hZf : Z.filter slcB = (Z.take k).filter slcB ++ (⟨x0, 1, x2⟩ :: (Z.drop (k + 1)).filter slcB) := by
          have := congrArg (List.filter slcB) hts
          rw [List.filter_append] at this
          rw [this]
          congr 1
        obtain ⟨S, hS⟩ : ∃ S, (Z.take k).filter slcB = S := ⟨_, rfl⟩
        have hH := H.out
        rw [hS] at htf hZf hH
        have hrm := fun W => refRoom_any lines SV x2 hs0 (by omega) (by omega) (by omega) W
        have HTF := Lib.hid htf
        have HZF := Lib.hid hZf
        have HH := Lib.hid hH
        have HR := Lib.hid hrest
        have HNIL := Lib.hid hnil
        clear hx hts hrest hS hH htf hZf H hnil
        by_cases hs : SV + x2 ≤ 3 * lines
        · have hd : decide (SV + x2 ≤ 3 * lines) = true := by simpa using hs
          rw [hd] at hrm
          have HRM := Lib.hid hrm
          clear hd hrm
          have HBL : Hid (∀ (g cap : Nat) (w2 : World), (wr.alloc (.cells #[.int .i64 x0] 3)).grownBy w2 (Value.slice A' m c').ownBlock → Below w1.heap.size w1 w2) := fun g cap w2 hg => (HH.out.2.2.alloc HH.out.2.2.size _).grown hg (by simp; omega) (own_base HH.out.2.1)
          by_cases hm : m = 2
          · subst hm
            have ht3 := trip_three (lines := lines) (S := S) (x := ⟨x0, 1, x2⟩) HH.out.1.1 (by rw [HH.out.1.2.1]; exact hs) ((Z.drop (k + 1)).filter slcB)
            rw [← HZF.out] at ht3
            have HT3 := Lib.hid ht3
            clear ht3
            go_wp2_with fail
            refine (HRM.out _).mono ?_
            rintro e W2 ⟨rfl, rfl⟩
            go_wp2_with (first | (at_builtin; refine wpList_app rfl (.tmp 33) (.tmp 39) 32 rfl Try.underlying32 info_int_v rfl (by omega) (by omega) rfl (HH.out.2.1.alloc _) rfl (heap_alloc_new wr _) rfl (by simp [Value.oneCell']) (by omega) (by simp; omega) ?_; intro g cap w2 hown2 hg hor hlt2; have q2' := (hg.cell_far ⟨b, off + k * 3 + 2, none⟩ (by simp; omega) (fun e => by have := own_base HH.out.2.1 b e.symm; omega)).trans (cell_some_alloc _ q2)))
            have HE := Lib.hid (show RefTripPost lines Z w (.returned (.slice (some ⟨g, 0, none⟩) (2 + 1) cap)) w2 from ⟨_, _, _, rfl, by rw [HT3.out, eList_snoc]; exact own_mono hown2 hb1s, HB1.out.trans ((HBL.out g cap w2 hg).mono hb1s)⟩)
            clear hown2 hg hor hlt2 q2'
            go_ret
            exact HE.out
          · have hm3 : ((m : Int) + 1 == 3) = false := by simp; omega
            go_wp2_with fail
            refine (HRM.out _).mono ?_
            rintro e W2 ⟨rfl, rfl⟩
            go_wp2_with (first | (at_builtin; refine wpList_app rfl (.tmp 33) (.tmp 39) 32 rfl Try.underlying32 info_int_v rfl (by omega) (by omega) rfl (HH.out.2.1.alloc _) rfl (heap_alloc_new wr _) rfl (by simp [Value.oneCell']) (by omega) (by simp; omega) ?_; intro g cap w2 hown2 hg hor hlt2; have q2' := (hg.cell_far ⟨b, off + k * 3 + 2, none⟩ (by simp; omega) (fun e => by have := own_base HH.out.2.1 b e.symm; omega)).trans (cell_some_alloc _ q2)))
            have HE := Lib.hid (show (((Z.take (k + 1)).filter slcB).length = m + 1 ∧ sumV ((Z.take (k + 1)).filter slcB) = SV + x2 ∧ (m + 1 = 2 → SV + x2 ≤ 3 * lines)) ∧ w2.ownsRow w1.heap.size 3 1 (.slice (some ⟨g, 0, none⟩) (m + 1) cap) (m + 1) (eList eInt (((Z.take (k + 1)).filter slcB).map Us.block)) ∧ Below w1.heap.size w1 w2 from
              ⟨⟨by rw [HTF.out, List.length_append, HH.out.1.1]; rfl, by rw [HTF.out, sumV_snoc, HH.out.1.2.1], fun _ => hs⟩, by rw [HTF.out, List.map_append, List.map_cons, List.map_nil, eList_snoc]; exact hown2, HBL.out g cap w2 hg⟩)
            have hSV := sumV_bd (lines := lines) (l := (Z.take (k + 1)).filter slcB) (fun u hu => HMAY.out u (List.mem_of_mem_take (List.mem_filter.1 hu).1))
            rw [HE.out.1.1, HE.out.1.2.1] at hSV
            have h1000 : SV + x2 ≤ 1000 := by
              have h1 : (3 * lines) * ((m + 1 : Nat) : Int) ≤ 192 * ((m + 1 : Nat) : Int) := Int.mul_le_mul_of_nonneg_right (by omega) (by omega)
              omega
            clear hown2 hg hor hlt2 q2' hSV
            go_wp2
            first
              | (go_roundw
                 case rel => exact ⟨k + 1, m + 1, SV + x2, some ⟨g, 0, none⟩, cap, by omega, by omega, by omega, h1000, by go_num, rfl, rfl, HE.out⟩
                 case measure => simp [intOf]; omega)
              | exact ⟨⟨k + 1, m + 1, SV + x2, some ⟨g, 0, none⟩, cap, by omega, by omega, by omega, h1000, by go_num, rfl, rfl, HE.out⟩, by simp [intOf]; omega⟩
        · have hd : decide (SV + x2 ≤ 3 * lines) = false := by simpa using hs
          rw [hd] at hrm
          have HRM := Lib.hid hrm
          have hm0 : 0 < m := by
            rcases Nat.eq_zero_or_pos m with h | h
            · have h1 := HH.out.1.1
              rw [h] at h1
              have h2 := List.length_eq_zero_iff.1 h1
              have h3 := HH.out.1.2.1
              rw [h2] at h3
              simp [sumV] at h3
              omega
            · exact h
          have ht3 := trip_over (lines := lines) (S := S) (x := ⟨x0, 1, x2⟩) (by rw [HH.out.1.1]; exact hm0) (by rw [HH.out.1.1]; exact hm2) (by rw [HH.out.1.2.1]; simp only; omega) ((Z.drop (k + 1)).filter slcB) HR.out
          rw [← HZF.out] at ht3
          have HE := Lib.hid (HNIL.out _ ht3 rfl)
          clear hd hrm ht3
          go_wp2_with fail
          refine (HRM.out _).mono ?_
          rintro e W2 ⟨rfl, rfl⟩
          go_wp2
          go_ret
          exact HE.out
      · have hmf : (x1 == 1) = false := by simpa using hmo
        rw [if_neg hmo, List.append_nil] at htf
        have HTF := Lib.hid htf
        clear hx hts hrest htf hmo hnil
        go_wp2
        go_roundw
        case rel => exact ⟨k + 1, m, SV, A', c', by omega, hm2, hs0, hs1, by go_num, rfl, rfl, by rw [HTF.out]; exact H.out⟩
        case measure => simp [intOf]; omega
    · have hlt' : ¬ (k : Int) < (N : Int) := by omega
      have hZk : Z.take k = Z := List.take_of_length_le (by have := HNL.out; omega)
      have ht := trip_few lines (Z.filter slcB) (by have := H.out.1.1; rw [hZk] at this; omega)
      have HE := Lib.hid (hnil _ ht rfl)
      clear hZk ht hnil
      go_wp2
      go_ret
      exact HE.out
def RefGathPost (lines : Int) (Z : List Us) (w : World) (e : Ending) (w' : World) : Prop := ∃ A n c T, Gath lines Z T ∧ e = .returned (.slice A n c) ∧ w'.ownsRow w.heap.size 3 1 (.slice A n c) n (eList eInt (gOut T)) ∧ Below w.heap.size w w'
set_option maxRecDepth 100000 in
set_option maxHeartbeats 40000000 in
theorem refGather_any (lines : Int) (A : Option Addr) (n c : Nat) (xs : List Us) (M : List Nat) (w : World) (hn : n ≤ 100000) (hl : lines ≤ 64) (hA : Sl eUs 3 w A n xs) (hbd : ∀ x ∈ xs, x.valid ≤ 9223372036854775807) (hM : RankedBy lines xs M) :
    Calls Try.prog 49 #[.int .i64 lines, .slice A n c] w (RefGathPost lines (zOf lines xs M) w) := by
  have hrk := refRanked_any lines A n c xs M w hn hA hbd hM
  have hmay := zOf_may hM
  have hfl := List.length_filter_le (mayU lines) xs
  have hNl : (zOf lines xs M).length = M.length := by simp [zOf]
  have hN : M.length ≤ n := by have := hM.len; have := hA.len; omega
  obtain ⟨Z, hZ⟩ : ∃ Z, zOf lines xs M = Z := ⟨_, rfl⟩
  unfold RefRankPost at hrk
  rw [hZ] at hrk hmay hNl ⊢
  obtain ⟨N, hNN⟩ : ∃ N, M.length = N := ⟨_, rfl⟩
  rw [hNN] at hrk hNl hN
  have HMAY := Lib.hid hmay
  have HNL := Lib.hid hNl
  have HRK := Lib.hid hrk
  clear hrk
  clear hmay hNl hA hbd hM hfl hZ hNN
  go_enter Try.func49, Try.ntmps49
  go_wp2_with fail
  refine HRK.out.mono ?_
  rintro e w1 ⟨A1, c1, rfl, hown, hb1⟩
  have hsl := Sl.own (k := 3) (fun _ => rfl) (by omega) hown
  have HSL := Lib.hid hsl
  have HB1 := Lib.hid hb1
  have hb1s := hb1.size
  clear hown hb1 hsl HRK
  go_wp2_with fail
  go_loopw [6, 7, 8] (fun v s i wr => ∃ (k : Nat) (SV : Int) (A' : Option Addr) (c' : Nat), k ≤ N ∧ k ≤ 4 ∧ 0 ≤ SV ∧ SV ≤ 1000 ∧ i = .int .i64 k ∧ s = .int .i64 SV ∧ v = .slice A' k c' ∧ Hid ((sumV (Z.take k) = SV ∧ GPre lines (Z.take k)) ∧ wr.ownsRow w1.heap.size 3 1 (.slice A' k c') k (eList eInt ((Z.take k).map Us.block)) ∧ Below w1.heap.size w1 wr)) (fun _ _ i _ => 4 - (intOf i).toNat)
  case atStart => exact ⟨0, 0, none, 0, Nat.zero_le _, by omega, by omega, by omega, rfl, rfl, rfl, ⟨rfl, GPre.nil _⟩, World.ownsRow_nil _ _ _ _, Below.refl _ _⟩
  case round =>
    obtain ⟨k, SV, A', c', hk, hk4, hs0, hs1, rfl, rfl, rfl, H⟩ := hrel
    have hend : Gath lines Z (Z.take k) → (k < 2 → ∀ W, W = wr → RefGathPost lines Z w (.returned (.slice none 0 0)) W) ∧ (¬ k < 2 → ∀ W, W = wr → RefGathPost lines Z w (.returned (.slice A' k c')) W) := fun hG => by
      have hl : (Z.take k).length = k := by rw [List.length_take]; have := HNL.out; omega
      refine ⟨fun h W hW => ⟨none, 0, 0, Z.take k, hG, rfl, ?_, ?_⟩, fun h W hW => ⟨A', k, c', Z.take k, hG, rfl, ?_, ?_⟩⟩
      · rw [gOut, hl, if_pos h]; exact World.ownsRow_nil _ _ _ _
      · rw [hW]; exact HB1.out.trans (H.out.2.2.mono hb1s)
      · rw [gOut, hl, if_neg h, hW]; exact own_mono H.out.2.1 hb1s
      · rw [hW]; exact HB1.out.trans (H.out.2.2.mono hb1s)
    have HEND := Lib.hid hend
    clear hend
    by_cases hlt : k < N ∧ k < 4
    · obtain ⟨hlt, hlt4⟩ := hlt
      have hlt' : (k : Int) < (N : Int) := by omega
      have hlt4' : (k : Int) < 4 := by omega
      obtain ⟨b, off, x, hAe, hb, hx, p0, p1, p2⟩ := HSL.out.us_ hlt
      have q0 := (H.out.2.2.cell (p := ⟨b, off + k * 3, none⟩) hb).trans p0
      have q2 := (H.out.2.2.cell (p := ⟨b, off + k * 3 + 2, none⟩) hb).trans p2
      clear p0 p1 p2
      have hmx := mayU_bd (HMAY.out x (List.mem_of_getElem? hx))
      have htf : Z.take (k + 1) = Z.take k ++ [x] := by rw [List.take_add_one, hx]; rfl
      have hpx : Z.take k ++ [x] <+: Z := by rw [← htf]; exact List.take_prefix _ _
      have hl : (Z.take k).length = k := by rw [List.length_take]; have := HNL.out; omega
      obtain ⟨x0, x1, x2⟩ := x
      simp only at q0 q2 hmx
      obtain ⟨v1, v2, v3, _⟩ := hmx
      subst hAe
      have hsz := H.out.2.2.size
      have hrm := fun W => refRoom_any lines SV x2 hs0 (by omega) (by omega) (by omega) W
      have HTF := Lib.hid htf
      have HPX := Lib.hid hpx
      have HL := Lib.hid hl
      clear hx htf hpx hl
      by_cases hs : SV + x2 ≤ 3 * lines
      · have hd : decide (SV + x2 ≤ 3 * lines) = true := by simpa using hs
        rw [hd] at hrm
        have HRM := Lib.hid hrm
        have hgp : GPre lines (Z.take (k + 1)) := by
          rw [HTF.out]
          exact H.out.1.2.snoc ⟨by rw [HL.out]; omega, fun _ => by rw [H.out.1.1]; exact hs⟩
        have hsv : sumV (Z.take (k + 1)) = SV + x2 := by rw [HTF.out, sumV_snoc, H.out.1.1]
        have hSV := sumV_bd (lines := lines) (l := Z.take (k + 1)) (fun u hu => HMAY.out u (List.mem_of_mem_take hu))
        have h1000 : SV + x2 ≤ 1000 := by
          have hl1 : (Z.take (k + 1)).length = k + 1 := by rw [HTF.out, List.length_append, HL.out]; rfl
          rw [hl1, hsv] at hSV
          have h1 : (3 * lines) * ((k + 1 : Nat) : Int) ≤ 192 * ((k + 1 : Nat) : Int) := Int.mul_le_mul_of_nonneg_right (by omega) (by omega)
          omega
        have HGP := Lib.hid (And.intro hsv hgp)
        clear hd hrm hgp hsv hSV
        go_wp2_with fail
        refine (HRM.out _).mono ?_
        rintro e W2 ⟨rfl, rfl⟩
        go_wp2_with (first | (at_builtin; refine wpList_app rfl (.tmp 31) (.tmp 37) 32 rfl Try.underlying32 info_int_v rfl (by omega) (by omega) rfl (H.out.2.1.alloc _) rfl (heap_alloc_new wr _) rfl (by simp [Value.oneCell']) (by omega) (by simp; omega) ?_; intro g cap w2 hown2 hg hor hlt2; have q2' := (hg.cell_far ⟨b, off + k * 3 + 2, none⟩ (by simp; omega) (fun e => by have := own_base H.out.2.1 b e.symm; omega)).trans (cell_some_alloc _ q2)))
        have hbl : Below w1.heap.size w1 w2 := (H.out.2.2.alloc H.out.2.2.size _).grown hg (by simp; omega) (own_base H.out.2.1)
        have HE := Lib.hid (show (sumV (Z.take (k + 1)) = SV + x2 ∧ GPre lines (Z.take (k + 1))) ∧ w2.ownsRow w1.heap.size 3 1 (.slice (some ⟨g, 0, none⟩) (k + 1) cap) (k + 1) (eList eInt ((Z.take (k + 1)).map Us.block)) ∧ Below w1.heap.size w1 w2 from
          ⟨HGP.out, by rw [HTF.out, List.map_append, List.map_cons, List.map_nil, eList_snoc]; exact hown2, hbl⟩)
        clear hown2 hg hor hlt2 q2' hbl
        go_wp2
        first
          | (go_roundw
             case rel => exact ⟨k + 1, SV + x2, some ⟨g, 0, none⟩, cap, by omega, by omega, by omega, h1000, by go_num, rfl, rfl, HE.out⟩
             case measure => simp [intOf]; omega)
          | exact ⟨⟨k + 1, SV + x2, some ⟨g, 0, none⟩, cap, by omega, by omega, by omega, h1000, by go_num, rfl, rfl, HE.out⟩, by simp [intOf]; omega⟩
      · have hd : decide (SV + x2 ≤ 3 * lines) = false := by simpa using hs
        rw [hd] at hrm
        have HRM := Lib.hid hrm
        have hG : Gath lines Z (Z.take k) := ⟨List.take_prefix _ _, H.out.1.2, Or.inr ⟨_, HPX.out, fun hg => by
          have hk0 : 0 < k := by
            rcases Nat.eq_zero_or_pos k with h | h
            · exfalso
              have h3 := H.out.1.1
              rw [h] at h3
              simp [sumV] at h3
              omega
            · exact h
          have := hg.2 (by rw [HL.out]; exact hk0)
          rw [H.out.1.1] at this
          exact hs this⟩⟩
        have HE := Lib.hid (HEND.out hG)
        clear hd hrm hG
        by_cases h2 : k < 2
        · have h2' : (k : Int) < 2 := by omega
          go_wp2_with fail
          refine (HRM.out _).mono ?_
          rintro e W2 ⟨rfl, rfl⟩
          go_wp2
          go_ret
          exact HE.out.1 h2 _ rfl
        · have h2' : ¬ (k : Int) < 2 := by omega
          go_wp2_with fail
          refine (HRM.out _).mono ?_
          rintro e W2 ⟨rfl, rfl⟩
          go_wp2
          go_ret
          exact HE.out.2 h2 _ rfl
    · have hG : Gath lines Z (Z.take k) := by
        refine ⟨List.take_prefix _ _, H.out.1.2, ?_⟩
        rcases Nat.lt_or_ge k N with h | h
        · have hk4' : k = 4 := by omega
          have hkZ : k < Z.length := by have := HNL.out; omega
          refine Or.inr ⟨Z[k], ?_, fun hg => hg.1 ?_⟩
          · have : Z.take (k + 1) = Z.take k ++ [Z[k]] := by rw [List.take_add_one, List.getElem?_eq_getElem hkZ]; rfl
            rw [← this]
            exact List.take_prefix _ _
          · rw [List.length_take]
            omega
        · exact Or.inl (List.take_of_length_le (by have := HNL.out; omega))
      have HE := Lib.hid (HEND.out hG)
      clear hG
      by_cases hkN : k < N
      · have hlt' : (k : Int) < (N : Int) := by omega
        have hk4' : k = 4 := by omega
        have h2 : ¬ k < 2 := by omega
        subst hk4'
        clear hlt
        go_wp2
        go_ret
        exact HE.out.2 h2 _ rfl
      · have hlt' : ¬ (k : Int) < (N : Int) := by omega
        clear hlt
        by_cases h2 : k < 2
        · have h2' : (k : Int) < 2 := by omega
          go_wp2
          go_ret
          exact HE.out.1 h2 _ rfl
        · have h2' : ¬ (k : Int) < 2 := by omega
          go_wp2
          go_ret
          exact HE.out.2 h2 _ rfl
end Go.Proofs.Ytdjfkehbknbocaa

/- The walk of the law BestFloor. -/
import Derived.Test.YtdjfkehbknbocaaBestP
import Derived.Test.YtdjfkehbknbocaaMaps
import Derived.Deep.Cut
import Derived.Deep.OwnRows
namespace Go.Proofs.Ytdjfkehbknbocaa
open Go.RowKit
set_option linter.unusedSimpArgs false
set_option linter.unusedVariables false

theorem tmod17_neg {x n : Int} (hn : 0 < n) (h : x.tmod n < 0) : x.tmod n + n = x % n := by
  have e := Int.tmod_eq_emod (a := x) (b := n)
  have h1 := Int.emod_nonneg x (by omega : n ≠ 0)
  split at e <;> omega
theorem tmod17_pos {x n : Int} (hn : 0 < n) (h : ¬ x.tmod n < 0) : x.tmod n = x % n := by
  have e := Int.tmod_eq_emod (a := x) (b := n)
  have h1 := Int.emod_lt_of_pos x hn
  split at e <;> omega
theorem below17_any (x n : Int) (hx : -9223372036854775808 ≤ x ∧ x ≤ 9223372036854775807) (hn : 0 < n) (hn' : n ≤ 1000000) (w : World) : Calls Try.prog 25 #[.int .i64 x, .int .i64 n] w fun e w' => e = .returned (.int .i64 (x % n)) ∧ w = w' := by
  have b1 := Int.tmod_lt_of_pos x hn
  have b2 : -n < x.tmod n := by
    have e := Int.tmod_eq_emod (a := x) (b := n)
    have h1 := Int.emod_nonneg x (by omega : n ≠ 0)
    split at e <;> omega
  obtain ⟨f1, f2⟩ := hx
  by_cases h : x.tmod n < 0
  · have hr := tmod17_neg hn h
    have HR := Lib.hid hr
    clear hr
    go_enter Try.func25, Try.ntmps25
    go_wp2
    go_ret
    exact ⟨by rw [← HR.out]; rfl, rfl⟩
  · have hr := tmod17_pos hn h
    have HR := Lib.hid hr
    clear hr
    go_enter Try.func25, Try.ntmps25
    go_wp2
    go_ret
    exact ⟨by rw [← HR.out]; rfl, rfl⟩
theorem neAddr (a0 a1 a2 b0 b1 b2 : Int) (w : World) :
    (binOp .neq 70 (.agg #[.int .i64 a0, .int .i64 a1, .int .i64 a2]) (.agg #[.int .i64 b0, .int .i64 b1, .int .i64 b2])).run Try.prog w
      = .ok (.bool (!(a0 == b0 && (a1 == b1 && (a2 == b2 && true))))) w :=
  ne_struct Try.underlying70 (by kernel_rfl) (eqf_int a0 b0 rfl (Try.isAgg3 _) Try.underlying3 rfl rfl (eqf_int a1 b1 rfl (Try.isAgg3 _) Try.underlying3 rfl rfl (eqf_int a2 b2 rfl (Try.isAgg3 _) Try.underlying3 rfl rfl eqf_nil)))
/-- The floor's row: one number set. -/
def flR (l : Nat) (x : Int) : List Int := ([0, 0, 0, 0] : List Int).set l x
theorem flR_same {l : Nat} (hl : l < 4) (x : Int) : ofF (flR l x) (l : Int) = x := by
  match l, hl with
  | 0, _ => simp [ofF, flR]
  | 1, _ => simp [ofF, flR]
  | 2, _ => simp [ofF, flR]
  | 3, _ => simp [ofF, flR]
theorem flR_other {l k : Nat} (hl : l < 4) (hk : k < 4) (hne : k ≠ l) (x : Int) : ofF (flR l x) (k : Int) = 0 := by
  match l, hl, k, hk with
  | 0, _, 0, _ => exact absurd rfl hne
  | 0, _, 1, _ => simp [ofF, flR]
  | 0, _, 2, _ => simp [ofF, flR]
  | 0, _, 3, _ => simp [ofF, flR]
  | 1, _, 0, _ => simp [ofF, flR]
  | 1, _, 1, _ => exact absurd rfl hne
  | 1, _, 2, _ => simp [ofF, flR]
  | 1, _, 3, _ => simp [ofF, flR]
  | 2, _, 0, _ => simp [ofF, flR]
  | 2, _, 1, _ => simp [ofF, flR]
  | 2, _, 2, _ => exact absurd rfl hne
  | 2, _, 3, _ => simp [ofF, flR]
  | 3, _, 0, _ => simp [ofF, flR]
  | 3, _, 1, _ => simp [ofF, flR]
  | 3, _, 2, _ => simp [ofF, flR]
  | 3, _, 3, _ => exact absurd rfl hne
theorem whereF_cell {lbas : Int} {fl co : List Int} {bs : List Bl} {n k : Nat} (hk : k < n) : let q := (blocksF lbas fl co (k : Int) bs bs.length).1
    (eList eAd (whereF lbas fl co bs n))[k * 3 + 0]? = some (.int .i64 q.block) ∧ (eList eAd (whereF lbas fl co bs n))[k * 3 + 1]? = some (.int .i64 q.line) ∧ (eList eAd (whereF lbas fl co bs n))[k * 3 + 2]? = some (.int .i64 q.part) :=
  ⟨eList_get (enc := eAd) (k := 3) (fun _ => rfl) _ k _ 0 _ (whereF_get hk) rfl, eList_get (enc := eAd) (k := 3) (fun _ => rfl) _ k _ 1 _ (whereF_get hk) rfl, eList_get (enc := eAd) (k := 3) (fun _ => rfl) _ k _ 2 _ (whereF_get hk) rfl⟩
theorem seqsF_cell {lbas : Int} {fl co : List Int} {bs : List Bl} {n k : Nat} (hk : k < n) : (eList eInt (seqsF lbas fl co bs n))[k]? = some (.int .i64 (blocksF lbas fl co (k : Int) bs bs.length).2.seq) := eInts_get _ _ _ (seqsF_get hk)

theorem make4_int (w : World) : (Instr.makeSlice 32 (.int .i64 4) (.int .i64 4)).run Try.prog w = .ok (.slice (some ⟨w.heap.size, 0, none⟩) 4 4) (w.alloc (.cells #[.int .i64 0, .int .i64 0, .int .i64 0, .int .i64 0] 3)) :=
by
  have h := run_make_row' (P := Try.prog) 32 3 (.int .i64 0) 8 Try.underlying32 info_int_b rfl .i64 .i64 4 (by omega) (by omega) w
  have e : madeCells #[Value.int .i64 0] 4 = #[.int .i64 0, .int .i64 0, .int .i64 0, .int .i64 0] := by kernel_rfl
  rw [e] at h
  exact h
theorem flR_cells {l : Nat} (hl : l < 4) (x : Int) : (([.int .i64 0, .int .i64 0, .int .i64 0, .int .i64 0] : List Value).set l (.int .i64 x)).toArray = (eList eInt (flR l x)).toArray := by
  match l, hl with
  | 0, _ => rfl
  | 1, _ => rfl
  | 2, _ => rfl
  | 3, _ => rfl
theorem zero4 {l : Nat} (hl : l < 4) : (#[.int .i64 0, .int .i64 0, .int .i64 0, .int .i64 0] : Array Value)[l]? = some (.int .i64 0) := by
  match l, hl with
  | 0, _ => rfl
  | 1, _ => rfl
  | 2, _ => rfl
  | 3, _ => rfl
theorem seq_most {lbas : Int} {co : List Int} {l : Int} {bs : List Bl} (h : ∀ b ∈ bs, ∀ p ∈ b.pages, p.tag.seq ≤ 9223372036854775807) : (blocksF lbas [] co l bs bs.length).2.seq ≤ 9223372036854775807 := by
  rcases blocksF_from (lbas := lbas) (fl := []) (co := co) (lba := l) bs bs.length (Nat.le_refl _) with e | ⟨q, j, b, p, h1, h2, h3, h4, h5, h6⟩
  · rw [e]; decide
  · rw [h6]
    exact h b (List.mem_of_getElem? h2) p (List.mem_of_getElem? h3)

set_option maxRecDepth 100000 in
set_option maxHeartbeats 40000000 in
theorem floor_walk (A : Option Addr) (n c : Nat) (bs : List Bl) (lba : Int) (w : World) (hA : Sl eBl 3 w A n bs) (hD : Deep w bs) (hfit : ∀ b ∈ bs, ∀ p ∈ b.pages, p.tag.seq ≤ 9223372036854775807) (hx : -9223372036854775808 ≤ lba ∧ lba ≤ 9223372036854775807) :
    Calls Try.prog 11 #[.slice A n c, .int .i64 lba] w fun e w' => e = .returned (.bool true) ∧ Below w.heap.size w w' := by
  have hlen := hA.len
  have hfew := fun W (hW : Below w.heap.size w W) => few_any ⟨8, 6, 64, 4, 0, 4⟩ A n c (bs.map (·.b)) W (hA.below hW).bk (by intro b hb; obtain ⟨x, hx, rfl⟩ := List.mem_map.1 hb; exact (hD x hx).big)
  have hspec := fewF_spec (lbas := 4) hD
  have hmap := fun s fl W (hW : Below w.heap.size w W) (hf : Sl eInt 1 W s.f.A s.f.n fl) (hc : Sl eInt 1 W s.c.A s.c.n []) hn hpp => map_any ⟨8, 6, 64, 4, 0, 4⟩ s fl [] A n c bs W hf hc (hA.below hW) (hD.below hW) (by decide) hn hpp
  generalize fewF (Geo.lbas ⟨8, 6, 64, 4, 0, 4⟩) (bs.map (·.b)) = FW at hfew hspec
  simp only [Geo.agg] at hfew hmap hspec ⊢
  have HA := Lib.hid (And.intro hA hD)
  have HFEW := Lib.hid hfew
  clear hfew
  have HMAP := Lib.hid hmap
  clear hmap
  have HSPEC := Lib.hid hspec
  clear hspec
  clear hA hD
  obtain ⟨l, hl, hle⟩ : ∃ l : Nat, lba % 4 = (l : Int) ∧ l < 4 := ⟨(lba % 4).toNat, by omega, by omega⟩
  have hbel := fun W => below17_any lba 4 hx (by omega) (by omega) W
  rw [hl] at hbel
  have HBEL := Lib.hid hbel
  clear hbel hl
  go_enter Try.func11, Try.ntmps11
  go_wp2_with fail
  refine (works17_any w).mono ?_
  rintro e w1 ⟨rfl, hb1⟩
  go_wp2_with fail
  refine (geo17_any w1).mono ?_
  rintro e w2 ⟨rfl, hb2⟩
  simp only [Geo.agg]
  go_wp2_with fail
  refine (HFEW.out w2 (below_tr hb1 hb2)).mono ?_
  rintro e w3 ⟨rfl, hb3⟩
  have HB3 := Lib.hid (below_tr (below_tr hb1 hb2) hb3)
  clear hb1 hb2 hb3
  cases FW with
  | false =>
    go_wp2
    go_ret
    exact ⟨rfl, HB3.out⟩
  | true =>
    obtain ⟨-, hn, hpp⟩ := HSPEC.out (by simp)
    rw [hlen] at hn
    go_wp2_with fail
    refine (HBEL.out w3).mono ?_
    rintro e w3' ⟨rfl, rfl⟩
    go_wp2_with fail
    refine (geo17_any w3).mono ?_
    rintro e w4 ⟨rfl, hb4⟩
    simp only [Geo.agg]
    have HB4 := Lib.hid (below_tr HB3.out hb4)
    have hm1 := HMAP.out ⟨noSv, noSv, noSv, noSv⟩ [] w4 HB4.out (Sl.nil _) (Sl.nil _) hn hpp
    simp only [St.agg, Sv.v] at hm1
    clear hb4
    go_wp2_with fail
    refine hm1.mono ?_
    rintro e w5 ⟨v8, v9, rfl, hT⟩
    have hT : Two w4.heap.size w4 (whereF 4 [] [] bs 4) (seqsF 4 [] [] bs 4) 4 v8 v9 w5 := hT
    obtain ⟨g1, c1, rfl, _, _⟩ := hT.a.form (by omega)
    obtain ⟨g2, c2, rfl, _, _⟩ := hT.i.form (by omega)
    have HB5 := Lib.hid (below_tr HB4.out hT.below)
    have HT := Lib.hid hT
    have n0 := own_cell hT.i l _ (seqsF_cell hle)
    have hnn := seq_nonneg (lbas := 4) (co := []) (l := (l : Int)) (bs := bs)
    have hmm := seq_most (lbas := 4) (co := []) (l := (l : Int)) hfit
    clear hT hm1
    obtain ⟨N0, hN0⟩ : ∃ N0, (blocksF 4 [] [] (l : Int) bs bs.length).2.seq = N0 := ⟨_, rfl⟩
    rw [hN0] at n0 hnn hmm
    have HN0 := Lib.hid hN0
    clear hN0
    by_cases hN : N0 = 9223372036854775807
    · go_wp2
      go_ret
      exact ⟨rfl, HB5.out⟩
    · have hmk := make4_int
      have kZ := Blk.new w5 3 #[.int .i64 0, .int .i64 0, .int .i64 0, .int .i64 0]
      have z0 := (kZ.cell l).trans (zero4 hle)
      have zf := kZ.frozen l
      have n1 := cell_some_alloc (.cells #[.int .i64 0, .int .i64 0, .int .i64 0, .int .i64 0] 3) n0
      have hov : N0 + 1 ≤ 9223372036854775807 := by omega
      go_wp2_with fail
      have kY := (Blk.new w5 3 (([.int .i64 0, .int .i64 0, .int .i64 0, .int .i64 0] : List Value).set l (.int .i64 (N0 + 1))).toArray).of_eq (flR_cells hle (N0 + 1))
      have hb6 : Below w5.heap.size w5 (w5.alloc (.cells (([.int .i64 0, .int .i64 0, .int .i64 0, .int .i64 0] : List Value).set l (.int .i64 (N0 + 1))).toArray 3)) := (Below.refl _ w5).alloc (Nat.le_refl _) _
      obtain ⟨w6, hw6⟩ : ∃ w6, w5.alloc (.cells (([.int .i64 0, .int .i64 0, .int .i64 0, .int .i64 0] : List Value).set l (.int .i64 (N0 + 1))).toArray 3) = w6 := ⟨_, rfl⟩
      rw [hw6] at kY hb6 ⊢
      clear hw6 hmk kZ z0 zf n1 n0
      refine (geo17_any w6).mono ?_
      rintro e w7 ⟨rfl, hb7⟩
      simp only [Geo.agg]
      have hm2 := HMAP.out ⟨⟨some ⟨w5.heap.size, 0, none⟩, 4, 4⟩, noSv, noSv, noSv⟩ (flR l (N0 + 1)) w7 (below_tr HB5.out (below_tr hb6 hb7)) (Sl.of_blk (enc := eInt) (k := 1) (xs := flR l (N0 + 1)) (fun _ => rfl) (kY.below_ hb7) rfl (by simp [flR]) (show 4 ≤ 9223372036854775807 by decide)) (Sl.nil _) hn hpp
      simp only [St.agg, Sv.v] at hm2
      have HB7 := Lib.hid (below_tr hb6 hb7)
      clear hb6 hb7 kY
      go_wp2_with fail
      refine hm2.mono ?_
      rintro e w9 ⟨u8, u9, rfl, hU⟩
      have hU : Two w7.heap.size w7 (whereF 4 (flR l (N0 + 1)) [] bs 4) (seqsF 4 (flR l (N0 + 1)) [] bs 4) 4 u8 u9 w9 := hU
      obtain ⟨g3, c3, rfl, _, _⟩ := hU.a.form (by omega)
      obtain ⟨g4, c4, rfl, _, _⟩ := hU.i.form (by omega)
      have hT9 := HT.out.below_ (below_tr HB7.out hU.below)
      have hcells : ∀ (k : Nat), k < 4 → ∀ W, Below w9.heap.size w9 W →
          W.cell? ⟨g1, k * 3, none⟩ = some (.int .i64 (blocksF 4 [] [] (k : Int) bs bs.length).1.block) ∧ W.cell? ⟨g1, k * 3 + 1, none⟩ = some (.int .i64 (blocksF 4 [] [] (k : Int) bs bs.length).1.line) ∧ W.cell? ⟨g1, k * 3 + 2, none⟩ = some (.int .i64 (blocksF 4 [] [] (k : Int) bs bs.length).1.part) ∧
          W.cell? ⟨g2, k, none⟩ = some (.int .i64 (blocksF 4 [] [] (k : Int) bs bs.length).2.seq) ∧
          W.cell? ⟨g3, k * 3, none⟩ = some (.int .i64 (blocksF 4 (flR l (N0 + 1)) [] (k : Int) bs bs.length).1.block) ∧ W.cell? ⟨g3, k * 3 + 1, none⟩ = some (.int .i64 (blocksF 4 (flR l (N0 + 1)) [] (k : Int) bs bs.length).1.line) ∧ W.cell? ⟨g3, k * 3 + 2, none⟩ = some (.int .i64 (blocksF 4 (flR l (N0 + 1)) [] (k : Int) bs bs.length).1.part) ∧
          W.cell? ⟨g4, k, none⟩ = some (.int .i64 (blocksF 4 (flR l (N0 + 1)) [] (k : Int) bs bs.length).2.seq) := fun k hk W hW => by
        have hT := hT9.below_ hW
        have hU := hU.below_ hW
        obtain ⟨a0, a1, a2⟩ := whereF_cell (lbas := 4) (fl := []) (co := []) (bs := bs) hk
        obtain ⟨b0, b1, b2⟩ := whereF_cell (lbas := 4) (fl := flR l (N0 + 1)) (co := []) (bs := bs) hk
        exact ⟨own_cell hT.a _ _ a0, own_cell hT.a _ _ a1, own_cell hT.a _ _ a2, own_cell hT.i _ _ (seqsF_cell hk), own_cell hU.a _ _ b0, own_cell hU.a _ _ b1, own_cell hU.a _ _ b2, own_cell hU.i _ _ (seqsF_cell hk)⟩
      have HCELLS := Lib.hid hcells
      have HB9 := Lib.hid (below_tr HB5.out (below_tr HB7.out hU.below))
      clear hcells hT9 hU hm2 hnn hmm
      go_wp2_with fail
      go_loopw [61] (fun u wr => ∃ k : Nat, k ≤ 4 ∧ u = .int .i64 k ∧ Hid (Below w9.heap.size w9 wr)) (fun u _ => 4 - (intOf u).toNat)
      case atStart => exact ⟨0, Nat.zero_le _, rfl, Below.refl _ _⟩
      case round =>
        obtain ⟨k, hk, rfl, H⟩ := hrel
        by_cases hk4 : k < 4
        · have hlt : (k : Int) < 4 := by omega
          have e0 := fun p : Past wr => (HCELLS.out k hk4 p.w (below_tr H.out p.h)).1
          have e1 := fun p : Past wr => (HCELLS.out k hk4 p.w (below_tr H.out p.h)).2.1
          have e2 := fun p : Past wr => (HCELLS.out k hk4 p.w (below_tr H.out p.h)).2.2.1
          have e3 := fun p : Past wr => (HCELLS.out k hk4 p.w (below_tr H.out p.h)).2.2.2.1
          have e4 := fun p : Past wr => (HCELLS.out k hk4 p.w (below_tr H.out p.h)).2.2.2.2.1
          have e5 := fun p : Past wr => (HCELLS.out k hk4 p.w (below_tr H.out p.h)).2.2.2.2.2.1
          have e6 := fun p : Past wr => (HCELLS.out k hk4 p.w (below_tr H.out p.h)).2.2.2.2.2.2.1
          have e7 := fun p : Past wr => (HCELLS.out k hk4 p.w (below_tr H.out p.h)).2.2.2.2.2.2.2
          by_cases hkl : k = l
          · subst hkl
            have hno := floor_none (lbas := 4) (co := []) (l := (k : Int)) (bs := bs) (fl := flR k (N0 + 1)) (by rw [flR_same hle, HN0.out]) seq_nonneg
            rw [hno] at e4 e7
            simp only at e4 e7
            clear e0 e1 e2 e3 e5 e6 hno
            go_upto_region 15 with fail
            refine wp_region_quiet_past (by kernel_rfl) (by kernel_rfl) ?_
            repeat (refine qw_step (fun K_ hK_ => ?_); go_simp; first | (refine hK_ _ ?_; clear hK_ K_) | (apply Exists.intro; refine ⟨fun _ => ?_, hK_ _ ?_⟩; (fail); clear hK_ K_) | (rw [if_pos (by first | assumption | omega)]; first | (refine hK_ _ ?_; clear hK_ K_) | (apply Exists.intro; refine ⟨fun _ => ?_, hK_ _ ?_⟩; (fail); clear hK_ K_)) | (rw [if_neg (by first | assumption | omega)]; first | (refine hK_ _ ?_; clear hK_ K_) | (apply Exists.intro; refine ⟨fun _ => ?_, hK_ _ ?_⟩; (fail); clear hK_ K_)))
            refine qw_nil ?_
            intro WQ hw_
            obtain ⟨p_, hp_⟩ := hw_
            have HQ := p_.h
            rw [← hp_] at HQ
            clear hp_ p_
            have HQ2 := Lib.hid (below_tr H.out HQ)
            clear HQ e4 e7
            go_wp2
            go_roundw
            case rel => exact ⟨k + 1, by omega, by go_num, HQ2⟩
            case measure => simp [intOf]; omega
          · have hsa := floor_same (lbas := 4) (co := []) (l := (k : Int)) (bs := bs) (fl := flR l (N0 + 1)) (flR_other hle hk4 hkl _)
            rw [hsa] at e4 e5 e6 e7
            clear hsa
            generalize blocksF 4 [] [] (k : Int) bs bs.length = q at e0 e1 e2 e3 e4 e5 e6 e7
            obtain ⟨⟨q0, q1, q2⟩, ⟨q3, q4, q5, q6⟩⟩ := q
            simp only at e0 e1 e2 e3 e4 e5 e6 e7
            have hkl' : ¬ (k : Int) = (l : Int) := by omega
            have he := fun W => neAddr q0 q1 q2 q0 q1 q2 W
            simp only [beq_self_eq_true, Bool.and_self, Bool.not_true] at he
            go_upto_region 15 with fail
            refine wp_region_quiet_past (by kernel_rfl) (by kernel_rfl) ?_
            repeat (refine qw_step (fun K_ hK_ => ?_); go_simp; first | (refine hK_ _ ?_; clear hK_ K_) | (apply Exists.intro; refine ⟨fun _ => ?_, hK_ _ ?_⟩; (fail); clear hK_ K_) | (rw [if_pos (by first | assumption | omega)]; first | (refine hK_ _ ?_; clear hK_ K_) | (apply Exists.intro; refine ⟨fun _ => ?_, hK_ _ ?_⟩; (fail); clear hK_ K_)) | (rw [if_neg (by first | assumption | omega)]; first | (refine hK_ _ ?_; clear hK_ K_) | (apply Exists.intro; refine ⟨fun _ => ?_, hK_ _ ?_⟩; (fail); clear hK_ K_)))
            refine qw_nil ?_
            intro WQ hw_
            obtain ⟨p_, hp_⟩ := hw_
            have HQ := p_.h
            rw [← hp_] at HQ
            clear hp_ p_
            have HQ2 := Lib.hid (below_tr H.out HQ)
            clear HQ e0 e1 e2 e3 e4 e5 e6 e7 he
            go_wp2
            go_roundw
            case rel => exact ⟨k + 1, by omega, by go_num, HQ2⟩
            case measure => simp [intOf]; omega
        · have hge : ¬ (k : Int) < 4 := by omega
          go_wp2
          go_ret
          exact ⟨rfl, below_tr HB9.out H.out⟩
end Go.Proofs.Ytdjfkehbknbocaa

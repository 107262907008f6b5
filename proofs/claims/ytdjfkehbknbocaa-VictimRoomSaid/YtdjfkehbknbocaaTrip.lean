/- The walk of victim.Triple. -/
import Derived.Test.YtdjfkehbknbocaaGath
namespace Go.Proofs.Ytdjfkehbknbocaa
open Go.RowKit Go.Shelf
set_option linter.unusedSimpArgs false
set_option linter.unusedVariables false
attribute [local go_sem] Oper.semAt_some

def TripPost (lines : Int) (xs : List Us) (w : World) (e : Ending) (w' : World) : Prop := ∃ A n c M, RankedBy lines xs M ∧ e = .returned (.slice A n c) ∧
  w'.ownsRow w.heap.size 3 1 (.slice A n c) n (eList eInt (tripleF lines ((zOf lines xs M).filter slcB))) ∧ Below w.heap.size w w'
abbrev s1 {lines : Int} (pre : List (MayUs lines)) : List Us := (v1 pre).filter slcB
/-- Between two rounds of Triple. -/
structure TI (w : World) (lines : Int) (hi : Nat) (pre : List (MayUs lines)) (W : World) : Prop where
  iv : IV w lines w.heap.size (w.heap.size + 2) (w.heap.size + 3) hi ((s1 pre).map Us.block) (sumV (s1 pre)) W
  rb : Blk W (w.heap.size + 1) 32 #[.slice none 0 0]
  len : (s1 pre).length ≤ 2
  two : (s1 pre).length = 2 → sumV (s1 pre) ≤ 3 * lines
structure TX (w : World) (lines : Int) (hi : Nat) (cd : Code) (pre : List (MayUs lines)) (W : World) : Prop where
  cd : cd = Code.ret
  res : ∃ A n c T, Blk W (w.heap.size + 1) 32 #[.slice A n c] ∧ W.ownsRow hi 3 1 (.slice A n c) n (eList eInt T) ∧ ∀ rest : List (MayUs lines), T = tripleF lines (s1 (pre ++ rest))
  below : Below w.heap.size w W
theorem TI.kept {w W W' : World} {lines : Int} {hi : Nat} {pre : List (MayUs lines)} {row : Option Nat} (h : TI w lines hi pre W) (hh : w.heap.size + 3 < hi) (hg : W.grownBy W' row) (hr : ∀ r, row = some r → hi ≤ r ∧ ∃ o : Obj, W.heap[r]? = some o ∧ o.isCells = false) : TI w lines hi pre W' :=
  ⟨h.iv.kept (by omega) (by omega) (by omega) (by omega) hg hr, h.rb.grown hg (fun e => by have := (hr _ e.symm).1; omega), h.len, h.two⟩
theorem TX.kept {w W W' : World} {lines : Int} {hi : Nat} {cd : Code} {pre : List (MayUs lines)} {row : Option Nat} (h : TX w lines hi cd pre W) (hh : w.heap.size + 3 < hi) (hg : W.grownBy W' row) (hr : ∀ r, row = some r → hi ≤ r ∧ ∃ o : Obj, W.heap[r]? = some o ∧ o.isCells = false) : TX w lines hi cd pre W' := by
  obtain ⟨A, n, c, T, h1, h2, h3⟩ := h.res
  exact ⟨h.cd, ⟨A, n, c, T, h1.grown hg (fun e => by have := (hr _ e.symm).1; omega), own_from h2 hg (fun r e => (hr r e).2), h3⟩, h.below.grown hg h.below.size (fun k e => by have := (hr k e).1; omega)⟩
theorem s1_snoc {lines : Int} (pre : List (MayUs lines)) (x : MayUs lines) : s1 (pre ++ [x]) = s1 pre ++ if x.1.mode = 1 then [x.1] else [] := by
  simp only [s1, v1, List.map_append, List.map_cons, List.map_nil, List.filter_append]
  by_cases h : x.1.mode = 1
  · rw [if_pos h]
    simp [slcB, h]
  · rw [if_neg h]
    simp [slcB, h]
theorem s1_app {lines : Int} (pre rest : List (MayUs lines)) : s1 (pre ++ rest) = s1 pre ++ s1 rest := by simp [s1, v1]
theorem s1_bd {lines : Int} (pre : List (MayUs lines)) : ∀ u ∈ s1 pre, mayU lines u = true := fun u hu => v1_bd pre u (List.mem_filter.1 hu).1
theorem trip_few (lines : Int) (l : List Us) (h : l.length ≤ 2) : tripleF lines l = [] := by
  match l, h with
  | [], _ => rfl
  | [_], _ => rfl
  | [_, _], _ => rfl
  | _ :: _ :: _ :: _, h => simp at h
/-- Too many pages: nothing. -/
theorem trip_over {lines : Int} {S : List Us} {x : Us} (h0 : 0 < S.length) (h2 : S.length ≤ 2) (hs : 3 * lines < sumV S + x.valid) (r : List Us) (hr : ∀ u ∈ r, mayU lines u = true) : tripleF lines (S ++ (x :: r)) = [] := by
  match S, h0, h2 with
  | [a], _, _ =>
    match r with
    | [] => rfl
    | c :: r =>
      have := mayU_bd (hr c (by simp))
      simp [sumV] at hs
      show (if a.valid + x.valid + c.valid ≤ 3 * lines then _ else _) = _
      rw [if_neg (by omega)]
  | [a, b], _, _ =>
    simp [sumV] at hs
    show (if a.valid + b.valid + x.valid ≤ 3 * lines then _ else _) = _
    rw [if_neg (by omega)]
theorem trip_three {lines : Int} {S : List Us} {x : Us} (h2 : S.length = 2) (hs : sumV S + x.valid ≤ 3 * lines) (r : List Us) : tripleF lines (S ++ (x :: r)) = S.map Us.block ++ [x.block] := by
  match S, h2 with
  | [a, b], _ =>
    simp [sumV] at hs
    show (if a.valid + b.valid + x.valid ≤ 3 * lines then _ else _) = _
    rw [if_pos (by omega)]
    rfl
set_option maxRecDepth 100000 in
set_option maxHeartbeats 40000000 in
theorem triple_any (lines : Int) (A : Option Addr) (n c : Nat) (xs : List Us) (w : World) (hn : n ≤ 100000) (hl : lines ≤ 64) (hA : Sl eUs 3 w A n xs) (hbd : ∀ x ∈ xs, x.valid ≤ 9223372036854775807) :
    Calls Try.prog 46 #[.int .i64 lines, .slice A n c] w (TripPost lines xs w) := by
  have hlen := hA.len
  have HA := Lib.hid hA
  clear hA
  have HBD := Lib.hid hbd
  clear hbd
  have HLEN := Lib.hid hlen
  clear hlen
  refine (callsIn_wide (n := 3)).1 ?_
  refine callsIn_of_wp_marks Try.func46 rfl trivial ?_ rfl
  refine wpIn_wide.2 ?_
  simp only [Try.ntmps46, List.size_toArray, List.length_cons, List.length_nil, Nat.reduceAdd, Nat.reduceSub, Array.replicate_succ, Array.replicate_zero, List.push_toArray, List.append_toArray, List.nil_append, List.cons_append]
  go_wp2_with fail
  have k0 := (((Blk.new w 3 #[.int .i64 lines]).alloc (.cells #[.slice none 0 0] 32)).alloc (.cells #[.slice none 0 0] 32)).alloc (.cells #[.int .i64 0] 3)
  have k1 := ((Blk.new1 w (.cells #[.int .i64 lines] 3) 32 #[.slice none 0 0]).alloc (.cells #[.slice none 0 0] 32)).alloc (.cells #[.int .i64 0] 3)
  have k2 := (Blk.new ((w.alloc (.cells #[.int .i64 lines] 3)).alloc (.cells #[.slice none 0 0] 32)) 32 #[.slice none 0 0]).alloc (.cells #[.int .i64 0] 3)
  have k3 := Blk.new (((w.alloc (.cells #[.int .i64 lines] 3)).alloc (.cells #[.slice none 0 0] 32)).alloc (.cells #[.slice none 0 0] 32)) 3 #[.int .i64 0]
  simp only [World.size_alloc] at k2 k3
  have hw0 : Below w.heap.size w ((((w.alloc (.cells #[.int .i64 lines] 3)).alloc (.cells #[.slice none 0 0] 32)).alloc (.cells #[.slice none 0 0] 32)).alloc (.cells #[.int .i64 0] 3)) := by ((try change Below _ _ _); (repeat (any_goals (first | (with_reducible exact Below.refl _ _) | (with_reducible exact Below.refl _ _) | (with_reducible apply Below.drew) | (with_reducible apply below_drewN) | (with_reducible refine Below.alloc ?_ ?_ _) | (with_reducible refine Below.setCell ?_ ?_ _)))); all_goals (first | exact Nat.le_refl _ | (simp; done) | (simp; omega) | omega | (dsimp only; omega)))
  have hs0 : ((((w.alloc (.cells #[.int .i64 lines] 3)).alloc (.cells #[.slice none 0 0] 32)).alloc (.cells #[.slice none 0 0] 32)).alloc (.cells #[.int .i64 0] 3)).heap.size = w.heap.size + 4 := by simp
  refine (ranked_any lines A n c xs _ hn (HA.out.below hw0) HBD.out).mono ?_
  rintro e w1 ⟨B, A1, c1, M, rfl, hBw, hBb, hR, hown, hb1⟩
  have k0 := k0.below_ hb1
  have k1 := k1.below_ hb1
  have k2 := k2.below_ hb1
  have k3 := k3.below_ hb1
  have hw1 := below_tr hw0 hb1
  rw [hs0] at hBw
  have hsz : w.heap.size + 4 ≤ w1.heap.size := by have := hb1.size; rw [hs0] at this; exact this
  have hMl := hR.len
  have hfl := List.length_filter_le (mayU lines) xs
  have hMn : M.length ≤ n := by have := HLEN.out; omega
  have hzat : ((zOf lines xs M).attachWith (fun u => mayU lines u = true) (zOf_may hR)).map (fun a : MayUs lines => a.1) = zOf lines xs M := List.attachWith_map_subtype_val _
  obtain ⟨ZS, hZS⟩ : ∃ ZS : List (MayUs lines), (zOf lines xs M).attachWith (fun u => mayU lines u = true) (zOf_may hR) = ZS := ⟨_, rfl⟩
  rw [hZS] at hzat
  have hown' := hown
  rw [← hzat] at hown'
  have hST := iterU_stops2 2 B (B + 1) A1 M.length c1 77 (fun a : MayUs lines => a.1) ZS w1 hown' hBb (by omega)
  have hTI0 : TI w lines w1.heap.size ([] : List (MayUs lines)) w1 := ⟨⟨hw1, k0, ⟨none, 0, k2, World.ownsRow_nil _ _ _ _⟩, k3, Nat.le_refl _⟩, k1, by simp [s1, v1], by simp [s1, v1]⟩
  have hBl := hBb.lt
  have hrow : ∀ q, (Value.slice A1 M.length c1).ownBlock = some q → B + 1 ≤ q ∧ q < w1.heap.size := fun q e => ⟨own_base hown q e, own_lt hown q e⟩
  obtain ⟨R, hRr⟩ : ∃ R, (Value.slice A1 M.length c1).ownBlock = R := ⟨_, rfl⟩
  rw [hRr] at hST hrow
  have HR := Lib.hid hR
  have HST := Lib.hid hST
  have HTI0 := Lib.hid hTI0
  have HZAT := Lib.hid hzat
  have HROW := Lib.hid hrow
  have HW1 := Lib.hid hw1
  clear k0 k1 k2 k3 hw0 hs0 hb1 hw1 hMl hfl hzat hown hown' hST hTI0 hrow hRr hR hBb hZS
  go_wp2_with fail
  refine (wpIn_wide (n := 3)).1 ?_
  refine wpIn_rangeFunc_ownH (F := Fence.wide) (n := 3) rfl (by omega) (gf := 75) (lb := #[.pointer (some ⟨B, 0, none⟩)]) rfl trivial (enters_of Try.func75 (by kernel_rfl) rfl) HST.out kpR_t (kpR_b hBl (fun q e => (HROW.out q e).2)) (Below.refl _ _) (fun _ => rfl)
    (fun pre W => TI w lines w1.heap.size pre W) (fun cd pre W => TX w lines w1.heap.size cd pre W)
    (fun pre X Y row h hg hr => h.kept (by omega) hg hr) (fun cd pre X Y row h hg hr => h.kept (by omega) hg hr) HTI0.out
    (fun x a' W => ∃ Bx, AxU w1.heap.size x.1 ((fun (x : Us) Bx => #[.int .i64 lines, .slice A n c, .pointer (some ⟨w.heap.size, 0, none⟩), undef, .pointer (some ⟨w.heap.size + 1, 0, none⟩), .pointer (some ⟨w.heap.size + 2, 0, none⟩), .pointer (some ⟨w.heap.size + 3, 0, none⟩), .pointer (some ⟨Bx, 0, none⟩), .int .i64 lines, .slice A n c, .func (.func 75) #[] #[.pointer (some ⟨B, 0, none⟩)], x.agg, undef, undef, undef, undef, undef, undef, undef, undef, undef, undef, undef, undef, undef, undef, undef, undef, undef, undef, undef, undef, undef, undef, undef, undef, undef, undef, undef]) x.1) a' Bx W) (fun x a' => AxU.own x.1 _ a') ?assign ?body ?done ?stop
  case assign =>
    rintro l pre ⟨⟨x0, x1, x2⟩, hx⟩ W K hic hK
    simp only [Us.agg]
    gi_wp2
    have hsz2 := hic.iv.size
    exact hK _ _ ((KeepsOthers.alloc _ _).from _) (kpR_alloc (kpR_refl _ _ _) (by omega) (fun q e => by have := (HROW.out q e).2; omega) _) ⟨hic.iv.alloc _, hic.rb.alloc _, hic.len, hic.two⟩ ⟨W.heap.size, hsz2, Blk.new W _ _, rfl⟩
  case body =>
    rintro l pre ⟨⟨x0, x1, x2⟩, hx⟩ a' W hll _ hic ⟨Bx, lx, bx, rfl⟩ hlen2
    obtain ⟨A3, c3, hbO, hownO⟩ := hic.iv.ob
    rw [List.length_map] at hbO hownO
    have hbx := mayU_bd hx
    have hsv := sumV_bd (s1_bd pre)
    have hp2 := hic.len
    obtain ⟨b1, b2, b3, b4⟩ := hbx
    simp only at b1 b2 b4
    have hstep := s1_snoc pre ⟨⟨x0, x1, x2⟩, hx⟩
    have hrb := hic.rb
    have kl := hic.iv.lb
    have ks := hic.iv.sb
    have htwo := hic.two
    have hsb : sumV (s1 pre) ≤ 1000 := by
      have e : 3 * lines * ((s1 pre).length : Int) ≤ 192 * 2 := by
        have h1 : (3 * lines) * ((s1 pre).length : Int) ≤ 192 * ((s1 pre).length : Int) := Int.mul_le_mul_of_nonneg_right (by omega) (by omega)
        omega
      omega
    have hs0 : 0 ≤ sumV (s1 pre) := by omega
    have hover := fun (h0 : 0 < (s1 pre).length) (hs : 3 * lines < sumV (s1 pre) + x2) (h1 : x1 = 1) (rest : List (MayUs lines)) => trip_over (x := ⟨x0, x1, x2⟩) h0 hp2 hs (s1 rest) (s1_bd rest)
    have hthree := fun (h2 : (s1 pre).length = 2) (hs : sumV (s1 pre) + x2 ≤ 3 * lines) (rest : List (MayUs lines)) => trip_three (x := ⟨x0, x1, x2⟩) h2 hs (s1 rest)
    obtain ⟨S, hS⟩ : ∃ S, s1 pre = S := ⟨_, rfl⟩
    have hiv := hic.iv
    rw [hS] at hbO hownO hsv hp2 hstep ks htwo hsb hs0 hover hthree hiv
    obtain ⟨SV, hSV⟩ : ∃ SV, sumV S = SV := ⟨_, rfl⟩
    obtain ⟨m, hm⟩ : ∃ m, S.length = m := ⟨_, rfl⟩
    rw [hSV] at hsv ks htwo hsb hs0 hover hthree hiv
    rw [hm] at hbO hownO hsv hp2 htwo hover hthree
    have o0 := (hbO.cell 0).trans rfl
    have of0 := hbO.frozen 0
    have l0 := (kl.cell 0).trans rfl
    have s0 := (ks.cell 0).trans rfl
    have sf0 := ks.frozen 0
    have r0 := (hrb.cell 0).trans rfl
    have rf0 := hrb.frozen 0
    have c0 := (bx.cell 0).trans rfl
    have c1 := (bx.cell 1).trans rfl
    have c2 := (bx.cell 2).trans rfl
    have HIC := Lib.hid hic
    have HIV := Lib.hid hiv
    have HOWN := Lib.hid (And.intro hownO (And.intro hbO (And.intro kl (And.intro ks (And.intro bx hrb)))))
    have HSTEP := Lib.hid hstep
    have HP := Lib.hid (And.intro hS (And.intro hSV (And.intro hm (And.intro htwo (And.intro hover hthree)))))
    have hvf := fun W => vfits_any lines SV x2 hs0 (by omega) b1 (by omega) W
    have HVF := Lib.hid hvf
    have hszW := hic.iv.size
    clear hic hiv hownO hbO kl ks bx hrb hstep htwo hover hthree hlen2 hvf hS hSV hm hsv
    have fin : ∀ (g cap : Nat) (w4 : World), w4.ownsRow w1.heap.size 3 1 (.slice (some ⟨g, 0, none⟩) (m + 1) cap) (m + 1) (eList eInt (S.map Us.block) ++ [.int .i64 x0]) → (W.alloc (.cells #[.int .i64 x0] 3)).grownBy w4 (Value.slice A3 m c3).ownBlock →
        (KeepsFrom w1.heap.size W ((w4.setCell ⟨w.heap.size + 2, 0, none⟩ (.slice (some ⟨g, 0, none⟩) (m + 1) cap)).setCell ⟨w.heap.size + 3, 0, none⟩ (.int .i64 (SV + x2))) ∧ KpR B R W ((w4.setCell ⟨w.heap.size + 2, 0, none⟩ (.slice (some ⟨g, 0, none⟩) (m + 1) cap)).setCell ⟨w.heap.size + 3, 0, none⟩ (.int .i64 (SV + x2))) ∧ Below w.heap.size w ((w4.setCell ⟨w.heap.size + 2, 0, none⟩ (.slice (some ⟨g, 0, none⟩) (m + 1) cap)).setCell ⟨w.heap.size + 3, 0, none⟩ (.int .i64 (SV + x2))) ∧ w1.heap.size ≤ ((w4.setCell ⟨w.heap.size + 2, 0, none⟩ (.slice (some ⟨g, 0, none⟩) (m + 1) cap)).setCell ⟨w.heap.size + 3, 0, none⟩ (.int .i64 (SV + x2))).heap.size ∧ Blk ((w4.setCell ⟨w.heap.size + 2, 0, none⟩ (.slice (some ⟨g, 0, none⟩) (m + 1) cap)).setCell ⟨w.heap.size + 3, 0, none⟩ (.int .i64 (SV + x2))) (w.heap.size + 1) 32 #[.slice none 0 0] ∧ ((w4.setCell ⟨w.heap.size + 2, 0, none⟩ (.slice (some ⟨g, 0, none⟩) (m + 1) cap)).setCell ⟨w.heap.size + 3, 0, none⟩ (.int .i64 (SV + x2))).ownsRow w1.heap.size 3 1 (.slice (some ⟨g, 0, none⟩) (m + 1) cap) (m + 1) (eList eInt (S.map Us.block ++ [x0]))) ∧
        Blk ((w4.setCell ⟨w.heap.size + 2, 0, none⟩ (.slice (some ⟨g, 0, none⟩) (m + 1) cap)).setCell ⟨w.heap.size + 3, 0, none⟩ (.int .i64 (SV + x2))) w.heap.size 3 #[.int .i64 lines] ∧ Blk ((w4.setCell ⟨w.heap.size + 2, 0, none⟩ (.slice (some ⟨g, 0, none⟩) (m + 1) cap)).setCell ⟨w.heap.size + 3, 0, none⟩ (.int .i64 (SV + x2))) (w.heap.size + 2) 32 #[.slice (some ⟨g, 0, none⟩) (m + 1) cap] ∧ Blk ((w4.setCell ⟨w.heap.size + 2, 0, none⟩ (.slice (some ⟨g, 0, none⟩) (m + 1) cap)).setCell ⟨w.heap.size + 3, 0, none⟩ (.int .i64 (SV + x2))) (w.heap.size + 3) 3 #[.int .i64 (SV + x2)] := fun g cap w4 hown4 hg4 => by
      have hba := fun q e => own_base HOWN.out.1 q e
      have hgb := own_base hown4 g rfl
      refine ⟨⟨?_, ?_, ?_, ?_, ?_, ?_⟩, ?_, ?_, ?_⟩
      · exact ((((KeepsOthers.alloc W _).trans (KeepsOthers.of_grownBy hg4 (own_isCellsU (HOWN.out.1.alloc _)))).trans (KeepsOthers.setCell _ _ _)).trans (KeepsOthers.setCell _ _ _)).from _
      · exact kpR_set (kpR_set (kpR_own (kpR_alloc (kpR_refl B R W) (by omega) (fun q e => by have := (HROW.out q e).2; omega) _) hg4 (by omega) (fun q e => by have := (HROW.out q e).2; omega) (fun q e => ⟨by have := hba q e; omega, fun e2 => by have := hba q e; have := (HROW.out q e2).2; omega⟩)) _ _ (by show B ≠ w.heap.size + 2; omega) (fun q e => by have := (HROW.out q e).1; show q ≠ w.heap.size + 2; omega)) _ _ (by show B ≠ w.heap.size + 3; omega) (fun q e => by have := (HROW.out q e).1; show q ≠ w.heap.size + 3; omega)
      · exact (((HIC.out.iv.below.alloc HIC.out.iv.below.size _).grown hg4 (by have := HIC.out.iv.below.size; simp; omega) (fun q e => by have := hba q e; omega)).setCell (p := ⟨w.heap.size + 2, 0, none⟩) (by show w.heap.size ≤ w.heap.size + 2; omega) _).setCell (p := ⟨w.heap.size + 3, 0, none⟩) (by show w.heap.size ≤ w.heap.size + 3; omega) _
      · have h6 := hg4.size
        simp at h6 ⊢
        omega
      · exact ((((HOWN.out.2.2.2.2.2.alloc _).grown hg4 (fun e => by have := hba _ e.symm; omega)).far (by show w.heap.size + 1 ≠ w.heap.size + 2; omega) _).far (by show w.heap.size + 1 ≠ w.heap.size + 3; omega) _)
      · have h5 := hown4.kept (row := some (w.heap.size + 2)) (grown_set (g := w.heap.size + 2) (grown_of_below (Below.refl _ w4) _) 0 (.slice (some ⟨g, 0, none⟩) (m + 1) cap)) (Or.inr (fun e => by have e' : some g = some (w.heap.size + 2) := e; injection e' with e'; omega))
        rw [eList_snoc]
        exact h5.kept (row := some (w.heap.size + 3)) (grown_set (g := w.heap.size + 3) (grown_of_below (Below.refl _ _) _) 0 (.int .i64 (SV + x2))) (Or.inr (fun e => by have e' : some g = some (w.heap.size + 3) := e; injection e' with e'; omega))
      · exact ((((HOWN.out.2.2.1.alloc _).grown hg4 (fun e => by have := hba _ e.symm; omega)).far (by show w.heap.size ≠ w.heap.size + 2; omega) _).far (by show w.heap.size ≠ w.heap.size + 3; omega) _)
      · exact ((((HOWN.out.2.1.alloc _).grown hg4 (fun e => by have := hba _ e.symm; omega)).set_ 0 _).of_eq (cs' := #[.slice (some ⟨g, 0, none⟩) (m + 1) cap]) rfl).far (by show w.heap.size + 2 ≠ w.heap.size + 3; omega) _
      · exact ((((HOWN.out.2.2.2.1.alloc _).grown hg4 (fun e => by have := hba _ e.symm; omega)).far (by show w.heap.size + 3 ≠ w.heap.size + 2; omega) _).set_ 0 _).of_eq (cs' := #[.int .i64 (SV + x2)]) rfl
    have HFIN := Lib.hid fin
    clear fin
    by_cases hmo : x1 = 1
    · have hmob : (x1 != 1) = false := by simp [hmo]
      have hst1 : s1 (pre ++ [⟨⟨x0, x1, x2⟩, hx⟩]) = S ++ [⟨x0, x1, x2⟩] := by rw [HSTEP.out, if_pos hmo]
      -- where it goes on
      have go : ∀ g cap w4, w4.ownsRow w1.heap.size 3 1 (.slice (some ⟨g, 0, none⟩) (m + 1) cap) (m + 1) (eList eInt (S.map Us.block) ++ [.int .i64 x0]) → (W.alloc (.cells #[.int .i64 x0] 3)).grownBy w4 (Value.slice A3 m c3).ownBlock → m ≠ 2 → (m = 0 ∨ SV + x2 ≤ 3 * lines) →
          KeepsFrom w1.heap.size W ((w4.setCell ⟨w.heap.size + 2, 0, none⟩ (.slice (some ⟨g, 0, none⟩) (m + 1) cap)).setCell ⟨w.heap.size + 3, 0, none⟩ (.int .i64 (SV + x2))) ∧ KpR B R W ((w4.setCell ⟨w.heap.size + 2, 0, none⟩ (.slice (some ⟨g, 0, none⟩) (m + 1) cap)).setCell ⟨w.heap.size + 3, 0, none⟩ (.int .i64 (SV + x2))) ∧ TI w lines w1.heap.size (pre ++ [⟨⟨x0, x1, x2⟩, hx⟩]) ((w4.setCell ⟨w.heap.size + 2, 0, none⟩ (.slice (some ⟨g, 0, none⟩) (m + 1) cap)).setCell ⟨w.heap.size + 3, 0, none⟩ (.int .i64 (SV + x2))) := fun g cap w4 h1 h2 hm2 hor => by
        obtain ⟨⟨f1, f2, f3, f4, f5, f6⟩, f7, f8, f9⟩ := HFIN.out g cap w4 h1 h2
        have hl3 : ((S ++ [(⟨x0, x1, x2⟩ : Us)]).map Us.block).length = m + 1 := by simp [HP.out.2.2.1]
        refine ⟨f1, f2, ⟨f3, f7, ⟨some ⟨g, 0, none⟩, cap, ?_, ?_⟩, ?_, f4⟩, f5, ?_, ?_⟩
        · rw [hst1, hl3]; exact f8
        · rw [hst1, hl3, List.map_append]; exact f6
        · rw [hst1, sumV_snoc, HP.out.2.1]; exact f9
        · rw [hst1, List.length_append, HP.out.2.2.1]; simp; omega
        · rw [hst1, List.length_append, HP.out.2.2.1, sumV_snoc, HP.out.2.1]
          intro h
          simp at h
          rcases hor with h3 | h3
          · omega
          · exact h3
      have HGO := Lib.hid go
      have HST1 := Lib.hid hst1
      have HMO := Lib.hid hmo
      clear go hst1 hmo
      by_cases e0 : m = 0
      · subst e0
        have HG2 := Lib.hid (fun g cap w4 h1 h2 => HGO.out g cap w4 h1 h2 (by omega) (Or.inl rfl))
        gi_wp2_with fail
        refine ⟨trivial, ?_⟩
        gi_wp2_with (first | (gi_at_builtin; refine wpListIn_app rfl (.tmp 26) (.tmp 29) 32 rfl Try.underlying32 info_int_v rfl (by omega) (by omega) rfl (HOWN.out.1.alloc _) rfl (heap_alloc_new W _) rfl (by simp [Value.oneCell']) (by omega) (by simp; omega) ?_; intro g cap w4 hown4 hg4 hor4 hlt4; have hbO4 := (HOWN.out.2.1.alloc (.cells #[.int .i64 x0] 3)).grown hg4 (fun e => by have := own_base HOWN.out.1 _ e.symm; omega); have ks4 := (HOWN.out.2.2.2.1.alloc (.cells #[.int .i64 x0] 3)).grown hg4 (fun e => by have := own_base HOWN.out.1 _ e.symm; omega); have bx4 := (HOWN.out.2.2.2.2.1.alloc (.cells #[.int .i64 x0] 3)).grown hg4 (fun e => own_ne_blk HOWN.out.1 HOWN.out.2.2.2.2.1 (by decide) e.symm); have br4 := (HOWN.out.2.2.2.2.2.alloc (.cells #[.int .i64 x0] 3)).grown hg4 (fun e => by have := own_base HOWN.out.1 _ e.symm; omega); have of4 := hbO4.frozen 0; have o4 := (hbO4.cell 0).trans rfl; have s4 := (ks4.cell 0).trans rfl; have sf4 := ks4.frozen 0; have x4 := (bx4.cell 2).trans rfl; have rf4 := br4.frozen 0; have r4 := (br4.cell 0).trans rfl))
        all_goals (try (exfalso; rename_i h1_ h2_; cases h1_; done))
        all_goals exact HG2.out _ _ _ hown4 hg4
      · have e0b : (0 : Int) < (m : Int) := by omega
        by_cases hs : SV + x2 ≤ 3 * lines
        · have hd : decide (SV + x2 ≤ 3 * lines) = true := by simpa using hs
          have hvf := HVF.out
          rw [hd] at hvf
          have HVF2 := Lib.hid hvf
          by_cases e2 : m = 2
          · subst e2
            have h3 : ∀ (g cap : Nat) (w4 : World), w4.ownsRow w1.heap.size 3 1 (.slice (some ⟨g, 0, none⟩) (2 + 1) cap) (2 + 1) (eList eInt (S.map Us.block) ++ [.int .i64 x0]) → (W.alloc (.cells #[.int .i64 x0] 3)).grownBy w4 (Value.slice A3 2 c3).ownBlock →
                KeepsFrom w1.heap.size W (((w4.setCell ⟨w.heap.size + 2, 0, none⟩ (.slice (some ⟨g, 0, none⟩) (2 + 1) cap)).setCell ⟨w.heap.size + 3, 0, none⟩ (.int .i64 (SV + x2))).setCell ⟨w.heap.size + 1, 0, none⟩ (.slice (some ⟨g, 0, none⟩) (2 + 1) cap)) ∧ TX w lines w1.heap.size Code.ret (pre ++ [⟨⟨x0, x1, x2⟩, hx⟩]) (((w4.setCell ⟨w.heap.size + 2, 0, none⟩ (.slice (some ⟨g, 0, none⟩) (2 + 1) cap)).setCell ⟨w.heap.size + 3, 0, none⟩ (.int .i64 (SV + x2))).setCell ⟨w.heap.size + 1, 0, none⟩ (.slice (some ⟨g, 0, none⟩) (2 + 1) cap)) := fun g cap w4 h1 h2 => by
              obtain ⟨⟨f1, f2, f3, f4, f5, f6⟩, f7, f8, f9⟩ := HFIN.out g cap w4 h1 h2
              have hgb := own_base h1 g rfl
              refine ⟨f1.trans ((KeepsOthers.setCell _ _ _).from _), rfl, ⟨some ⟨g, 0, none⟩, 2 + 1, cap, S.map Us.block ++ [x0], (f5.set_ 0 _).of_eq (cs' := #[.slice (some ⟨g, 0, none⟩) (2 + 1) cap]) rfl, ?_, fun rest => ?_⟩, f3.setCell (p := ⟨w.heap.size + 1, 0, none⟩) (by show w.heap.size ≤ w.heap.size + 1; omega) _⟩
              · exact f6.kept (row := some (w.heap.size + 1)) (grown_set (g := w.heap.size + 1) (grown_of_below (Below.refl _ _) _) 0 (.slice (some ⟨g, 0, none⟩) (2 + 1) cap)) (Or.inr (fun e => by have e' : some g = some (w.heap.size + 1) := e; injection e' with e'; omega))
              · rw [s1_app, HST1.out, List.append_assoc]
                exact (HP.out.2.2.2.2.2 rfl hs rest).symm
            have H3 := Lib.hid h3
            clear e0 hvf hd hs h3
            gi_wp2_with fail
            refine ⟨trivial, ?_⟩
            refine (CallsIn.inRound l (callsIn_wide.2 (HVF2.out _))).mono ?_
            rintro e W2 ⟨rfl, rfl⟩
            gi_wp2_with (first | (gi_at_builtin; refine wpListIn_app rfl (.tmp 26) (.tmp 29) 32 rfl Try.underlying32 info_int_v rfl (by omega) (by omega) rfl (HOWN.out.1.alloc _) rfl (heap_alloc_new W _) rfl (by simp [Value.oneCell']) (by omega) (by simp; omega) ?_; intro g cap w4 hown4 hg4 hor4 hlt4; have hbO4 := (HOWN.out.2.1.alloc (.cells #[.int .i64 x0] 3)).grown hg4 (fun e => by have := own_base HOWN.out.1 _ e.symm; omega); have ks4 := (HOWN.out.2.2.2.1.alloc (.cells #[.int .i64 x0] 3)).grown hg4 (fun e => by have := own_base HOWN.out.1 _ e.symm; omega); have bx4 := (HOWN.out.2.2.2.2.1.alloc (.cells #[.int .i64 x0] 3)).grown hg4 (fun e => own_ne_blk HOWN.out.1 HOWN.out.2.2.2.2.1 (by decide) e.symm); have br4 := (HOWN.out.2.2.2.2.2.alloc (.cells #[.int .i64 x0] 3)).grown hg4 (fun e => by have := own_base HOWN.out.1 _ e.symm; omega); have of4 := hbO4.frozen 0; have o4 := (hbO4.cell 0).trans rfl; have s4 := (ks4.cell 0).trans rfl; have sf4 := ks4.frozen 0; have x4 := (bx4.cell 2).trans rfl; have rf4 := br4.frozen 0; have r4 := (br4.cell 0).trans rfl))
            exact H3.out _ _ _ hown4 hg4
          · have e2b : ((m : Int) + 1 == 3) = false := by simp; omega
            have HG2 := Lib.hid (fun g cap w4 h1 h2 => HGO.out g cap w4 h1 h2 e2 (Or.inr hs))
            clear e0 hvf hd hs e2
            gi_wp2_with fail
            refine ⟨trivial, ?_⟩
            refine (CallsIn.inRound l (callsIn_wide.2 (HVF2.out _))).mono ?_
            rintro e W2 ⟨rfl, rfl⟩
            gi_wp2_with (first | (gi_at_builtin; refine wpListIn_app rfl (.tmp 26) (.tmp 29) 32 rfl Try.underlying32 info_int_v rfl (by omega) (by omega) rfl (HOWN.out.1.alloc _) rfl (heap_alloc_new W _) rfl (by simp [Value.oneCell']) (by omega) (by simp; omega) ?_; intro g cap w4 hown4 hg4 hor4 hlt4; have hbO4 := (HOWN.out.2.1.alloc (.cells #[.int .i64 x0] 3)).grown hg4 (fun e => by have := own_base HOWN.out.1 _ e.symm; omega); have ks4 := (HOWN.out.2.2.2.1.alloc (.cells #[.int .i64 x0] 3)).grown hg4 (fun e => by have := own_base HOWN.out.1 _ e.symm; omega); have bx4 := (HOWN.out.2.2.2.2.1.alloc (.cells #[.int .i64 x0] 3)).grown hg4 (fun e => own_ne_blk HOWN.out.1 HOWN.out.2.2.2.2.1 (by decide) e.symm); have br4 := (HOWN.out.2.2.2.2.2.alloc (.cells #[.int .i64 x0] 3)).grown hg4 (fun e => by have := own_base HOWN.out.1 _ e.symm; omega); have of4 := hbO4.frozen 0; have o4 := (hbO4.cell 0).trans rfl; have s4 := (ks4.cell 0).trans rfl; have sf4 := ks4.frozen 0; have x4 := (bx4.cell 2).trans rfl; have rf4 := br4.frozen 0; have r4 := (br4.cell 0).trans rfl))
            exact HG2.out _ _ _ hown4 hg4
        · have hd : decide (SV + x2 ≤ 3 * lines) = false := by simpa using hs
          have hvf := HVF.out
          rw [hd] at hvf
          have HVF2 := Lib.hid hvf
          have hx3 : KeepsFrom w1.heap.size W (W.setCell ⟨w.heap.size + 1, 0, none⟩ (.slice none 0 0)) ∧ TX w lines w1.heap.size Code.ret (pre ++ [⟨⟨x0, x1, x2⟩, hx⟩]) (W.setCell ⟨w.heap.size + 1, 0, none⟩ (.slice none 0 0)) := by
            refine ⟨(KeepsOthers.setCell _ _ _).from _, rfl, ⟨none, 0, 0, [], (HOWN.out.2.2.2.2.2.set_ 0 _).of_eq (cs' := #[.slice none 0 0]) rfl, World.ownsRow_nil _ _ _ _, fun rest => ?_⟩, HIC.out.iv.below.setCell (p := ⟨w.heap.size + 1, 0, none⟩) (by show w.heap.size ≤ w.heap.size + 1; omega) _⟩
            rw [s1_app, HST1.out, List.append_assoc]
            exact (HP.out.2.2.2.2.1 (by omega) (by omega) HMO.out rest).symm
          have HX := Lib.hid hx3
          clear e0 hvf hd hs hx3
          gi_wp2_with fail
          refine ⟨trivial, ?_⟩
          refine (CallsIn.inRound l (callsIn_wide.2 (HVF2.out _))).mono ?_
          rintro e W2 ⟨rfl, rfl⟩
          gi_wp2
          exact HX.out
    · have hmob : (x1 != 1) = true := by simpa using hmo
      have hst1 : s1 (pre ++ [⟨⟨x0, x1, x2⟩, hx⟩]) = S := by rw [HSTEP.out, if_neg hmo, List.append_nil]
      have hti : TI w lines w1.heap.size (pre ++ [⟨⟨x0, x1, x2⟩, hx⟩]) W := by
        have h := HIC.out
        have hS := HP.out.1
        refine ⟨?_, h.rb, ?_, ?_⟩
        · rw [hst1, ← hS]; exact h.iv
        · rw [hst1, ← hS]; exact h.len
        · rw [hst1, ← hS]; exact h.two
      have HTI := Lib.hid hti
      clear hti hst1 hmo
      gi_wp2
      exact ⟨KeepsFrom.refl _ _, kpR_refl _ _ _, HTI.out⟩
  case done =>
    rintro D ys W hD hys hic hK
    have hT : tripleF lines ((zOf lines xs M).filter slcB) = [] := by
      have h := trip_few lines (s1 ys) hic.len
      rw [hys] at h
      rw [← HZAT.out]
      exact h
    have hrb := hic.rb
    have rf := hrb.frozen 0
    have r0 := (hrb.cell 0).trans rfl
    have hKD : (W.setCell ⟨w.heap.size + 1, 0, none⟩ (.slice none 0 0)).heap[D]? = some (.deferred (some [])) := (Below.heap_setCell W ⟨w.heap.size + 1, 0, none⟩ _ D (by show D ≠ w.heap.size + 1; omega)).trans hK
    have kF : Blk ((W.setCell ⟨w.heap.size + 1, 0, none⟩ (.slice none 0 0)).putObj D (.deferred none)) (w.heap.size + 1) 32 #[.slice none 0 0] := (World.putObj_heap_other (by omega)).trans ((hrb.set_ 0 (.slice none 0 0)).of_eq (cs' := #[.slice none 0 0]) rfl)
    have cF := (kF.cell 0).trans rfl
    have hbe : Below w.heap.size w ((W.setCell ⟨w.heap.size + 1, 0, none⟩ (.slice none 0 0)).putObj D (.deferred none)) := (hic.iv.below.setCell (p := ⟨w.heap.size + 1, 0, none⟩) (by show w.heap.size ≤ w.heap.size + 1; omega) _).trans (belowK_b (w := w) (Nat.le_refl _) _ D _ _ (by omega) hKD rfl rfl)
    have HE := Lib.hid (show TripPost lines xs w (.returned (.slice none 0 0)) ((W.setCell ⟨w.heap.size + 1, 0, none⟩ (.slice none 0 0)).putObj D (.deferred none)) from ⟨none, 0, 0, M, HR.out, rfl, by rw [hT]; exact World.ownsRow_nil _ _ _ _, hbe⟩)
    have HKD := Lib.hid hKD
    have HCF := Lib.hid cF
    clear hic hrb hK hKD kF cF hbe hT HST HTI0
    dsimp only
    go_wp2_with fail
    refine ⟨by simp, .inl ⟨D, _, rfl, run_takeDeferred HKD.out, ?_⟩⟩
    exact ⟨.slice none 0 0, by have cF := HCF.out; simp [results, Try.results46, go_sem, cF], HE.out⟩
  case stop =>
    rintro D cd pre W hD hpre hx hK
    obtain ⟨rfl, ⟨A3, m3, c3, T, hrb, hown3, hT⟩, hbel⟩ := hx
    obtain ⟨rest, hrest⟩ := hpre
    have hT2 : T = tripleF lines ((zOf lines xs M).filter slcB) := by
      rw [hT rest, hrest, ← HZAT.out]
    have kF : Blk (W.putObj D (.deferred none)) (w.heap.size + 1) 32 #[.slice A3 m3 c3] := (World.putObj_heap_other (by omega)).trans hrb
    have cF := (kF.cell 0).trans rfl
    have HE := Lib.hid (show TripPost lines xs w (.returned (.slice A3 m3 c3)) (W.putObj D (.deferred none)) from ⟨A3, m3, c3, M, HR.out, rfl, by rw [← hT2]; exact own_mono (own_from hown3 (grownBy_putObj' W D _) (fun r e => by injection e with e; subst e; exact ⟨_, hK, rfl⟩)) (by omega), hbel.trans (belowK_b (w := w) (Nat.le_refl _) W D _ _ (by omega) hK rfl rfl)⟩)
    have HKD := Lib.hid hK
    have HCF := Lib.hid cF
    clear hrb hown3 hT hbel hK hT2 kF cF HST HTI0
    refine wpIn_wide.2 ?_
    go_wp2_with fail
    refine ⟨by simp, .inl ⟨D, _, rfl, run_takeDeferred HKD.out, ?_⟩⟩
    exact ⟨.slice A3 m3 c3, by have cF := HCF.out; simp [results, Try.results46, go_sem, cF], HE.out⟩
#print axioms triple_any
end Go.Proofs.Ytdjfkehbknbocaa

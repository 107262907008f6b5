/- The walk of victim.Gather. -/
import Derived.Test.YtdjfkehbknbocaaVict
import Derived.WalkMore
namespace Go.Proofs.Ytdjfkehbknbocaa
open Go.RowKit Go.Shelf
set_option linter.unusedSimpArgs false
set_option linter.unusedVariables false
attribute [local go_sem] Oper.semAt_some

theorem zOf_may {lines : Int} {xs : List Us} {M : List Nat} (h : RankedBy lines xs M) : ∀ u ∈ zOf lines xs M, mayU lines u = true := by
  intro u hu
  obtain ⟨i, hi, rfl⟩ := List.mem_map.1 hu
  have hi := h.perm.mem_iff.1 hi
  simp [List.mem_range'_1] at hi
  have hm : (xs.filter (mayU lines))[i]'hi ∈ xs.filter (mayU lines) := List.getElem_mem hi
  rw [uOf_get (List.getElem?_eq_getElem hi)]
  exact (List.mem_filter.1 hm).2
theorem own_ne_blk {W : World} {base : Nat} {e : TypeId} {size n : Nat} {v : Value} {xs : List Value} {B : Nat} {t : TypeId} {cs : Array Value} (h : W.ownsRow base e size v n xs) (hb : Blk W B t cs) (hne : t ≠ e) : v.ownBlock ≠ some B := by
  intro e1
  rcases h.2 with ⟨rfl, _⟩ | ⟨g, cap, cur, rfl, _, hh, _⟩
  · cases e1
  · have : g = B := by simpa [Value.ownBlock] using e1
    subst this
    unfold Blk at hb
    rw [hb] at hh
    injection hh with hh
    injection hh with _ hh
    exact hne hh
def GathPost (lines : Int) (xs : List Us) (w : World) (e : Ending) (w' : World) : Prop := ∃ A n c M T, RankedBy lines xs M ∧ Gath lines (zOf lines xs M) T ∧ e = .returned (.slice A n c) ∧
  w'.ownsRow w.heap.size 3 1 (.slice A n c) n (eList eInt (gOut T)) ∧ Below w.heap.size w w'
abbrev MayUs (lines : Int) := { u : Us // mayU lines u = true }
abbrev v1 {lines : Int} (pre : List (MayUs lines)) : List Us := pre.map (·.1)
theorem v1_bd {lines : Int} (pre : List (MayUs lines)) : ∀ u ∈ v1 pre, mayU lines u = true := by
  intro u hu
  obtain ⟨a, _, rfl⟩ := List.mem_map.1 hu
  exact a.2
/-- Between two rounds of Gather. -/
structure GI (w : World) (lines : Int) (hi : Nat) (pre : List (MayUs lines)) (W : World) : Prop where
  iv : IV w lines w.heap.size (w.heap.size + 1) (w.heap.size + 2) hi ((v1 pre).map Us.block) (sumV (v1 pre)) W
  go : GPre lines (v1 pre)
def GX (w : World) (lines : Int) (hi : Nat) (cd : Code) (pre : List (MayUs lines)) (W : World) : Prop := cd = Code.exit 0 ∧ ∃ pre' x, pre = pre' ++ [x] ∧ GI w lines hi pre' W ∧ ¬ goesG lines (v1 pre') x.1
theorem GI.kept {w W W' : World} {lines : Int} {hi : Nat} {pre : List (MayUs lines)} {row : Option Nat} (h : GI w lines hi pre W) (hh : w.heap.size + 2 < hi) (hg : W.grownBy W' row) (hr : ∀ r, row = some r → hi ≤ r ∧ ∃ o : Obj, W.heap[r]? = some o ∧ o.isCells = false) : GI w lines hi pre W' :=
  ⟨h.iv.kept (by omega) (by omega) (by omega) (by omega) hg hr, h.go⟩
theorem GI.done {w W : World} {lines : Int} {hi : Nat} {pre : List (MayUs lines)} (h : GI w lines hi pre W) (hh : w.heap.size ≤ hi) : ∃ A c, Blk W (w.heap.size + 1) 32 #[.slice A (v1 pre).length c] ∧ W.ownsRow w.heap.size 3 1 (.slice A (v1 pre).length c) (v1 pre).length (eList eInt ((v1 pre).map Us.block)) := by
  obtain ⟨A, c, hb, ho⟩ := h.iv.ob
  rw [List.length_map] at hb ho
  exact ⟨A, c, hb, own_mono ho hh⟩
set_option maxRecDepth 100000 in
set_option maxHeartbeats 40000000 in
theorem gather_any (lines : Int) (A : Option Addr) (n c : Nat) (xs : List Us) (w : World) (hn : n ≤ 100000) (hl : lines ≤ 64) (hA : Sl eUs 3 w A n xs) (hbd : ∀ x ∈ xs, x.valid ≤ 9223372036854775807) :
    Calls Try.prog 47 #[.int .i64 lines, .slice A n c] w (GathPost lines xs w) := by
  have hlen := hA.len
  have HA := Lib.hid hA
  clear hA
  have HBD := Lib.hid hbd
  clear hbd
  have HLEN := Lib.hid hlen
  clear hlen
  refine (callsIn_wide (n := 3)).1 ?_
  refine callsIn_of_wp_marks Try.func47 rfl trivial ?_ rfl
  refine wpIn_wide.2 ?_
  simp only [Try.ntmps47, List.size_toArray, List.length_cons, List.length_nil, Nat.reduceAdd, Nat.reduceSub, Array.replicate_succ, Array.replicate_zero, List.push_toArray, List.append_toArray, List.nil_append, List.cons_append]
  go_wp2_with fail
  go_step3
  go_wp2_with fail
  go_step3
  go_wp2_with fail
  have k0 := ((Blk.new w 3 #[.int .i64 lines]).alloc (.cells #[.slice none 0 0] 32)).alloc (.cells #[.int .i64 0] 3)
  have k1 := (Blk.new1 w (.cells #[.int .i64 lines] 3) 32 #[.slice none 0 0]).alloc (.cells #[.int .i64 0] 3)
  have k2 := Blk.new ((w.alloc (.cells #[.int .i64 lines] 3)).alloc (.cells #[.slice none 0 0] 32)) 3 #[.int .i64 0]
  simp only [World.size_alloc] at k2
  have hw0 : Below w.heap.size w (((w.alloc (.cells #[.int .i64 lines] 3)).alloc (.cells #[.slice none 0 0] 32)).alloc (.cells #[.int .i64 0] 3)) := by ((try change Below _ _ _); (repeat (any_goals (first | (with_reducible exact Below.refl _ _) | (with_reducible exact Below.refl _ _) | (with_reducible apply Below.drew) | (with_reducible apply below_drewN) | (with_reducible refine Below.alloc ?_ ?_ _) | (with_reducible refine Below.setCell ?_ ?_ _)))); all_goals (first | exact Nat.le_refl _ | (simp; done) | (simp; omega) | omega | (dsimp only; omega)))
  have hs0 : (((w.alloc (.cells #[.int .i64 lines] 3)).alloc (.cells #[.slice none 0 0] 32)).alloc (.cells #[.int .i64 0] 3)).heap.size = w.heap.size + 3 := by simp
  refine (ranked_any lines A n c xs _ hn (HA.out.below hw0) HBD.out).mono ?_
  rintro e w1 ⟨B, A1, c1, M, rfl, hBw, hBb, hR, hown, hb1⟩
  have k0 := k0.below_ hb1
  have k1 := k1.below_ hb1
  have k2 := k2.below_ hb1
  have hw1 := below_tr hw0 hb1
  rw [hs0] at hBw
  have hsz : w.heap.size + 3 ≤ w1.heap.size := by have := hb1.size; rw [hs0] at this; exact this
  have hMl := hR.len
  have hfl := List.length_filter_le (mayU lines) xs
  have hMn : M.length ≤ n := by have := HLEN.out; omega
  have hzat : ((zOf lines xs M).attachWith (fun u => mayU lines u = true) (zOf_may hR)).map (fun a : MayUs lines => a.1) = zOf lines xs M := List.attachWith_map_subtype_val _
  have hzl : ((zOf lines xs M).attachWith (fun u => mayU lines u = true) (zOf_may hR)).length = M.length := by simp
  obtain ⟨ZS, hZS⟩ : ∃ ZS : List (MayUs lines), (zOf lines xs M).attachWith (fun u => mayU lines u = true) (zOf_may hR) = ZS := ⟨_, rfl⟩
  rw [hZS] at hzat hzl
  have hown' := hown
  rw [← hzat] at hown'
  have hST := iterU_stops2 2 B (B + 1) A1 M.length c1 77 (fun a : MayUs lines => a.1) ZS w1 hown' hBb (by omega)
  have hGI0 : GI w lines w1.heap.size ([] : List (MayUs lines)) w1 := ⟨⟨hw1, k0, ⟨none, 0, k1, World.ownsRow_nil _ _ _ _⟩, k2, Nat.le_refl _⟩, GPre.nil _⟩
  have hBl := hBb.lt
  have hrow : ∀ q, (Value.slice A1 M.length c1).ownBlock = some q → B + 1 ≤ q ∧ q < w1.heap.size := fun q e => ⟨own_base hown q e, own_lt hown q e⟩
  obtain ⟨R, hRr⟩ : ∃ R, (Value.slice A1 M.length c1).ownBlock = R := ⟨_, rfl⟩
  rw [hRr] at hST hrow
  have HR := Lib.hid hR
  have HST := Lib.hid hST
  have HGI0 := Lib.hid hGI0
  have HZAT := Lib.hid hzat
  have HZL := Lib.hid hzl
  have HROW := Lib.hid hrow
  have HW1 := Lib.hid hw1
  clear k0 k1 k2 hw0 hs0 hb1 hw1 hMl hfl hzat hzl hown hown' hST hGI0 hrow hRr hR hBb hZS
  go_wp2_with fail
  refine (wpIn_wide (n := 3)).1 ?_
  refine wpIn_rangeFunc_ownH (F := Fence.wide) (n := 3) rfl (by omega) (gf := 75) (lb := #[.pointer (some ⟨B, 0, none⟩)]) rfl trivial (enters_of Try.func75 (by kernel_rfl) rfl) HST.out kpR_t (kpR_b hBl (fun q e => (HROW.out q e).2)) (Below.refl _ _) (fun _ => rfl)
    (fun pre W => GI w lines w1.heap.size pre W) (fun cd pre W => GX w lines w1.heap.size cd pre W)
    (fun pre X Y row h hg hr => h.kept (by omega) hg hr) (fun cd pre X Y row h hg hr => by
      obtain ⟨h1, pre', x, h2, h3, h4⟩ := h
      exact ⟨h1, pre', x, h2, h3.kept (by omega) hg hr, h4⟩) HGI0.out
    (fun x a' W => ∃ Bx, AxU w1.heap.size x.1 ((fun (x : Us) Bx => #[.int .i64 lines, .slice A n c, .pointer (some ⟨w.heap.size, 0, none⟩), undef, .slice none 0 0, .pointer (some ⟨w.heap.size + 1, 0, none⟩), .pointer (some ⟨w.heap.size + 2, 0, none⟩), .pointer (some ⟨Bx, 0, none⟩), .int .i64 lines, .slice A n c, .func (.func 75) #[] #[.pointer (some ⟨B, 0, none⟩)], x.agg, undef, undef, undef, undef, undef, undef, undef, undef, undef, undef, undef, undef, undef, undef, undef, undef, undef, undef, undef, undef, undef, undef, undef, undef, undef, undef, undef, undef]) x.1) a' Bx W) (fun x a' => AxU.own x.1 _ a') ?assign ?body ?done ?stop
  case assign =>
    rintro l pre ⟨⟨x0, x1, x2⟩, hx⟩ W K hic hK
    simp only [Us.agg]
    gi_wp2
    have hsz2 := hic.iv.size
    exact hK _ _ ((KeepsOthers.alloc _ _).from _) (kpR_alloc (kpR_refl _ _ _) (by omega) (fun q e => by have := (HROW.out q e).2; omega) _) ⟨hic.iv.alloc _, hic.go⟩ ⟨W.heap.size, hsz2, Blk.new W _ _, rfl⟩
  case body =>
    rintro l pre ⟨⟨x0, x1, x2⟩, hx⟩ a' W hll _ hic ⟨Bx, lx, bx, rfl⟩ hlen2
    obtain ⟨A3, c3, hbO, hownO⟩ := hic.iv.ob
    simp only [List.length_map] at hbO hownO
    have hbx := mayU_bd hx
    have hsv := sumV_bd (v1_bd pre)
    have hp4 := hic.go.le4
    simp only [List.length_map] at hsv hp4
    have hsb : sumV (v1 pre) ≤ 1000 := by
      have e : 3 * lines * (pre.length : Int) ≤ 192 * 4 := by
        have h1 : (3 * lines) * (pre.length : Int) ≤ 192 * (pre.length : Int) := Int.mul_le_mul_of_nonneg_right (by omega) (by omega)
        omega
      omega
    have hs0 : 0 ≤ sumV (v1 pre) := by omega
    obtain ⟨b1, b2, b3, b4⟩ := hbx
    simp only at b1 b2 b4
    have o0 := (hbO.cell 0).trans rfl
    have of0 := hbO.frozen 0
    have kl := hic.iv.lb
    have ks := hic.iv.sb
    have l0 := (kl.cell 0).trans rfl
    have s0 := (ks.cell 0).trans rfl
    have sf0 := ks.frozen 0
    have c0 := (bx.cell 0).trans rfl
    have c1 := (bx.cell 1).trans rfl
    have c2 := (bx.cell 2).trans rfl
    obtain ⟨SV, hSV⟩ : ∃ SV, sumV (v1 pre) = SV := ⟨_, rfl⟩
    obtain ⟨m, hm⟩ : ∃ m, pre.length = m := ⟨_, rfl⟩
    rw [hSV] at s0 hsb hs0 ks
    rw [hm] at hbO hownO hp4 o0
    have HIC := Lib.hid hic
    have HOWN := Lib.hid (And.intro hownO (And.intro hbO (And.intro kl (And.intro ks bx))))
    have hgS : ∀ h : goesG lines (v1 pre) ⟨x0, x1, x2⟩, GPre lines (v1 (pre ++ [⟨⟨x0, x1, x2⟩, hx⟩])) := fun h => by
      simp only [v1, List.map_append, List.map_cons, List.map_nil]
      exact hic.go.snoc h
    have hsS : sumV (v1 (pre ++ [⟨⟨x0, x1, x2⟩, hx⟩])) = sumV (v1 pre) + x2 := by
      simp only [v1, List.map_append, List.map_cons, List.map_nil, sumV_snoc]
    have hbS : (v1 (pre ++ [⟨⟨x0, x1, x2⟩, hx⟩])).map Us.block = (v1 pre).map Us.block ++ [x0] := by
      simp only [v1, List.map_append, List.map_cons, List.map_nil]
    have HGS := Lib.hid hgS
    have HSS := Lib.hid hsS
    have HBS := Lib.hid hbS
    have hgo : ¬ (m = 4) → (m = 0 ∨ SV + x2 ≤ 3 * lines) → goesG lines (v1 pre) ⟨x0, x1, x2⟩ := fun h h2 => ⟨by rw [List.length_map, hm]; exact h, fun h3 => by rw [List.length_map, hm] at h3; rw [hSV]; rcases h2 with h2 | h2 <;> first | omega | exact h2⟩
    have hng4 : m = 4 → ¬ goesG lines (v1 pre) ⟨x0, x1, x2⟩ := fun h h2 => h2.1 (by rw [List.length_map, hm]; exact h)
    have hngs : 0 < m → ¬ SV + x2 ≤ 3 * lines → ¬ goesG lines (v1 pre) ⟨x0, x1, x2⟩ := fun h h2 h3 => h2 (by have := h3.2 (by rw [List.length_map, hm]; exact h); rw [hSV] at this; exact this)
    have HGO := Lib.hid hgo
    have HN4 := Lib.hid hng4
    have HNS := Lib.hid hngs
    have hvf := fun W => vfits_any lines SV x2 hs0 (by omega) b1 (by omega) W
    have HSV := Lib.hid hSV
    have HM := Lib.hid hm
    have hszW := hic.iv.size
    have HVF := Lib.hid hvf
    clear hic hownO hbO kl ks bx hlen2 hsv hgS hsS hbS hgo hng4 hngs hvf hSV hm
    have HGOES : Hid (¬ (m = 4) → (m = 0 ∨ SV + x2 ≤ 3 * lines) → ∀ (g cap : Nat) (W6 : World), Blk W6 w.heap.size 3 #[.int .i64 lines] → Blk W6 (w.heap.size + 1) 32 #[.slice (some ⟨g, 0, none⟩) (m + 1) cap] → Blk W6 (w.heap.size + 2) 3 #[.int .i64 (SV + x2)] → (W6.ownsRow w1.heap.size 3 1 (.slice (some ⟨g, 0, none⟩) (m + 1) cap) (m + 1) (eList eInt ((v1 pre).map Us.block) ++ [.int .i64 x0])) → Below w.heap.size w W6 → w1.heap.size ≤ W6.heap.size → GI w lines w1.heap.size (pre ++ [⟨⟨x0, x1, x2⟩, hx⟩]) W6) := fun h1 h2 g cap W6 h3 h4 h5 h6 h7 h8 => by
      have hsv2 : sumV (v1 (pre ++ [⟨⟨x0, x1, x2⟩, hx⟩])) = SV + x2 := by rw [HSS.out, HSV.out]
      have hl2 : ((v1 (pre ++ [⟨⟨x0, x1, x2⟩, hx⟩])).map Us.block).length = m + 1 := by rw [← HM.out]; simp
      refine ⟨⟨h7, h3, ⟨some ⟨g, 0, none⟩, cap, ?_, ?_⟩, by rw [hsv2]; exact h5, h8⟩, HGS.out (HGO.out h1 h2)⟩
      · rw [hl2]; exact h4
      · rw [hl2, HBS.out, eList_snoc]; exact h6
    have fin : ∀ (g cap : Nat) (w4 : World), w4.ownsRow w1.heap.size 3 1 (.slice (some ⟨g, 0, none⟩) (m + 1) cap) (m + 1) (eList eInt ((v1 pre).map Us.block) ++ [.int .i64 x0]) → (W.alloc (.cells #[.int .i64 x0] 3)).grownBy w4 (Value.slice A3 m c3).ownBlock → ¬ (m = 4) → (m = 0 ∨ SV + x2 ≤ 3 * lines) →
        KeepsFrom w1.heap.size W ((w4.setCell ⟨w.heap.size + 1, 0, none⟩ (.slice (some ⟨g, 0, none⟩) (m + 1) cap)).setCell ⟨w.heap.size + 2, 0, none⟩ (.int .i64 (SV + x2))) ∧ KpR B R W ((w4.setCell ⟨w.heap.size + 1, 0, none⟩ (.slice (some ⟨g, 0, none⟩) (m + 1) cap)).setCell ⟨w.heap.size + 2, 0, none⟩ (.int .i64 (SV + x2))) ∧ GI w lines w1.heap.size (pre ++ [⟨⟨x0, x1, x2⟩, hx⟩]) ((w4.setCell ⟨w.heap.size + 1, 0, none⟩ (.slice (some ⟨g, 0, none⟩) (m + 1) cap)).setCell ⟨w.heap.size + 2, 0, none⟩ (.int .i64 (SV + x2))) := fun g cap w4 hown4 hg4 e1 e2 => by
      have hba := fun q e => own_base HOWN.out.1 q e
      have hgb := own_base hown4 g rfl
      refine ⟨?_, ?_, HGOES.out e1 e2 g cap _ ?_ ?_ ?_ ?_ ?_ ?_⟩
      · exact ((((KeepsOthers.alloc W _).trans (KeepsOthers.of_grownBy hg4 (own_isCellsU (HOWN.out.1.alloc _)))).trans (KeepsOthers.setCell _ _ _)).trans (KeepsOthers.setCell _ _ _)).from _
      · exact kpR_set (kpR_set (kpR_own (kpR_alloc (kpR_refl B R W) (by omega) (fun q e => by have := (HROW.out q e).2; omega) _) hg4 (by omega) (fun q e => by have := (HROW.out q e).2; omega) (fun q e => ⟨by have := hba q e; omega, fun e2 => by have := hba q e; have := (HROW.out q e2).2; omega⟩)) _ _ (by show B ≠ w.heap.size + 1; omega) (fun q e => by have := (HROW.out q e).1; show q ≠ w.heap.size + 1; omega)) _ _ (by show B ≠ w.heap.size + 2; omega) (fun q e => by have := (HROW.out q e).1; show q ≠ w.heap.size + 2; omega)
      · exact ((((HOWN.out.2.2.1.alloc _).grown hg4 (fun e => by have := hba _ e.symm; omega)).far (by show w.heap.size ≠ w.heap.size + 1; omega) _).far (by show w.heap.size ≠ w.heap.size + 2; omega) _)
      · exact ((((HOWN.out.2.1.alloc _).grown hg4 (fun e => by have := hba _ e.symm; omega)).set_ 0 _).of_eq (cs' := #[.slice (some ⟨g, 0, none⟩) (m + 1) cap]) rfl).far (by show w.heap.size + 1 ≠ w.heap.size + 2; omega) _
      · exact ((((HOWN.out.2.2.2.1.alloc _).grown hg4 (fun e => by have := hba _ e.symm; omega)).far (by show w.heap.size + 2 ≠ w.heap.size + 1; omega) _).set_ 0 _).of_eq (cs' := #[.int .i64 (SV + x2)]) rfl
      · have h5 := hown4.kept (row := some (w.heap.size + 1)) (grown_set (g := w.heap.size + 1) (grown_of_below (Below.refl _ w4) _) 0 (.slice (some ⟨g, 0, none⟩) (m + 1) cap)) (Or.inr (fun e => by have e' : some g = some (w.heap.size + 1) := e; injection e' with e'; omega))
        exact h5.kept (row := some (w.heap.size + 2)) (grown_set (g := w.heap.size + 2) (grown_of_below (Below.refl _ _) _) 0 (.int .i64 (SV + x2))) (Or.inr (fun e => by have e' : some g = some (w.heap.size + 2) := e; injection e' with e'; omega))
      · exact (((HIC.out.iv.below.alloc HIC.out.iv.below.size _).grown hg4 (by have := HIC.out.iv.below.size; simp; omega) (fun q e => by have := hba q e; omega)).setCell (p := ⟨w.heap.size + 1, 0, none⟩) (by show w.heap.size ≤ w.heap.size + 1; omega) _).setCell (p := ⟨w.heap.size + 2, 0, none⟩) (by show w.heap.size ≤ w.heap.size + 2; omega) _
      · have h6 := hg4.size
        simp at h6 ⊢
        omega
    have HFIN := Lib.hid fin
    clear fin
    by_cases e4 : m = 4
    · have e4b : ((m : Int) == 4) = true := by simp; omega
      have HX := Lib.hid (HN4.out e4)
      clear e4
      gi_wp2
      exact ⟨KeepsFrom.refl _ _, rfl, pre, ⟨⟨x0, x1, x2⟩, hx⟩, rfl, HIC.out, HX.out⟩
    · have e4b : ((m : Int) == 4) = false := by simp; omega
      by_cases e0 : m = 0
      · subst e0
        have HF2 := Lib.hid (fun g cap w4 h1 h2 => HFIN.out g cap w4 h1 h2 e4 (Or.inl rfl))
        clear e4 e4b
        gi_wp2_with fail
        refine ⟨trivial, ?_⟩
        gi_wp2_with (first | (gi_at_builtin; refine wpListIn_app rfl (.tmp 27) (.tmp 30) 32 rfl Try.underlying32 info_int_v rfl (by omega) (by omega) rfl (HOWN.out.1.alloc _) rfl (heap_alloc_new W _) rfl (by simp [Value.oneCell']) (by omega) (by simp; omega) ?_; intro g cap w4 hown4 hg4 hor4 hlt4; have hbO4 := (HOWN.out.2.1.alloc (.cells #[.int .i64 x0] 3)).grown hg4 (fun e => by have := own_base HOWN.out.1 _ e.symm; omega); have ks4 := (HOWN.out.2.2.2.1.alloc (.cells #[.int .i64 x0] 3)).grown hg4 (fun e => by have := own_base HOWN.out.1 _ e.symm; omega); have bx4 := (HOWN.out.2.2.2.2.alloc (.cells #[.int .i64 x0] 3)).grown hg4 (fun e => own_ne_blk HOWN.out.1 HOWN.out.2.2.2.2 (by decide) e.symm); have of4 := hbO4.frozen 0; have o4 := (hbO4.cell 0).trans rfl; have s4 := (ks4.cell 0).trans rfl; have sf4 := ks4.frozen 0; have x4 := (bx4.cell 2).trans rfl))
        exact HF2.out _ _ _ hown4 hg4
      · have e0b : (0 : Int) < (m : Int) := by omega
        by_cases hs : SV + x2 ≤ 3 * lines
        · have hd : decide (SV + x2 ≤ 3 * lines) = true := by simpa using hs
          have hvf := HVF.out
          rw [hd] at hvf
          have HVF2 := Lib.hid hvf
          have HF2 := Lib.hid (fun g cap w4 h1 h2 => HFIN.out g cap w4 h1 h2 e4 (Or.inr hs))
          clear e4 e0 hvf hd hs
          gi_wp2_with fail
          refine ⟨trivial, ?_⟩
          refine (CallsIn.inRound l (callsIn_wide.2 (HVF2.out _))).mono ?_
          rintro e W2 ⟨rfl, rfl⟩
          gi_wp2_with (first | (gi_at_builtin; refine wpListIn_app rfl (.tmp 27) (.tmp 30) 32 rfl Try.underlying32 info_int_v rfl (by omega) (by omega) rfl (HOWN.out.1.alloc _) rfl (heap_alloc_new W _) rfl (by simp [Value.oneCell']) (by omega) (by simp; omega) ?_; intro g cap w4 hown4 hg4 hor4 hlt4; have hbO4 := (HOWN.out.2.1.alloc (.cells #[.int .i64 x0] 3)).grown hg4 (fun e => by have := own_base HOWN.out.1 _ e.symm; omega); have ks4 := (HOWN.out.2.2.2.1.alloc (.cells #[.int .i64 x0] 3)).grown hg4 (fun e => by have := own_base HOWN.out.1 _ e.symm; omega); have bx4 := (HOWN.out.2.2.2.2.alloc (.cells #[.int .i64 x0] 3)).grown hg4 (fun e => own_ne_blk HOWN.out.1 HOWN.out.2.2.2.2 (by decide) e.symm); have of4 := hbO4.frozen 0; have o4 := (hbO4.cell 0).trans rfl; have s4 := (ks4.cell 0).trans rfl; have sf4 := ks4.frozen 0; have x4 := (bx4.cell 2).trans rfl))
          exact HF2.out _ _ _ hown4 hg4
        · have hd : decide (SV + x2 ≤ 3 * lines) = false := by simpa using hs
          have hvf := HVF.out
          rw [hd] at hvf
          have HVF2 := Lib.hid hvf
          have HX := Lib.hid (HNS.out (by omega) hs)
          clear e4 e0 hvf hd hs
          gi_wp2_with fail
          refine ⟨trivial, ?_⟩
          refine (CallsIn.inRound l (callsIn_wide.2 (HVF2.out _))).mono ?_
          rintro e W2 ⟨rfl, rfl⟩
          gi_wp2
          exact ⟨KeepsFrom.refl _ _, rfl, pre, ⟨⟨x0, x1, x2⟩, hx⟩, rfl, HIC.out, HX.out⟩
  case done =>
    rintro D ys W hD hys hic hK
    have hG : Gath lines (zOf lines xs M) (v1 ys) := ⟨by rw [hys, ← HZAT.out]; exact List.prefix_refl _, hic.go, Or.inl (by rw [hys, ← HZAT.out])⟩
    dsimp only
    obtain ⟨A3, c3, hbO, hownO⟩ := hic.done (by omega)
    have o0 := (hbO.cell 0).trans rfl
    have hbel := hic.iv.below
    obtain ⟨m, hm⟩ : ∃ m, (v1 ys).length = m := ⟨_, rfl⟩
    rw [hm] at o0 hownO
    have fin : ∀ A n c, W.ownsRow w.heap.size 3 1 (.slice A n c) n (eList eInt (gOut (v1 ys))) → GathPost lines xs w (.returned (.slice A n c)) (W.putObj D (.deferred none)) := fun A n c ho =>
      ⟨A, n, c, M, v1 ys, HR.out, hG, rfl, own_from ho (grownBy_putObj' W D _) (fun r e => by injection e with e; subst e; exact ⟨_, hK, rfl⟩), hbel.trans (belowK_b (w := w) (Nat.le_refl _) W D _ _ (by omega) hK rfl rfl)⟩
    have HKD := Lib.hid hK
    have HFIN := Lib.hid fin
    have HO := Lib.hid hownO
    have HM := Lib.hid hm
    clear hic hbO hownO hbel hG hK hm fin HST HGI0
    by_cases h2 : m < 2
    · have h2' : (m : Int) < 2 := by omega
      have hg0 : gOut (v1 ys) = [] := by simp only [gOut]; rw [HM.out, if_pos h2]
      have HE := Lib.hid (HFIN.out none 0 0 (by rw [hg0]; exact World.ownsRow_nil _ _ _ _))
      clear hg0 h2
      go_wp2_with fail
      refine ⟨by simp, .inl ⟨D, _, rfl, run_takeDeferred HKD.out, ?_⟩⟩
      exact ⟨.slice none 0 0, by simp [results, Try.results47, go_sem], HE.out⟩
    · have h2' : ¬ (m : Int) < 2 := by omega
      have hg0 : gOut (v1 ys) = (v1 ys).map Us.block := by simp only [gOut]; rw [HM.out, if_neg h2]
      have HE := Lib.hid (HFIN.out A3 m c3 (by rw [hg0]; exact HO.out))
      clear hg0 h2
      go_wp2_with fail
      refine ⟨by simp, .inl ⟨D, _, rfl, run_takeDeferred HKD.out, ?_⟩⟩
      exact ⟨.slice A3 m c3, by simp [results, Try.results47, go_sem], HE.out⟩
  case stop =>
    rintro D cd pre W hD hpre ⟨rfl, ys, x, rfl, hic, hng⟩ hK
    have hpm : v1 ys ++ [x.1] <+: zOf lines xs M := by
      rw [← HZAT.out]
      have h := hpre.map (fun a : MayUs lines => a.1)
      simpa using h
    have hG : Gath lines (zOf lines xs M) (v1 ys) := ⟨(List.prefix_append _ _).trans hpm, hic.go, Or.inr ⟨x.1, hpm, hng⟩⟩
    clear hpm hpre hng
    obtain ⟨A3, c3, hbO, hownO⟩ := hic.done (by omega)
    have o0 := (hbO.cell 0).trans rfl
    have hbel := hic.iv.below
    obtain ⟨m, hm⟩ : ∃ m, (v1 ys).length = m := ⟨_, rfl⟩
    rw [hm] at o0 hownO
    have fin : ∀ A n c, W.ownsRow w.heap.size 3 1 (.slice A n c) n (eList eInt (gOut (v1 ys))) → GathPost lines xs w (.returned (.slice A n c)) (W.putObj D (.deferred none)) := fun A n c ho =>
      ⟨A, n, c, M, v1 ys, HR.out, hG, rfl, own_from ho (grownBy_putObj' W D _) (fun r e => by injection e with e; subst e; exact ⟨_, hK, rfl⟩), hbel.trans (belowK_b (w := w) (Nat.le_refl _) W D _ _ (by omega) hK rfl rfl)⟩
    have HKD := Lib.hid hK
    have HFIN := Lib.hid fin
    have HO := Lib.hid hownO
    have HM := Lib.hid hm
    clear hic hbO hownO hbel hG hK hm fin HST HGI0
    refine wpIn_wide.2 ?_
    by_cases h2 : m < 2
    · have h2' : (m : Int) < 2 := by omega
      have hg0 : gOut (v1 ys) = [] := by simp only [gOut]; rw [HM.out, if_pos h2]
      have HE := Lib.hid (HFIN.out none 0 0 (by rw [hg0]; exact World.ownsRow_nil _ _ _ _))
      clear hg0 h2
      go_wp2_with fail
      refine ⟨by simp, .inl ⟨D, _, rfl, run_takeDeferred HKD.out, ?_⟩⟩
      exact ⟨.slice none 0 0, by simp [results, Try.results47, go_sem], HE.out⟩
    · have h2' : ¬ (m : Int) < 2 := by omega
      have hg0 : gOut (v1 ys) = (v1 ys).map Us.block := by simp only [gOut]; rw [HM.out, if_neg h2]
      have HE := Lib.hid (HFIN.out A3 m c3 (by rw [hg0]; exact HO.out))
      clear hg0 h2
      go_wp2_with fail
      refine ⟨by simp, .inl ⟨D, _, rfl, run_takeDeferred HKD.out, ?_⟩⟩
      exact ⟨.slice A3 m c3, by simp [results, Try.results47, go_sem], HE.out⟩
#print axioms gather_any
end Go.Proofs.Ytdjfkehbknbocaa

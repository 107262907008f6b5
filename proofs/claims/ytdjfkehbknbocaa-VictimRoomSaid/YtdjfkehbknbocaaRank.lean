/- The walks of victim.Ranked and its comparison: what may be folded, the fewer first. -/
import Derived.Test.YtdjfkehbknbocaaSortGU
import Derived.Test.YtdjfkehbknbocaaSortJU
import Derived.Test.YtdjfkehbknbocaaSortK
import Derived.Test.YtdjfkehbknbocaaCmpOr
import Derived.Deep.RegionHeld3
namespace Go.Proofs.Ytdjfkehbknbocaa
open Go.RowKit
set_option linter.unusedSimpArgs false
set_option linter.unusedVariables false

abbrev cfU (u v : Us) : Int := orF [cmpF u.valid v.valid, cmpF u.block v.block]
theorem cfU_ok : CmpOK cfU := cmpOK_two Us.valid Us.block
theorem info_use : (Try.prog.info? 83).map (fun i => (i.zero, i.size, i.bytes)) = some (some (.agg #[.int .i64 0, .int .i64 0, .int .i64 0]), 3, 24) := by kernel_rfl
theorem info_int_v : (Try.prog.info? 3).map (fun i => (i.zero, i.size, i.bytes)) = some (some (.int .i64 0), 1, 8) := by kernel_rfl
theorem rank1_any (u v : Us) (w : World) : Calls Try.prog 74 #[u.agg, v.agg] w fun e w' => e = .returned (.int .i64 (cfU u v)) ∧ Below w.heap.size w w' := by
  obtain ⟨p1, p2, p3⟩ := u
  obtain ⟨q1, q2, q3⟩ := v
  simp only [Us.agg, cfU]
  have hc3 := fun W => compare_int p3 q3 W
  have hc4 := fun W => compare_int p1 q1 W
  generalize cmpF p3 q3 = x at hc3 ⊢
  generalize cmpF p1 q1 = y at hc4 ⊢
  have hor := fun W b c hA => or_any (some ⟨b, 0, none⟩) 2 c [x, y] W hA
  generalize orF [x, y] = z at hor ⊢
  have HC3 := Lib.hid hc3
  clear hc3
  have HC4 := Lib.hid hc4
  clear hc4
  have HOR := Lib.hid hor
  clear hor
  obtain ⟨w0, hw0⟩ : ∃ w0, (w.alloc (.cells #[.int .i64 p1, .int .i64 p2, .int .i64 p3] 83)).alloc (.cells #[.int .i64 q1, .int .i64 q2, .int .i64 q3] 83) = w0 := ⟨_, rfl⟩
  have k1 : Blk w0 w.heap.size 83 #[.int .i64 p1, .int .i64 p2, .int .i64 p3] := by rw [← hw0]; exact (Blk.new w 83 #[.int .i64 p1, .int .i64 p2, .int .i64 p3]).alloc _
  have k2 : Blk w0 (w.heap.size + 1) 83 #[.int .i64 q1, .int .i64 q2, .int .i64 q3] := by rw [← hw0]; exact Blk.new1 w _ 83 #[.int .i64 q1, .int .i64 q2, .int .i64 q3]
  have hs0 : w0.heap.size = w.heap.size + 1 + 1 := by rw [← hw0]; simp
  have hb0 : Below w.heap.size w w0 := by rw [← hw0]; exact ((Below.refl _ w).alloc (Nat.le_refl _) _).alloc (by simp) _
  have hb : ∀ W, Below w0.heap.size w0 W → W.cell? ⟨w.heap.size, 2, none⟩ = some (.int .i64 p3) ∧ W.cell? ⟨w.heap.size + 1, 2, none⟩ = some (.int .i64 q3) ∧ W.cell? ⟨w.heap.size, 0, none⟩ = some (.int .i64 p1) ∧ W.cell? ⟨w.heap.size + 1, 0, none⟩ = some (.int .i64 q1) := fun W hW =>
    ⟨((k1.below_ hW).cell 2).trans rfl, ((k2.below_ hW).cell 2).trans rfl, ((k1.below_ hW).cell 0).trans rfl, ((k2.below_ hW).cell 0).trans rfl⟩
  have k0 := hb _ (Below.refl _ _).drew
  have hb1 : Below w0.heap.size w0 (w0.alloc (.cells #[.int .i64 x, .int .i64 y] 3)).drew := ((Below.refl _ _).alloc (Nat.le_refl _) _).drew
  have hsl : Sl eInt 1 (w0.alloc (.cells #[.int .i64 x, .int .i64 y] 3)).drew (some ⟨w.heap.size + 1 + 1, 0, none⟩) 2 [x, y] := by
    have h := Blk.new w0 3 #[.int .i64 x, .int .i64 y]
    rw [hs0] at h
    exact Sl.of_blk (enc := eInt) (k := 1) (fun _ => rfl) h.drew rfl rfl (by omega)
  have kz := hb _ hb1
  have HS0 := Lib.hid hs0
  have HB := Lib.hid hb
  clear hb
  have HB0 := Lib.hid hb0
  clear hb0
  have HB1 := Lib.hid hb1
  clear hb1
  have HSL := Lib.hid hsl
  clear hsl
  clear k1 k2 hs0
  obtain ⟨b0, b1, b2, b3⟩ := id k0
  go_enter Try.func74, Try.ntmps74
  go_wp2_with fail
  clear hw0
  have hs0 := HS0.out
  go_region_held3 (fun W => W.cell? ⟨w.heap.size, 2, none⟩ = some (.int .i64 p3) ∧ W.cell? ⟨w.heap.size + 1, 2, none⟩ = some (.int .i64 q3) ∧ W.cell? ⟨w.heap.size, 0, none⟩ = some (.int .i64 p1) ∧ W.cell? ⟨w.heap.size + 1, 0, none⟩ = some (.int .i64 q1)) (first | go_keep | (exact k0) | (exact kz) | (exact kk))
    (first | (go_at_call 72; first | ((with_reducible refine (HC3.out _).mono ?_); rintro e w3 ⟨rfl, rfl⟩; have k3 := k0) | ((with_reducible refine (HC4.out _).mono ?_); rintro e w4 ⟨rfl, rfl⟩; have k4 := k0)) | (go_at_call 71; refine (HOR.out _ _ _ HSL.out).mono ?_; rintro e w5 ⟨rfl, hb5⟩; have hb6 := below_tr HB1.out hb5; have kk := HB.out _ hb6))
  go_wp2
  go_ret
  exact ⟨rfl, below_tr HB0.out hb6⟩
/-- May a use be folded? -/
def mayU (lines : Int) (u : Us) : Bool := (u.mode == 1 || u.mode == 2) && (decide (1 ≤ u.valid) && (decide (1 ≤ lines) && decide ((u.valid - 1) / 3 < lines)))
def uOf (xs : List Us) (i : Nat) : Us := xs[i]?.getD ⟨0, 0, 0⟩
theorem uOf_map {xs : List Us} {n : Nat} (h : xs.length = n) : (List.range' 0 n).map (uOf xs) = xs := by
  refine List.ext_getElem? fun q => ?_
  rw [List.getElem?_map]
  by_cases hq : q < n
  · rw [List.getElem?_range' hq]
    simp only [Option.map_some, uOf, Nat.zero_add, Nat.one_mul]
    rw [List.getElem?_eq_getElem (by omega)]
    rfl
  · rw [List.getElem?_eq_none (by simp; omega), List.getElem?_eq_none (by omega)]
    rfl
theorem uOf_get {xs : List Us} {i : Nat} {y : Us} (h : xs[i]? = some y) : uOf xs i = y := by simp [uOf, h]
/-- A list in ranked order: the uses that may be folded, by a sorted order of their places. -/
structure RankedBy (lines : Int) (xs : List Us) (M : List Nat) : Prop where
  perm : M.Perm (List.range' 0 (xs.filter (mayU lines)).length)
  srt : Srt cfU (uOf (xs.filter (mayU lines))) M
abbrev zOf (lines : Int) (xs : List Us) (M : List Nat) : List Us := M.map (uOf (xs.filter (mayU lines)))
theorem RankedBy.len {lines : Int} {xs : List Us} {M : List Nat} (h : RankedBy lines xs M) : M.length = (xs.filter (mayU lines)).length := by have := h.perm.length_eq; simpa using this
theorem filterU_snoc (p : Us → Bool) {xs : List Us} {k : Nat} {x : Us} (hx : xs[k]? = some x) : (xs.take (k + 1)).filter p = (xs.take k).filter p ++ if p x = true then [x] else [] := by
  rw [List.take_add_one, hx, Option.toList_some, List.filter_append]
  cases h : p x <;> simp [h]
theorem Sl.us_ {w : World} {A : Option Addr} {n : Nat} {xs : List Us} (h : Sl eUs 3 w A n xs) {j : Nat} (hj : j < n) : ∃ b off x, A = some ⟨b, off, none⟩ ∧ b < w.heap.size ∧ xs[j]? = some x ∧
    w.cell? ⟨b, off + j * 3, none⟩ = some (.int .i64 x.block) ∧ w.cell? ⟨b, off + j * 3 + 1, none⟩ = some (.int .i64 x.mode) ∧ w.cell? ⟨b, off + j * 3 + 2, none⟩ = some (.int .i64 x.valid) := by
  obtain ⟨b, off, x, e, hb, hx, hc⟩ := h.get_ hj
  exact ⟨b, off, x, e, hb, hx, by simpa using hc 0 _ rfl, hc 1 _ rfl, hc 2 _ rfl⟩
def RankPost (lines : Int) (xs : List Us) (w : World) (e : Ending) (w' : World) : Prop := ∃ B A c M, e = .returned (.func (.func 75) #[] #[.pointer (some ⟨B, 0, none⟩)]) ∧ w.heap.size ≤ B ∧ Blk w' B 77 #[.slice A M.length c] ∧ RankedBy lines xs M ∧
  w'.ownsRow (B + 1) 83 3 (.slice A M.length c) M.length (eList eUs (zOf lines xs M)) ∧ Below w.heap.size w w'
/-- Between two rounds of Ranked's own loop. -/
structure RL (lines : Int) (xs : List Us) (w : World) (k m : Nat) (A : Option Addr) (c : Nat) (wr : World) : Prop where
  box : Blk wr w.heap.size 77 #[.slice A m c]
  own : wr.ownsRow (w.heap.size + 1) 83 3 (.slice A m c) m (eList eUs ((xs.take k).filter (mayU lines)))
  below : Below w.heap.size w wr
theorem RL.alloc {lines : Int} {xs : List Us} {w wr : World} {k m : Nat} {A : Option Addr} {c : Nat} (h : RL lines xs w k m A c wr) (o : Obj) : RL lines xs w k m A c (wr.alloc o) := ⟨h.box.alloc o, h.own.alloc o, h.below.alloc h.below.size o⟩
set_option maxRecDepth 100000 in
set_option maxHeartbeats 40000000 in
theorem ranked_any (lines : Int) (A : Option Addr) (n c : Nat) (xs : List Us) (w : World) (hn : n ≤ 100000) (hA : Sl eUs 3 w A n xs) (hbd : ∀ x ∈ xs, x.valid ≤ 9223372036854775807) :
    Calls Try.prog 44 #[.int .i64 lines, .slice A n c] w (RankPost lines xs w) := by
  have hmf : ∀ (fn : Fn) (first cap : Array Value) (w : World), (Instr.makeFunc fn first cap).run Try.prog w = .ok (.func fn first cap) w := fun _ _ _ _ => rfl
  have hlen := hA.len
  have HA := Lib.hid hA
  clear hA
  have HBD := Lib.hid hbd
  clear hbd
  go_enter Try.func44, Try.ntmps44
  go_wp2_with fail
  go_loopw [10] (fun u wr => ∃ k : Nat, k ≤ n ∧ u = .int .i64 k ∧ Hid (∃ m A' c', m ≤ k ∧ RL lines xs w k m A' c' wr)) (fun u _ => n - (intOf u).toNat)
  case atStart => exact ⟨0, Nat.zero_le _, rfl, 0, none, 0, Nat.le_refl _, Blk.new w _ _, World.ownsRow_nil _ _ _ _, (Below.refl _ w).alloc (Nat.le_refl _) _⟩
  case round =>
    obtain ⟨k, hk, rfl, H⟩ := hrel
    by_cases hlt : k < n
    · have hlt' : (k : Int) < (n : Int) := by omega
      obtain ⟨m, A', c', hmk, hRL⟩ := H.out
      obtain ⟨b, off, x, rfl, hb, hx, q0, q1, q2⟩ := (HA.out.below hRL.below).us_ hlt
      have hst := filterU_snoc (mayU lines) hx
      have hxb := HBD.out x (List.mem_of_getElem? hx)
      obtain ⟨x0, x1, x2⟩ := x
      simp only at hxb
      simp only at q0 q1 q2
      have hRA := hRL.alloc (.cells #[.int .i64 x0, .int .i64 x1, .int .i64 x2] 83)
      have HSK : Hid (mayU lines ⟨x0, x1, x2⟩ = false → ∃ m A' c', m ≤ k + 1 ∧ RL lines xs w (k + 1) m A' c' (wr.alloc (.cells #[.int .i64 x0, .int .i64 x1, .int .i64 x2] 83))) := fun hf => by
        rw [hf, if_neg (by simp), List.append_nil] at hst
        exact ⟨m, A', c', by omega, hRA.box, by rw [hst]; exact hRA.own, hRA.below⟩
      have HST := Lib.hid hst
      have bx0 := (hRA.box.cell 0).trans rfl
      have bf0 := hRA.box.frozen 0
      have HRA := Lib.hid hRA
      clear hst hx hb H hRL hRA
      have hmode : (((x1 == 1) = true) ∨ ((x1 == 1) = false ∧ (x1 == 2) = true)) ∨ ((x1 == 1) = false ∧ (x1 == 2) = false) := by cases (x1 == 1) <;> cases (x1 == 2) <;> simp
      rcases hmode with hmode | ⟨m1, m2⟩
      · by_cases v1 : 1 ≤ x2
        · by_cases l1 : 1 ≤ lines
          · by_cases d1 : (x2 - 1) / 3 < lines
            · have hmay : mayU lines ⟨x0, x1, x2⟩ = true := by
                have : (x1 == 1 || x1 == 2) = true := by rcases hmode with h | ⟨h, h'⟩ <;> simp [*]
                simp [mayU, this, v1, l1, d1]
              have HST2 : Hid ((xs.take (k + 1)).filter (mayU lines) = (xs.take k).filter (mayU lines) ++ [⟨x0, x1, x2⟩]) := Lib.hid (by rw [HST.out, hmay]; simp)
              have HMO := Lib.hid (show m < 1000000000 by omega)
              clear hmay HST HSK
              rcases hmode with m1 | ⟨m1, m2⟩
              all_goals
                go_wp2_with (first | (at_builtin; refine wpList_app rfl (.tmp 39) (.tmp 41) 77 rfl Try.underlying77 info_use rfl (by omega) (by omega) rfl (HRA.out.own.alloc _) rfl (Blk.new1 wr _ _ _) rfl (by simp [Value.oneCell']) HMO.out (by have h3 := HRA.out.below.size; rw [World.size_alloc] at h3; rw [World.size_alloc, World.size_alloc]; omega) ?_; intro g cap w2 hown2 hg hor hlt2; have hbx2 := (HRA.out.box.alloc (.cells #[.int .i64 x0, .int .i64 x1, .int .i64 x2] 83)).grown hg (fun e => by have := own_base HRA.out.own w.heap.size e.symm; omega); have s0 := (hbx2.cell 0).trans rfl; have sf0 := hbx2.frozen 0))
                have hbe : Below w.heap.size w w2 := (HRA.out.below.alloc HRA.out.below.size _).grown hg (by have h3 := HRA.out.below.size; rw [World.size_alloc] at h3; rw [World.size_alloc, World.size_alloc]; omega) (fun q e => Nat.le_of_succ_le (own_base HRA.out.own q e))
                have hgb := own_base hown2 g rfl
                have hown3 := hown2.kept (row := some w.heap.size) (grown_set (g := w.heap.size) (grown_of_below (Below.refl _ w2) _) 0 (.slice (some ⟨g, 0, none⟩) (m + 1) cap)) (Or.inr (fun e => by have e' : some g = some w.heap.size := e; injection e' with e'; omega))
                have hbx3 := (hbx2.set_ 0 (.slice (some ⟨g, 0, none⟩) (m + 1) cap)).of_eq (cs' := #[.slice (some ⟨g, 0, none⟩) (m + 1) cap]) rfl
                have HE : Hid (∃ m2 A' c', m2 ≤ k + 1 ∧ RL lines xs w (k + 1) m2 A' c' (w2.setCell ⟨w.heap.size, 0, none⟩ (.slice (some ⟨g, 0, none⟩) (m + 1) cap))) :=
                  ⟨m + 1, some ⟨g, 0, none⟩, cap, by omega, hbx3, by rw [HST2.out, eList_snoc]; exact hown3, hbe.setCell (p := ⟨w.heap.size, 0, none⟩) (Nat.le_refl _) _⟩
                clear hbe hgb hown3 hbx3 hown2 hg hor hlt2 hbx2 s0 sf0
                go_wp2
                first
                  | (go_roundw
                     case rel => exact ⟨k + 1, by omega, by go_num, HE.out⟩
                     case measure => simp [intOf]; omega)
                  | exact ⟨⟨k + 1, by omega, by go_num, HE.out⟩, by simp [intOf]; omega⟩
            · have HE := Lib.hid (HSK.out (by simp [mayU, d1]))
              clear HSK HST
              rcases hmode with m1 | ⟨m1, m2⟩
              all_goals
                go_wp2
                first
                  | (go_roundw
                     case rel => exact ⟨k + 1, by omega, by go_num, HE.out⟩
                     case measure => simp [intOf]; omega)
                  | exact ⟨⟨k + 1, by omega, by go_num, HE.out⟩, by simp [intOf]; omega⟩
          · have HE := Lib.hid (HSK.out (by simp [mayU, l1]))
            clear HSK HST
            rcases hmode with m1 | ⟨m1, m2⟩
            all_goals
              go_wp2
              first
                | (go_roundw
                   case rel => exact ⟨k + 1, by omega, by go_num, HE.out⟩
                   case measure => simp [intOf]; omega)
                | exact ⟨⟨k + 1, by omega, by go_num, HE.out⟩, by simp [intOf]; omega⟩
        · have HE := Lib.hid (HSK.out (by simp [mayU, v1]))
          clear HSK HST
          rcases hmode with m1 | ⟨m1, m2⟩
          all_goals
            go_wp2
            first
              | (go_roundw
                 case rel => exact ⟨k + 1, by omega, by go_num, HE.out⟩
                 case measure => simp [intOf]; omega)
              | exact ⟨⟨k + 1, by omega, by go_num, HE.out⟩, by simp [intOf]; omega⟩
      · have HE := Lib.hid (HSK.out (by simp only [mayU, m1, m2, Bool.or_false, Bool.false_and]))
        clear HSK HST
        go_wp2
        first
          | (go_roundw
             case rel => exact ⟨k + 1, by omega, by go_num, HE.out⟩
             case measure => simp [intOf]; omega)
          | exact ⟨⟨k + 1, by omega, by go_num, HE.out⟩, by simp [intOf]; omega⟩
    · have hkn : k = n := by omega
      subst hkn
      obtain ⟨m, A', c', hmk, hRL⟩ := H.out
      rw [show k = xs.length by omega] at hRL
      obtain ⟨h1, h2, h3⟩ := hRL
      rw [List.take_length] at h2
      have hml := ownU_zlen h2
      have s0 := (h1.cell 0).trans rfl
      obtain ⟨ys, hys⟩ : ∃ ys, xs.filter (mayU lines) = ys := ⟨_, rfl⟩
      rw [hys] at h2 hml
      rw [← uOf_map hml] at h2
      have hs := sortStableU_any cfU rank1_any cfU_ok A' m c' (w.heap.size + 1) (uOf ys) (by omega) _ h2
      have HK := Lib.hid (And.intro h1 (And.intro h2 h3))
      have HYS := Lib.hid (And.intro hys hml)
      have HS := Lib.hid hs
      clear hs
      have hlt' : ¬ (k : Int) < (k : Int) := by omega
      clear h1 h2 h3 H hys hml
      go_wp2_with fail
      refine HS.out.mono ?_
      rintro e w2 ⟨⟨v, rfl⟩, M, hp, hso, hown, hgr⟩
      have hne : some w.heap.size ≠ (Value.slice A' m c').ownBlock := fun e => by
        have := own_base HK.out.2.1 _ e.symm
        omega
      have hkb := HK.out.1.grown hgr hne
      have hbe : Below w.heap.size w w2 := HK.out.2.2.grown hgr HK.out.2.2.size (fun q e => by have := own_base HK.out.2.1 q e; omega)
      have hMl : M.length = m := by have := hp.length_eq; simpa using this
      have hyl := HYS.out.2
      have hye := HYS.out.1
      have HF := Lib.hid (show RankPost lines xs w (.returned (.func (.func 75) #[] #[.pointer (some ⟨w.heap.size, 0, none⟩)])) w2 from
        ⟨w.heap.size, A', c', M, rfl, Nat.le_refl _, by rw [hMl]; exact hkb, ⟨by rw [hye, hyl]; exact hp, by rw [hye]; exact hso⟩, by rw [hMl, zOf, hye]; exact hown, hbe⟩)
      clear hp hso hown hgr hkb hbe HS HK hyl hye
      go_wp2
      go_ret
      exact HF.out
end Go.Proofs.Ytdjfkehbknbocaa

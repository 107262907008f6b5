/- The walks of fault.Ahead, its comparison, and the reference's: the faults, sorted by when they come. -/
import Derived.Test.YtdjfkehbknbocabSortGF
import Derived.Test.YtdjfkehbknbocabSortIF
import Derived.Test.YtdjfkehbknbocabSortK
import Derived.Test.YtdjfkehbknbocabCmp
import Derived.Test.YtdjfkehbknbocabFaultX
namespace Go.Proofs.Ytdjfkehbknbocab
open Go.RowKit
set_option linter.unusedSimpArgs false
set_option linter.unusedVariables false

abbrev cfF (u v : Ft) : Int := cmpF u.at_ v.at_
theorem cfF_ok : CmpOK cfF := cmpOK_one Ft.at_
theorem ahead1_any (u v : Ft) (W : World) : Calls Try.prog 24 #[u.agg, v.agg] W fun e w' => e = .returned (.int .i64 (cfF u v)) ∧ Below W.heap.size W w' := by
  obtain ⟨x0, x1, x2, x3⟩ := u
  obtain ⟨y0, y1, y2, y3⟩ := v
  have hc := fun W => compare_int x0 y0 W
  simp only [Ft.agg, cfF]
  generalize cmpF x0 y0 = z at hc ⊢
  have HC := Lib.hid hc
  clear hc
  go_enter Try.func24, Try.ntmps24
  go_wp2_with fail
  refine (HC.out _).mono ?_
  rintro e w1 ⟨rfl, rfl⟩
  go_wp2
  go_ret
  exact ⟨rfl, by ((try change Below _ _ _); (repeat (any_goals (first | (with_reducible exact Below.refl _ _) | (with_reducible exact Below.refl _ _) | (with_reducible apply Below.drew) | (with_reducible apply below_drewN) | (with_reducible refine Below.alloc ?_ ?_ _) | (with_reducible refine Below.setCell ?_ ?_ _)))); all_goals (first | exact Nat.le_refl _ | (simp; done) | (simp; omega) | omega | (dsimp only; omega)))⟩
/-- The faults by their places. -/
def xOf (xs : List Ft) (i : Nat) : Ft := xs[i]?.getD ⟨0, 0, 0, 0⟩
theorem xOf_map {xs : List Ft} {n : Nat} (h : xs.length = n) : (List.range' 0 n).map (xOf xs) = xs := by
  refine List.ext_getElem? fun q => ?_
  rw [List.getElem?_map]
  by_cases hq : q < n
  · rw [List.getElem?_range' hq]
    simp only [Option.map_some, xOf, Nat.zero_add, Nat.one_mul]
    rw [List.getElem?_eq_getElem (by omega)]
    rfl
  · rw [List.getElem?_eq_none (by simp; omega), List.getElem?_eq_none (by omega)]
    rfl
theorem xOf_get {xs : List Ft} {i : Nat} {y : Ft} (h : xs[i]? = some y) : xOf xs i = y := by simp [xOf, h]
/-- A sorted order of the faults. -/
structure Ordered (xs : List Ft) (n : Nat) (M : List Nat) : Prop where
  perm : M.Perm (List.range' 0 n)
  srt : Srt cfF (xOf xs) M
theorem Ordered.len {xs : List Ft} {n : Nat} {M : List Nat} (h : Ordered xs n M) : M.length = n := by have := h.perm.length_eq; simpa using this
def AheadPost (xs : List Ft) (n : Nat) (w : World) (e : Ending) (w' : World) : Prop := ∃ B A c M, e = .returned (.func (.func 26) #[] #[.pointer (some ⟨B, 0, none⟩)]) ∧ B < w'.heap.size ∧ w'.cell? ⟨B, 0, none⟩ = some (.slice A n c) ∧ Ordered xs n M ∧ Sl eFt 4 w' A n (M.map (xOf xs)) ∧ Below w.heap.size w w'
set_option maxRecDepth 100000 in
set_option maxHeartbeats 4000000 in
theorem ahead_any (A : Option Addr) (n c : Nat) (xs : List Ft) (w : World) (hn : n ≤ 100000) (hA : Sl eFt 4 w A n xs) :
    Calls Try.prog 10 #[.slice A n c] w (AheadPost xs n w) := by
  have hmf : ∀ (fn : Fn) (first cap : Array Value) (w : World), (Instr.makeFunc fn first cap).run Try.prog w = .ok (.func fn first cap) w := fun _ _ _ _ => rfl
  have hlen := hA.len
  have hcl := clone_any A n c xs w hn hA
  have HCL := Lib.hid hcl
  clear hcl
  have HLEN := Lib.hid hlen
  clear hlen
  clear hA
  go_enter Try.func10, Try.ntmps10
  go_wp2_with fail
  refine HCL.out.mono ?_
  rintro e w1 ⟨v, rfl, hown, hb1⟩
  obtain ⟨A1, c1, rfl⟩ := own_slice hown
  have hkb := Blk.new w1 31 #[.slice A1 n c1]
  have c0 := (hkb.cell 0).trans rfl
  have hown2 := hown.alloc (.cells #[.slice A1 n c1] 31)
  rw [← xOf_map HLEN.out] at hown2
  have hs := sortStableF_any cfF ahead1_any cfF_ok A1 n c1 w.heap.size (xOf xs) (by omega) _ hown2
  have HK := Lib.hid (And.intro hkb (And.intro hown hb1))
  have HS := Lib.hid hs
  clear hs
  clear hown hown2 hb1 hkb HCL
  go_wp2_with fail
  refine HS.out.mono ?_
  rintro e w2 ⟨⟨v, rfl⟩, M, hp, hso, hown, hgr⟩
  have hne : some w1.heap.size ≠ (Value.slice A1 n c1).ownBlock := fun e => by
    have := own_lt HK.out.2.1 _ e.symm
    omega
  have hkb := HK.out.1.grown hgr hne
  have hbe : Below w.heap.size w w2 := (HK.out.2.2.alloc HK.out.2.2.size _).grown hgr (by have := HK.out.2.2.size; simp; omega) (fun q e => own_base HK.out.2.1 q e)
  have c1' := (hkb.cell 0).trans rfl
  have hlt := hkb.lt
  have HF := Lib.hid (show AheadPost xs n w (.returned (.func (.func 26) #[] #[.pointer (some ⟨w1.heap.size, 0, none⟩)])) w2 from
    ⟨w1.heap.size, A1, c1, M, rfl, hlt, c1', ⟨hp, hso⟩, Sl.own (k := 4) (fun _ => rfl) (by omega) hown, hbe⟩)
  clear hp hso hown hgr hkb hbe HS HK c0 c1' hlt
  go_wp2
  go_ret
  exact HF.out

theorem made4 (n : Nat) : (madeCells (Value.agg #[.int .i64 0, .int .i64 0, .int .i64 0, .int .i64 0]).cells (n * 4)).toList = eList eFt (List.replicate n ⟨0, 0, 0, 0⟩) := by
  refine List.ext_getElem? fun q => ?_
  rw [Array.getElem?_toList]
  have hsz := size_madeCells (Value.agg #[.int .i64 0, .int .i64 0, .int .i64 0, .int .i64 0]).cells (n * 4)
  have hl := eList_len (en := eFt) (k := 4) (fun _ => rfl) (List.replicate n ⟨0, 0, 0, 0⟩)
  rw [List.length_replicate] at hl
  by_cases hq : q < n * 4
  · have hd : q / 4 * 4 + q % 4 = q := by omega
    have hm : q % 4 < 4 := by omega
    have hx : (List.replicate n (⟨0, 0, 0, 0⟩ : Ft))[q / 4]? = some ⟨0, 0, 0, 0⟩ := by
      rw [List.getElem?_replicate, if_pos (by omega)]
    have hv : (eFt ⟨0, 0, 0, 0⟩)[q % 4]? = some (.int .i64 0) := by
      match h : q % 4, hm with
      | 0, _ => rfl
      | 1, _ => rfl
      | 2, _ => rfl
      | 3, _ => rfl
    have hr := eList_get (enc := eFt) (k := 4) (fun _ => rfl) _ (q / 4) _ (q % 4) _ hx hv
    rw [hd] at hr
    rw [hr, Array.getElem?_eq_getElem (by omega)]
    congr 1
    simp only [madeCells, Array.getElem_map, Array.getElem_range]
    have e : (Value.agg #[.int .i64 0, .int .i64 0, .int .i64 0, .int .i64 0]).cells = #[.int .i64 0, .int .i64 0, .int .i64 0, .int .i64 0] := rfl
    rw [e]
    match h : q % 4, hm with
    | 0, _ => simp [h]
    | 1, _ => simp [h]
    | 2, _ => simp [h]
    | 3, _ => simp [h]
  · rw [Array.getElem?_eq_none (by omega), List.getElem?_eq_none (by omega)]
theorem makeF_run (n : Nat) (hn : n ≤ 100000) (w : World) : (Instr.makeSlice 31 (.int .i64 (n : Int)) (.int .i64 (n : Int))).run Try.prog w = .ok (.slice (some ⟨w.heap.size, 0, none⟩) n n) (w.alloc (.cells (madeCells (Value.agg #[.int .i64 0, .int .i64 0, .int .i64 0, .int .i64 0]).cells (n * 4)) 37)) := by
  obtain ⟨i, hi, hzz⟩ := Option.map_eq_some_iff.1 info_fault
  simp only [Prod.mk.injEq] at hzz
  obtain ⟨hz, hs, hb⟩ := hzz
  have h := run_makeSlice (P := Try.prog) w 31 37 i _ Try.underlying31 hi hz .i64 .i64 (n : Int) (n : Int) (by omega) (by omega) (by rw [hs]; simp; omega) (by rw [hb]; omega) (by omega)
  simp only [Int.toNat_natCast, hs] at h
  exact h
theorem makeF_own (n : Nat) (hn : n ≤ 100000) (w : World) : (w.alloc (.cells (madeCells (Value.agg #[.int .i64 0, .int .i64 0, .int .i64 0, .int .i64 0]).cells (n * 4)) 37)).ownsRow w.heap.size 37 4 (.slice (some ⟨w.heap.size, 0, none⟩) n n) n (eList eFt (List.replicate n ⟨0, 0, 0, 0⟩)) := by
  have h := World.ownsRow_lit (base := w.heap.size) (e := 37) (size := 4) w (madeCells (Value.agg #[.int .i64 0, .int .i64 0, .int .i64 0, .int .i64 0]).cells (n * 4)) n (Nat.le_refl _) (by simp only [maxLen]; omega) (size_madeCells _ _)
  rw [made4] at h
  exact h
end Go.Proofs.Ytdjfkehbknbocab

/- The walks of slices.Clone and slices.DeleteFunc over faults, and of Without. -/
import Derived.Test.YtdjfkehbknbocabFaultE
import Derived.Lib.SliceRun
namespace Go.Proofs.Ytdjfkehbknbocab
open Go.RowKit Go.Shelf
set_option linter.unusedSimpArgs false
set_option linter.unusedVariables false

theorem info_fault : (Try.prog.info? 37).map (fun i => (i.zero, i.size, i.bytes)) = some (some (.agg #[.int .i64 0, .int .i64 0, .int .i64 0, .int .i64 0]), 4, 32) := by kernel_rfl
def OwnOf (base : Nat) (e : TypeId) (size n : Nat) (xs : List Value) (w : World) (en : Ending) (w' : World) : Prop := ∃ v, en = .returned v ∧ w'.ownsRow base e size v n xs ∧ Below w.heap.size w w'

theorem eFt_one (y : Ft) : ∀ u ∈ eFt y, u.oneCell' = true := by simp [eFt, Value.oneCell']
theorem eListF_len {α : Type} {en : α → List Value} {k : Nat} (hlen : ∀ y, (en y).length = k) (xs : List α) : (eList en xs).length = xs.length * k := by
  induction xs with
  | nil => simp [eList]
  | cons y zs ih => simp only [eList, List.map_cons, List.flatten_cons, List.length_append, List.length_cons, hlen, Nat.add_mul] at ih ⊢; omega

set_option maxRecDepth 100000 in
set_option maxHeartbeats 2000000 in
theorem clone_any (A : Option Addr) (n c : Nat) (xs : List Ft) (w : World) (hn : n ≤ 100000) (hA : Sl eFt 4 w A n xs) :
    Calls Try.prog 22 #[.slice A n c] w (OwnOf w.heap.size 37 4 n (eList eFt xs) w) := by
  have hlen := hA.len
  cases A with
  | none =>
    have h0 : n = 0 := by
      rcases Nat.eq_zero_or_pos n with h | h
      · exact h
      · obtain ⟨b, off, e, _⟩ := hA.2.2 h; cases e
    subst h0
    obtain rfl : xs = [] := List.eq_nil_of_length_eq_zero hlen
    have hnil := fun W => Lib.run_eql_slice_nil (P := Try.prog) W 31 37 none 0 c 0 0 Try.underlying31
    clear hA
    go_enter Try.func22, Try.ntmps22
    go_wp2
    go_ret
    exact ⟨_, rfl, own_nil _ _ _ _, Below.refl _ _⟩
  | some ad =>
    have hnil := fun W => Lib.run_eql_slice_nil (P := Try.prog) W 31 37 (some ad) n c 0 0 Try.underlying31
    obtain ⟨i0, hi, hzz⟩ := Option.map_eq_some_iff.1 info_fault
    simp only [Prod.mk.injEq] at hzz
    obtain ⟨hz0, hz1, hz2⟩ := hzz
    have hcells : ∀ j u, (eList eFt xs)[j]? = some u → (w.alloc (.cells #[] 37)).cell? (ad.add j) = some u := by
      intro j u hu
      have hjl : j < xs.length * 4 := by rw [← eListF_len (en := eFt) (k := 4) (fun _ => rfl)]; exact (List.getElem?_eq_some_iff.1 hu).1
      obtain ⟨b, off, e, hb, hc⟩ := hA.2.2 (by omega)
      injection e with e
      subst e
      have hj0 : j / 4 < xs.length := by omega
      have hq := eList_get (enc := eFt) (k := 4) (fun _ => rfl) xs (j / 4) xs[j / 4] (j % 4) _ (List.getElem?_eq_getElem hj0) (List.getElem?_eq_getElem (by show j % 4 < 4; omega))
      rw [show j / 4 * 4 + j % 4 = j by omega, hu] at hq
      injection hq with hq
      subst hq
      have ha : (⟨b, off, none⟩ : Addr).add j = ⟨b, off + j / 4 * 4 + j % 4, none⟩ := by
        unfold Addr.add; split
        · rename_i h0; subst h0; simp
        · rw [show off + j = off + j / 4 * 4 + j % 4 by omega]
      rw [ha]
      exact cell_some_alloc _ (hc (j / 4) xs[j / 4] (List.getElem?_eq_getElem hj0) (j % 4) _ (List.getElem?_eq_getElem _))
    have HC := Lib.hid hcells
    have hE := own_empty (base := w.heap.size) w 37 4 (Nat.le_refl _)
    have HE := Lib.hid hE
    clear hE
    clear hcells hA
    go_enter Try.func22, Try.ntmps22
    go_wp2_with (first | (at_builtin; refine wpList_append_own_at _ rfl (.tmp 5) (.tmp 6) 31 rfl w.heap.size 37 i0 _ 4 32 Try.underlying31 hi hz0 hz1 hz2 rfl (by omega) (.slice (some ⟨w.heap.size, 0, none⟩) 0 0) 0 [] rfl HE.out ad n c (eList eFt xs) rfl (by rw [eListF_len (en := eFt) (k := 4) (fun _ => rfl), hlen]) HC.out ?h1 (by simp only [maxLen]; omega) (by omega) (by simp) ?_))
    case h1 =>
      intro u hu
      simp only [eList, List.mem_flatten, List.mem_map] at hu
      obtain ⟨l, ⟨y, _, rfl⟩, hu⟩ := hu
      exact eFt_one y u hu
    intro v1 w1 hown hg _ hat
    have HOWN := Lib.hid hown
    have HB : Hid (Below w.heap.size w w1) := ((Below.refl _ w).alloc (Nat.le_refl _) _).grown hg (by simp) (fun k hk => by simp [Value.ownBlock] at hk; omega)
    clear hown hg hat
    go_wp2
    go_ret
    exact ⟨v1, rfl, by simpa using HOWN.out, HB.out⟩

/-- The closure of Without. -/
theorem without1_any (x : Ft) (kind : Int) (p1 : Nat) (w : World) (h1 : w.cell? ⟨p1, 0, none⟩ = some (.int .i64 kind)) (hb1 : p1 < w.heap.size) :
    Calls Try.prog 28 #[x.agg, .pointer (some ⟨p1, 0, none⟩)] w fun e w' => e = .returned (.bool (x.kind == kind)) ∧ Below w.heap.size w w' := by
  obtain ⟨xa, xk, x3, x4⟩ := x
  simp only [Ft.agg]
  go_enter Try.func28, Try.ntmps28
  go_wp2
  go_ret
  exact ⟨rfl, by ((try change Below _ _ _); (repeat (any_goals (first | (with_reducible exact Below.refl _ _) | (with_reducible exact Below.refl _ _) | (with_reducible apply Below.drew) | (with_reducible apply below_drewN) | (with_reducible refine Below.alloc ?_ ?_ _) | (with_reducible refine Below.setCell ?_ ?_ _)))); all_goals (first | exact Nat.le_refl _ | (simp; done) | (simp; omega) | omega | (dsimp only; omega)))⟩

theorem eFt_set : ∀ (ys : List Ft) (i : Nat) (x : Ft), i < ys.length → eList eFt (ys.set i x) = ((((eList eFt ys).set (i * 4) (.int .i64 x.at_)).set (i * 4 + 1) (.int .i64 x.kind)).set (i * 4 + 2) (.int .i64 x.a)).set (i * 4 + 3) (.int .i64 x.b)
  | [], i, x, h => by simp at h
  | y :: ys, 0, x, _ => by simp [eList, eFt]
  | y :: ys, i + 1, x, h => by
    have ih := eFt_set ys i x (by simpa using h)
    simp only [eList, List.set_cons_succ, List.map_cons, List.flatten_cons] at ih ⊢
    rw [ih]
    have e : ∀ (l m : List Value) (t : Nat) (v : Value), l.length = 4 → (l ++ m).set (4 + t) v = l ++ m.set t v := fun l m t v hl => by
      rw [List.set_append_right _ _ (by omega), hl, Nat.add_sub_cancel_left]
    have hl : (eFt y).length = 4 := rfl
    rw [show (i + 1) * 4 = 4 + i * 4 by omega, show 4 + i * 4 + 1 = 4 + (i * 4 + 1) by omega, show 4 + i * 4 + 2 = 4 + (i * 4 + 2) by omega, show 4 + i * 4 + 3 = 4 + (i * 4 + 3) by omega]
    rw [e _ _ _ _ hl, e _ _ _ _ hl, e _ _ _ _ hl, e _ _ _ _ hl]
def keepK (kind : Int) (x : Ft) : Bool := !(x.kind == kind)
/-- The row while it is cut: i are kept of the first j. -/
structure Cutting (kind : Int) (xs ys : List Ft) (i j : Nat) : Prop where
  len : ys.length = xs.length
  ij : i < j
  il : ((xs.take j).filter (keepK kind)).length = i
  low : ys.take i = (xs.take j).filter (keepK kind)
  high : ∀ t, j ≤ t → ys[t]? = xs[t]?
theorem Cutting.skip {kind : Int} {xs ys : List Ft} {i j : Nat} (h : Cutting kind xs ys i j) {x : Ft} (hx : xs[j]? = some x) (hk : keepK kind x = false) : Cutting kind xs ys i (j + 1) := by
  have e : (xs.take (j + 1)).filter (keepK kind) = (xs.take j).filter (keepK kind) := by rw [List.take_add_one, hx, Option.toList_some, List.filter_append]; simp [hk]
  exact ⟨h.len, by have := h.ij; omega, by rw [e]; exact h.il, by rw [e]; exact h.low, fun t ht => h.high t (by omega)⟩
theorem Cutting.keep {kind : Int} {xs ys : List Ft} {i j : Nat} (h : Cutting kind xs ys i j) {x : Ft} (hx : xs[j]? = some x) (hk : keepK kind x = true) : Cutting kind xs (ys.set i x) (i + 1) (j + 1) := by
  have hj := (List.getElem?_eq_some_iff.1 hx).1
  have e : (xs.take (j + 1)).filter (keepK kind) = (xs.take j).filter (keepK kind) ++ [x] := by rw [List.take_add_one, hx, Option.toList_some, List.filter_append]; simp [hk]
  have hij := h.ij
  have hl := h.len
  refine ⟨by rw [List.length_set]; exact h.len, by omega, by rw [e, List.length_append, h.il]; rfl, ?_, fun t ht => ?_⟩
  · rw [e, ← h.low, List.take_add_one, List.getElem?_set_self (by omega), List.take_set_of_le (Nat.le_refl i)]
    rfl
  · rw [List.getElem?_set_ne (by omega)]
    exact h.high t (by omega)
theorem filter_all {kind : Int} {xs : List Ft} (h : ∀ (i : Nat) (y : Ft), xs[i]? = some y → (y.kind == kind) = false) : xs.filter (keepK kind) = xs := by
  rw [List.filter_eq_self]
  intro x hx
  obtain ⟨i, hi⟩ := List.getElem?_of_mem hx
  simp [keepK, h i x hi]
theorem Cutting.start {kind : Int} {xs : List Ft} {k : Nat} {x : Ft} (hx : xs[k]? = some x) (hk : (x.kind == kind) = true) (hno : ∀ (i : Nat) (y : Ft), i < k → xs[i]? = some y → (y.kind == kind) = false) : Cutting kind xs xs k (k + 1) := by
  have hkl := (List.getElem?_eq_some_iff.1 hx).1
  have e0 : (xs.take k).filter (keepK kind) = xs.take k := filter_all fun i y hy => by
    rw [List.getElem?_take] at hy
    split at hy
    · exact hno i y (by omega) hy
    · cases hy
  have e : (xs.take (k + 1)).filter (keepK kind) = xs.take k := by rw [List.take_add_one, hx, Option.toList_some, List.filter_append, e0]; simp [keepK, hk]
  exact ⟨rfl, by omega, by rw [e, List.length_take]; omega, by rw [e], fun t _ => rfl⟩
theorem clear_run (P : Program) (w : World) (t e ty : TypeId) (z : Value) (k : Nat) (ht : P.underlying t = some (.slice e)) (hv : ∀ w, (zeroValue e).run P w = .ok z w) (hk : z.cells.size = k) (h1 : ∀ u ∈ z.cells, u.oneCell' = true) (b o n c : Nat) (hn : 0 < n)
    (hc : ∀ j, j < n * k → (w.cell? ⟨b, o + j, none⟩).isSome = true) (hf : ∀ j, j < n * k → w.frozen? ⟨b, o + j, none⟩ = false) :
    (Builtin.clear_ #[t] ty #[.slice (some ⟨b, o, none⟩) n c]).run P w = .ok (.tuple #[]) (w.setCells b o (Builtin.zeroCells z.cells n).toList) := by
  have hzl : (Builtin.zeroCells z.cells n).toList.length = n * k := by simp [Builtin.zeroCells, hk]
  have hst := run_storeCells_cells (P := P) b o (Builtin.zeroCells z.cells n).toList 0 w (by rw [hzl]; simpa using hc) (by rw [hzl]; simpa using hf) (by
    intro v hv'
    simp [Builtin.zeroCells] at hv'
    obtain ⟨i, hi, rfl⟩ := hv'
    have hp : 0 < z.cells.size := by rcases Nat.eq_zero_or_pos z.cells.size with h | h; · rw [h] at hi; simp at hi
                                     · exact h
    have hm := Nat.mod_lt i hp
    first | exact h1 _ (Array.getElem_mem hm) | (rw [getElem!_pos z.cells _ hm]; exact h1 _ (Array.getElem_mem hm)) | (simp [hm]))
  simp only [Nat.add_zero] at hst
  obtain ⟨m, rfl⟩ : ∃ m, n = m + 1 := ⟨n - 1, by omega⟩
  simp [Builtin.clear_, run_underlying ht, hv, hst]

theorem eFtL_len (ys : List Ft) : (eList eFt ys).length = ys.length * 4 := by
  induction ys with
  | nil => rfl
  | cons y ys ih => simp only [eList, List.map_cons, List.flatten_cons, List.length_append, List.length_cons] at ih ⊢; rw [ih]; simp [eFt]; omega
theorem below_setCells {B b : Nat} {a : World} (hb : B ≤ b) : ∀ (vs : List Value) (o : Nat) (w : World), Below B a w → Below B a (w.setCells b o vs)
  | [], _, _, h => h
  | v :: vs, o, w, h => below_setCells hb vs (o + 1) _ (h.setCell (p := ⟨b, o, none⟩) hb v)
theorem own_cap {w : World} {base : Nat} {e : TypeId} {size n g cap : Nat} {xs : List Value} (h : w.ownsRow base e size (.slice (some ⟨g, 0, none⟩) n cap) n xs) : n ≤ cap ∧ cap ≤ maxLen := by
  rcases h.2 with ⟨h', _⟩ | ⟨g', cap', cur, h', hb, hg, hnc, hcm, hcs, htake⟩
  · simp at h'
  · injection h' with _ _ h'
    subst h'
    exact ⟨hnc, by first | exact hcm | (simp at hcm ⊢; omega) | omega⟩
abbrev setC4 (w : World) (g o : Nat) (x0 x1 x2 x3 : Int) : World := (((w.setCell ⟨g, o, none⟩ (.int .i64 x0)).setCell ⟨g, o + 1, none⟩ (.int .i64 x1)).setCell ⟨g, o + 2, none⟩ (.int .i64 x2)).setCell ⟨g, o + 3, none⟩ (.int .i64 x3)
def CutPost (base : Nat) (xs : List Ft) (w : World) (en : Ending) (w' : World) : Prop := ∃ A m c, en = .returned (.slice A m c) ∧ Sl eFt 4 w' A m xs ∧ Below base w w'
theorem sl_below {base : Nat} {w w' : World} {A : Option Addr} {n : Nat} {xs : List Ft} (h : Sl eFt 4 w A n xs) (hb : Below w.heap.size w w') : Sl eFt 4 w' A n xs := h.below hb

set_option maxRecDepth 100000 in
set_option maxHeartbeats 8000000 in
theorem delete_any (A : Option Addr) (n c : Nat) (xs : List Ft) (kind : Int) (p1 base : Nat) (w : World) (hn : n ≤ 100000) (hown : w.ownsRow base 37 4 (.slice A n c) n (eList eFt xs)) (h1 : w.cell? ⟨p1, 0, none⟩ = some (.int .i64 kind)) (hp : p1 < base) (hbase : base ≤ w.heap.size) :
    Calls Try.prog 27 #[.slice A n c, .func (.func 28) #[] #[.pointer (some ⟨p1, 0, none⟩)]] w (CutPost base (xs.filter (keepK kind)) w) := by
  have hsl := Sl.own (enc := eFt) (k := 4) (fun _ => rfl) (by omega) hown
  have hlen := hsl.len
  have eg : ∀ args w, (callFunc 28 args).run Try.prog w = .ok (.enter 28 args) w := enters_of Try.func28 (by kernel_rfl) rfl
  have hcl := fun W (hW : W.cell? ⟨p1, 0, none⟩ = some (.int .i64 kind)) x => without1_any x kind p1 W hW (World.block_lt_of_cell? W _ hW)
  have hidx := fun W (hW : Below w.heap.size w W) k hk hno hyes => idx_gen A n c xs (fun x => x.kind == kind) 28 #[.pointer (some ⟨p1, 0, none⟩)] eg W (hsl.below hW) (fun W' hW' x => hcl W' (((hW.cell (p := ⟨p1, 0, none⟩) (World.block_lt_of_cell? w _ h1)).trans h1 |> fun h => (hW'.cell (p := ⟨p1, 0, none⟩) (World.block_lt_of_cell? W _ h)).trans h)) x) k hk hno hyes
  rcases find_split (fun x => x.kind == kind) xs with ⟨k, x, hx, _, hpx, hno⟩ | ⟨_, hno⟩
  · have hkl := (List.getElem?_eq_some_iff.1 hx).1
    have hi := hidx w (Below.refl _ _) k (by omega) hno (fun y hy => by rw [hx] at hy; injection hy with hy; subst hy; exact hpx)
    simp only [if_pos (show k < n by omega)] at hi
    obtain ⟨g, cap, hv, hgb, hgl⟩ := hown.form (by omega)
    injection hv with hv1 hv2 hv3
    subst hv1 hv3
    have hst := Cutting.start hx hpx hno
    have hpl := World.block_lt_of_cell? w _ h1
    have HI := Lib.hid hi
    have HST := Lib.hid hst
    have H0 := Lib.hid (And.intro hown h1)
    have HCL := Lib.hid hcl
    clear hcl
    clear hi hst hidx hno hpx hx hsl hown h1 hv2
    go_enter Try.func27, Try.ntmps27
    go_wp2_with fail
    refine HI.out.mono ?_
    rintro e w1 ⟨rfl, hb1⟩
    have HS : Hid (w1.ownsRow base 37 4 (.slice (some ⟨g, 0, none⟩) n c) n (eList eFt xs) ∧ Below base w w1 ∧ w1.cell? ⟨p1, 0, none⟩ = some (.int .i64 kind)) :=
      ⟨own_below H0.out.1 hb1, hb1.mono hbase, (hb1.cell (p := ⟨p1, 0, none⟩) hpl).trans H0.out.2⟩
    clear hb1 HI H0
    go_wp2
    go_loopw [5, 6] (fun i j wr => ∃ (a b : Nat) (ys : List Ft), b ≤ n ∧ i = .int .i64 a ∧ j = .int .i64 b ∧ Hid (Cutting kind xs ys a b) ∧ Hid (wr.ownsRow base 37 4 (.slice (some ⟨g, 0, none⟩) n c) n (eList eFt ys) ∧ Below base w wr ∧ wr.cell? ⟨p1, 0, none⟩ = some (.int .i64 kind)))
      (fun _ j _ => n - (intOf j).toNat)
    case atStart => exact ⟨k, k + 1, xs, by omega, rfl, by go_num, HST.out, HS⟩
    case round =>
      clear HS HST
      obtain ⟨a, b, ys, hb, rfl, rfl, HC, H⟩ := hrel
      have hab := HC.out.ij
      have hyl := HC.out.len
      by_cases hlt : b < n
      · obtain ⟨x, hx⟩ : ∃ x, xs[b]? = some x := ⟨xs[b]'(by omega), List.getElem?_eq_getElem (by omega)⟩
        have hyb := HC.out.high b (Nat.le_refl _)
        rw [hx] at hyb
        have cj : ∀ i v, (eFt x)[i]? = some v → wr.cell? ⟨g, b * 4 + i, none⟩ = some v := fun i v hv => own_cell H.out.1 _ _ (eList_get (enc := eFt) (k := 4) (fun _ => rfl) ys b x i v hyb hv)
        have j0 : wr.cell? ⟨g, b * 4, none⟩ = some (.int .i64 x.at_) := cj 0 _ rfl
        have j1 : wr.cell? ⟨g, b * 4 + 1, none⟩ = some (.int .i64 x.kind) := cj 1 _ rfl
        have j2 : wr.cell? ⟨g, b * 4 + 2, none⟩ = some (.int .i64 x.a) := cj 2 _ rfl
        have j3 : wr.cell? ⟨g, b * 4 + 3, none⟩ = some (.int .i64 x.b) := cj 3 _ rfl
        have hcall := fun W hW => HCL.out W hW x
        have HX := Lib.hid hx
        clear cj hyb hx
        obtain ⟨x0, x1, x2, x3⟩ := x
        simp only [Ft.agg] at hcall j0 j1 j2 j3
        have hbs := H.out.2.1.size
        have hA : (wr.alloc (.cells #[.int .i64 x0, .int .i64 x1, .int .i64 x2, .int .i64 x3] 37)).ownsRow base 37 4 (.slice (some ⟨g, 0, none⟩) n c) n (eList eFt ys) ∧ Below base w (wr.alloc (.cells #[.int .i64 x0, .int .i64 x1, .int .i64 x2, .int .i64 x3] 37)) ∧ (wr.alloc (.cells #[.int .i64 x0, .int .i64 x1, .int .i64 x2, .int .i64 x3] 37)).cell? ⟨p1, 0, none⟩ = some (.int .i64 kind) :=
          ⟨own_below H.out.1 ((Below.refl _ wr).alloc (Nat.le_refl _) _), H.out.2.1.alloc (by omega) _, cell_some_alloc _ H.out.2.2⟩
        have HA := Lib.hid hA
        clear hA
        cases hq : (x1 == kind) with
        | true =>
          rw [hq] at hcall
          have hkk : keepK kind ⟨x0, x1, x2, x3⟩ = false := by simp [keepK, hq]
          have HC2 : Hid (Cutting kind xs ys a (b + 1)) := HC.out.skip HX.out hkk
          have HCALL := Lib.hid hcall
          clear hcall
          clear hq hkk HC HCL
          go_wp2_with fail
          refine (HCALL.out _ HA.out.2.2).mono ?_
          rintro e w2 ⟨rfl, hb2⟩
          have H2 : Hid (w2.ownsRow base 37 4 (.slice (some ⟨g, 0, none⟩) n c) n (eList eFt ys) ∧ Below base w w2 ∧ w2.cell? ⟨p1, 0, none⟩ = some (.int .i64 kind)) :=
            ⟨own_below HA.out.1 hb2, HA.out.2.1.trans (hb2.mono (by have := HA.out.2.1.size; omega)), (hb2.cell (p := ⟨p1, 0, none⟩) (World.block_lt_of_cell? _ _ HA.out.2.2)).trans HA.out.2.2⟩
          clear hb2 HA H HCALL
          go_wp2
          go_roundw
          case rel =>
            refine ⟨_, _, _, _, _, _, _, _, _, _, _, _, _, _, _, _, _, _, _, _, _, _, _, ?_, rfl⟩
            exact ⟨a, b + 1, ys, by omega, rfl, by go_num, HC2, H2⟩
          case measure => simp [intOf]; omega
        | false =>
          rw [hq] at hcall
          have hkk : keepK kind ⟨x0, x1, x2, x3⟩ = true := by simp [keepK, hq]
          have HC2 : Hid (Cutting kind xs (ys.set a ⟨x0, x1, x2, x3⟩) (a + 1) (b + 1)) := HC.out.keep HX.out hkk
          have HCALL := Lib.hid hcall
          clear hcall
          clear hq hkk HC HCL
          go_wp2_with fail
          refine (HCALL.out _ HA.out.2.2).mono ?_
          rintro e w2 ⟨rfl, hb2⟩
          have H2 : Hid (w2.ownsRow base 37 4 (.slice (some ⟨g, 0, none⟩) n c) n (eList eFt ys) ∧ Below base w w2 ∧ w2.cell? ⟨p1, 0, none⟩ = some (.int .i64 kind)) :=
            ⟨own_below HA.out.1 hb2, HA.out.2.1.trans (hb2.mono (by have := HA.out.2.1.size; omega)), (hb2.cell (p := ⟨p1, 0, none⟩) (World.block_lt_of_cell? _ _ HA.out.2.2)).trans HA.out.2.2⟩
          have hbx := (Blk.new wr 37 #[.int .i64 x0, .int .i64 x1, .int .i64 x2, .int .i64 x3]).below_ hb2
          clear hb2 HA H HCALL
          have bx0 := (hbx.cell 0).trans rfl
          have bx1 := (hbx.cell 1).trans rfl
          have bx2 := (hbx.cell 2).trans rfl
          have bx3 := (hbx.cell 3).trans rfl
          obtain ⟨y, hy⟩ : ∃ y, ys[a]? = some y := ⟨ys[a]'(by omega), List.getElem?_eq_getElem (by omega)⟩
          have ga : ∀ i v, (eFt y)[i]? = some v → w2.cell? ⟨g, a * 4 + i, none⟩ = some v := fun i v hv => own_cell H2.out.1 _ _ (eList_get (enc := eFt) (k := 4) (fun _ => rfl) ys a y i v hy hv)
          have a0 : w2.cell? ⟨g, a * 4, none⟩ = some (.int .i64 y.at_) := ga 0 _ rfl
          have a1 : w2.cell? ⟨g, a * 4 + 1, none⟩ = some (.int .i64 y.kind) := ga 1 _ rfl
          have a2 : w2.cell? ⟨g, a * 4 + 2, none⟩ = some (.int .i64 y.a) := ga 2 _ rfl
          have a3 : w2.cell? ⟨g, a * 4 + 3, none⟩ = some (.int .i64 y.b) := ga 3 _ rfl
          have f0 := own_frozen H2.out.1 (a * 4)
          have f1 := own_frozen H2.out.1 (a * 4 + 1)
          have f2 := own_frozen H2.out.1 (a * 4 + 2)
          have f3 := own_frozen H2.out.1 (a * 4 + 3)
          have H3 : Hid ((setC4 w2 g (a * 4) x0 x1 x2 x3).ownsRow base 37 4 (.slice (some ⟨g, 0, none⟩) n c) n (eList eFt (ys.set a ⟨x0, x1, x2, x3⟩)) ∧ Below base w (setC4 w2 g (a * 4) x0 x1 x2 x3) ∧ (setC4 w2 g (a * 4) x0 x1 x2 x3).cell? ⟨p1, 0, none⟩ = some (.int .i64 kind)) := by
            refine ⟨?_, ?_, ?_⟩
            · rw [eFt_set ys a _ (by omega)]
              exact ((((H2.out.1.stored (a * 4) (.int .i64 x0)).1.stored (a * 4 + 1) (.int .i64 x1)).1.stored (a * 4 + 2) (.int .i64 x2)).1.stored (a * 4 + 3) (.int .i64 x3)).1
            · exact (((H2.out.2.1.setCell (p := ⟨g, a * 4, none⟩) hgb _).setCell (p := ⟨g, a * 4 + 1, none⟩) hgb _).setCell (p := ⟨g, a * 4 + 2, none⟩) hgb _).setCell (p := ⟨g, a * 4 + 3, none⟩) hgb _
            · have hne : ∀ o : Nat, (⟨g, o, none⟩ : Addr) ≠ ⟨p1, 0, none⟩ := fun o e => by injection e with e; omega
              unfold setC4
              rw [World.cell?_setCell_other _ _ _ _ (hne _), World.cell?_setCell_other _ _ _ _ (hne _), World.cell?_setCell_other _ _ _ _ (hne _), World.cell?_setCell_other _ _ _ _ (hne _)]
              exact H2.out.2.2
          have hge : p1 < g := by omega
          clear hy ga hbx
          go_wp2
          go_roundw
          case rel =>
            refine ⟨_, _, _, _, _, _, _, _, _, _, _, _, _, _, _, _, _, _, _, _, _, _, _, ?_, rfl⟩
            exact ⟨a + 1, b + 1, ys.set a ⟨x0, x1, x2, x3⟩, by omega, by go_num, by go_num, HC2, H3⟩
          case measure => simp [intOf]; omega
      · have hbn : b = n := by omega
        subst hbn
        have hl4 : (eList eFt ys).length = b * 4 := by rw [eFtL_len, hyl, hlen]
        have hclr := fun ty cc => clear_run Try.prog wr 31 37 ty (.agg #[.int .i64 0, .int .i64 0, .int .i64 0, .int .i64 0]) 4 Try.underlying31 (fun w => by first | kernel_rfl | rfl) rfl (by intro u hu; simp [Value.cells] at hu; subst hu; rfl) g (a * 4) (b - a) cc (by omega)
          (fun j hj => by rw [own_cell H.out.1 (a * 4 + j) _ (List.getElem?_eq_getElem (by omega))]; rfl) (fun j _ => own_frozen H.out.1 _)
        have hL : ∀ L : List Value, Below base w (wr.setCells g (a * 4) L) := fun L => below_setCells hgb L _ _ H.out.2.1
        have hS : ∀ L : List Value, Sl eFt 4 (wr.setCells g (a * 4) L) (some ⟨g, 0, none⟩) a (xs.filter (keepK kind)) := fun L => by
          have hlow := HC.out.low
          rw [List.take_of_length_le (l := xs) (by omega)] at hlow
          rw [← hlow]
          refine ⟨by rw [List.length_take]; omega, by omega, fun _ => ⟨g, 0, rfl, ?_, fun j x hx i v hv => ?_⟩⟩
          · have := (hL L).size; omega
          · rw [List.getElem?_take] at hx
            split at hx
            · have hi4 : i < 4 := (List.getElem?_eq_some_iff.1 hv).1
              rw [World.cell?_setCells_out g L _ wr _ (by intro _ _; left; show 0 + j * 4 + i < a * 4; omega), Nat.zero_add]
              exact own_cell H.out.1 _ _ (eList_get (enc := eFt) (k := 4) (fun _ => rfl) ys j x i v hx hv)
            · cases hx
        have hcap := own_cap H.out.1
        have HCLR := Lib.hid hclr
        clear hclr
        have HL := Lib.hid hL
        clear hL
        have HS := Lib.hid hS
        clear hS
        have hclr := HCLR.out
        clear HC H HCL HCLR
        go_wp2
        refine bodyPost_ret (v := .slice (some ⟨g, 0, none⟩) a c) (by simp [results, Try.results27, go_sem]) rfl ?_
        exact ⟨_, _, _, rfl, HS.out _, HL.out _⟩
  · have hi := hidx w (Below.refl _ _) n (by omega) (fun i y _ hy => hno i y hy) (fun y hy => by rw [List.getElem?_eq_none (by omega)] at hy; cases hy)
    simp only [if_neg (Nat.lt_irrefl n)] at hi
    have hfa := filter_all hno
    have HI := Lib.hid hi
    have HFA := Lib.hid hfa
    have HSL := Lib.hid hsl
    clear hsl
    clear hi hfa hidx hno hcl hown h1
    go_enter Try.func27, Try.ntmps27
    go_wp2_with fail
    refine HI.out.mono ?_
    rintro e w1 ⟨rfl, hb1⟩
    have HB1 := Lib.hid hb1
    clear hb1
    go_wp2
    go_ret
    exact ⟨A, n, c, rfl, by rw [HFA.out]; exact HSL.out.below HB1.out, HB1.out.mono hbase⟩
#print axioms delete_any
end Go.Proofs.Ytdjfkehbknbocab

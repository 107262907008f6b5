/- Arguments opened, whatever their element types: the value's form and what its cells hold; they are shut again by 'Below.trod' from the reading itself. -/
import Derived.Test.YtdjfkehbknbocaaRows
import Derived.Test.YtdjfkehbknbocaaLib
import Derived.ProofKit
import Derived.OpenShut
import Derived.ChangeOld
import Derived.Deep.Slices
import Derived.Deep.Fields
import Derived.Lib.SmallJoins
namespace Go.Proofs.Ytdjfkehbknbocaa
open Go.ChangeShapes Go.WideShapes Go.ChangeAt Go.RowKit Go.Joins Go.Deep

theorem own_knob : ownKnob Try.prog.godebug = none := by kernel_rfl
theorem laid_out : laidOutB Try.prog = true := by kernel_rfl

section
variable {H : Type} {enc : TypeId × Value → H} {P : Program} {w : World} {base : Nat} {spare : Nat → Bool} {held : Bool}
/-- Whatever reads as of this type is the cells of some y. -/
def Dec (enc : TypeId × Value → H) (P : Program) (w : World) (base : Nat) (spare : Nat → Bool) (held : Bool) (t : TypeId) {α : Type} (e : α → List Value) (good : α → Prop) : Prop :=
  ∀ fuel cs x, DataW.trod enc P w base spare held fuel t cs = some x → ∃ y, cs = e y ∧ good y
def Fits (x : Int) : Prop := -9223372036854775808 ≤ x ∧ x ≤ 9223372036854775807
theorem fits_wf {x : Int} (h : (Lit.int .i64 x).wf = true) : Fits x := by
  simpa [Fits, Lit.wf, IntKind.min, IntKind.max, IntKind.signed, IntKind.bits] using h
theorem dec_int {t : TypeId} (ht : P.underlying t = some (.int .i64)) : Dec enc P w base spare held t eInt Fits := fun fuel cs x h => by
  obtain ⟨n, rfl, rfl, hw⟩ := DataW.trod_int ht h
  exact ⟨n, rfl, fits_wf hw⟩
theorem dec_bool {t : TypeId} (ht : P.underlying t = some .bool) : Dec enc P w base spare held t eBool (fun _ => True) := fun fuel cs x h => by
  obtain ⟨n, rfl, rfl⟩ := DataW.trod_bool ht h
  exact ⟨n, rfl, trivial⟩
theorem choose_list {α : Type} {p : Nat → α → Prop} : ∀ (n : Nat), (∀ i, i < n → ∃ y, p i y) → ∃ ys : List α, ys.length = n ∧ ∀ i y, ys[i]? = some y → p i y
  | 0, _ => ⟨[], rfl, fun i y h => by simp at h⟩
  | n + 1, h => by
    obtain ⟨ys, hl, hp⟩ := choose_list n (fun i hi => h i (by omega))
    obtain ⟨y, hy⟩ := h n (by omega)
    refine ⟨ys ++ [y], by simp [hl], fun i z hz => ?_⟩
    rcases Nat.lt_trichotomy i n with hi | rfl | hi
    · rw [List.getElem?_append_left (by omega)] at hz
      exact hp i z hz
    · rw [List.getElem?_append_right (by omega), hl, Nat.sub_self] at hz
      simp at hz
      subst hz
      exact hy
    · rw [List.getElem?_eq_none (by simp [hl]; omega)] at hz
      cases hz
theorem open_sl {r : Reach} {b0 : Nat} {t e : TypeId} {k : Nat} {α : Type} {en : α → List Value} {good : α → Prop} {v : Value} {d : DataW H} {p : List MemPlace} (ht : P.underlying t = some (.slice e)) (hk : P.cellsOf e = k) (hk0 : 0 < k) (hlen : ∀ y, (en y).length = k)
    (hD : Dec enc P w base spare held e en good) (hv : Value.okWide P w r b0 t v) (h : DataW.Trod enc P w base spare held t v d p) :
    ∃ A n c xs, v = .slice A n c ∧ Sl en k w A n xs ∧ n ≤ c ∧ ∀ y ∈ xs, good y := by
  obtain ⟨A, n, c, rfl⟩ := okWide_slice ht hv
  obtain ⟨fuel, hf⟩ := h
  rcases open_slice ht hf with ⟨hcs, _⟩ | ⟨a, len, cap, m, nn, D, Pl, hcs, _, hl, hm, hmm, _, hx⟩
  · simp [Value.cells] at hcs
    obtain ⟨rfl, rfl, rfl⟩ := hcs
    exact ⟨none, 0, 0, [], rfl, ⟨rfl, by omega, fun h => absurd h (by omega)⟩, Nat.le_refl _, fun y hy => by cases hy⟩
  · simp [Value.cells] at hcs
    obtain ⟨rfl, rfl, rfl⟩ := hcs
    obtain ⟨ys, hyl, hys⟩ := choose_list (p := fun i y => w.cells? base (a.add (i * k)) k = some (en y) ∧ good y) n (fun i hi => by
      obtain ⟨cs', h1, h2⟩ := hx i (by rw [hmm]; split <;> omega)
      obtain ⟨y, rfl, hy⟩ := hD _ _ _ h2
      rw [hk] at h1
      exact ⟨y, h1, hy⟩)
    refine ⟨some a, n, c, ys, rfl, ⟨hyl, by simp only [maxLen] at hm; omega, fun hn => ?_⟩, hl, fun y hy => by
      obtain ⟨i, hi⟩ := List.getElem?_of_mem hy
      exact (hys i y hi).2⟩
    obtain ⟨b, off, spot⟩ := a
    have h0 : ∃ v, w.cell? (⟨b, off, spot⟩ : Addr) = some v := by
      obtain ⟨y, hy⟩ : ∃ y, ys[0]? = some y := ⟨ys[0]'(by omega), List.getElem?_eq_getElem (by omega)⟩
      obtain ⟨_, hcl, hcc⟩ := World.cells?_some (hys 0 y hy).1
      have := hcc 0 hk0
      rw [List.getElem?_eq_getElem (by rw [hlen]; exact hk0)] at this
      simp [Addr.add] at this
      exact ⟨_, this⟩
    obtain ⟨v0, hv0⟩ := h0
    have hspot : spot = none := World.cell?_spot hv0
    subst hspot
    refine ⟨b, off, rfl, World.block_lt_of_cell? w _ hv0, fun j x hx' i v hv' => ?_⟩
    obtain ⟨_, hcl, hcc⟩ := World.cells?_some (hys j x hx').1
    have hi : i < k := by rw [← hlen x]; exact (List.getElem?_eq_some_iff.1 hv').1
    have := hcc i hi
    rw [hv'] at this
    have ha : ((⟨b, off, none⟩ : Addr).add (j * k)).add i = ⟨b, off + j * k + i, none⟩ := by
      unfold Addr.add; (repeat' split) <;> simp_all <;> omega
    rwa [ha] at this
theorem open_arr2 {r : Reach} {b0 : Nat} {t e : TypeId} {v : Value} {d : DataW H} {p : List MemPlace} (ht : P.underlying t = some (.array 2 e)) (he : P.underlying e = some (.int .i64)) (hC : P.cellsOf t = 2) (hE : P.cellsOf e = 1)
    (hv : Value.okWide P w r b0 t v) (h : DataW.Trod enc P w base spare held t v d p) : ∃ a b, v = .agg #[.int .i64 a, .int .i64 b] ∧ Fits a ∧ Fits b := by
  simp only [Value.okWide, ht] at hv
  obtain ⟨cs, rfl, hsz, _⟩ := hv
  obtain ⟨l⟩ := cs
  match l, hsz.trans hC with
  | [c0, c1], _ =>
    obtain ⟨fuel, hf⟩ := h
    obtain ⟨xs, m, _, _, _, hl, hg⟩ := DataW.trod_array ht hf
    match xs, hl with
    | [y0, y1], _ =>
      have g0 := hg 0 (by omega)
      have g1 := hg 1 (by omega)
      simp [Value.cells, hE] at g0 g1
      obtain ⟨a, e0, _, w0⟩ := DataW.trod_int he g0
      obtain ⟨b, e1, _, w1⟩ := DataW.trod_int he g1
      simp at e0 e1
      subst e0 e1
      exact ⟨a, b, rfl, fits_wf w0, fits_wf w1⟩
theorem open_arr3 {r : Reach} {b0 : Nat} {t e : TypeId} {v : Value} {d : DataW H} {p : List MemPlace} (ht : P.underlying t = some (.array 3 e)) (he : P.underlying e = some (.int .i64)) (hC : P.cellsOf t = 3) (hE : P.cellsOf e = 1)
    (hv : Value.okWide P w r b0 t v) (h : DataW.Trod enc P w base spare held t v d p) : ∃ a b c, v = .agg #[.int .i64 a, .int .i64 b, .int .i64 c] ∧ Fits a ∧ Fits b ∧ Fits c := by
  simp only [Value.okWide, ht] at hv
  obtain ⟨cs, rfl, hsz, _⟩ := hv
  obtain ⟨l⟩ := cs
  match l, hsz.trans hC with
  | [c0, c1, c2], _ =>
    obtain ⟨fuel, hf⟩ := h
    obtain ⟨xs, m, _, _, _, hl, hg⟩ := DataW.trod_array ht hf
    match xs, hl with
    | [y0, y1, y2], _ =>
      have g0 := hg 0 (by omega)
      have g1 := hg 1 (by omega)
      have g2 := hg 2 (by omega)
      simp [Value.cells, hE] at g0 g1 g2
      obtain ⟨a, e0, _, w0⟩ := DataW.trod_int he g0
      obtain ⟨b, e1, _, w1⟩ := DataW.trod_int he g1
      obtain ⟨c, e2, _, w2⟩ := DataW.trod_int he g2
      simp at e0 e1 e2
      subst e0 e1 e2
      exact ⟨a, b, c, rfl, fits_wf w0, fits_wf w1, fits_wf w2⟩
theorem dec_ints4 {t : TypeId} {f0 f1 f2 f3 : Field} {α : Type} {e : α → List Value} (mk : Int → Int → Int → Int → α) (hmk : ∀ a b c d, e (mk a b c d) = [.int .i64 a, .int .i64 b, .int .i64 c, .int .i64 d]) {good : α → Prop} (hgood : ∀ a b c d, Fits a → Fits b → Fits c → Fits d → good (mk a b c d))
    (hs : P.underlying t = some (.struct #[f0, f1, f2, f3])) (hone : oneCellFields P #[f0, f1, f2, f3] = true) (hC : P.cellsOf t = 4)
    (u0 : P.underlying f0.type = some (.int .i64)) (u1 : P.underlying f1.type = some (.int .i64)) (u2 : P.underlying f2.type = some (.int .i64)) (u3 : P.underlying f3.type = some (.int .i64)) :
    Dec enc P w base spare held t e good := fun fuel cs x h => by
  obtain ⟨xs, n, _, _, hlc, hlen, hg⟩ := DataW.trod_struct hs h
  obtain ⟨o0, k0⟩ := hone_of hone 0 f0 rfl
  obtain ⟨o1, k1⟩ := hone_of hone 1 f1 rfl
  obtain ⟨o2, k2⟩ := hone_of hone 2 f2 rfl
  obtain ⟨o3, k3⟩ := hone_of hone 3 f3 rfl
  match cs, hlc.trans hC with
  | [c0, c1, c2, c3], _ =>
    match xs, hlen with
    | [y0, y1, y2, y3], _ =>
      have g0 : DataW.trod enc P w base spare held n f0.type [c0] = some y0 := by simpa [Value.cells, o0, k0] using hg 0 f0 rfl
      have g1 : DataW.trod enc P w base spare held n f1.type [c1] = some y1 := by simpa [Value.cells, o1, k1] using hg 1 f1 rfl
      have g2 : DataW.trod enc P w base spare held n f2.type [c2] = some y2 := by simpa [Value.cells, o2, k2] using hg 2 f2 rfl
      have g3 : DataW.trod enc P w base spare held n f3.type [c3] = some y3 := by simpa [Value.cells, o3, k3] using hg 3 f3 rfl
      obtain ⟨a, e0, _, w0⟩ := DataW.trod_int u0 g0
      obtain ⟨b, e1, _, w1⟩ := DataW.trod_int u1 g1
      obtain ⟨c, e2, _, w2⟩ := DataW.trod_int u2 g2
      obtain ⟨d, e3, _, w3⟩ := DataW.trod_int u3 g3
      simp at e0 e1 e2 e3
      subst e0 e1 e2 e3
      exact ⟨mk a b c d, (hmk a b c d).symm, hgood _ _ _ _ (fits_wf w0) (fits_wf w1) (fits_wf w2) (fits_wf w3)⟩
theorem dec_ints3 {t : TypeId} {f0 f1 f2 : Field} {α : Type} {e : α → List Value} (mk : Int → Int → Int → α) (hmk : ∀ a b c, e (mk a b c) = [.int .i64 a, .int .i64 b, .int .i64 c]) {good : α → Prop} (hgood : ∀ a b c, Fits a → Fits b → Fits c → good (mk a b c))
    (hs : P.underlying t = some (.struct #[f0, f1, f2])) (hone : oneCellFields P #[f0, f1, f2] = true) (hC : P.cellsOf t = 3)
    (u0 : P.underlying f0.type = some (.int .i64)) (u1 : P.underlying f1.type = some (.int .i64)) (u2 : P.underlying f2.type = some (.int .i64)) :
    Dec enc P w base spare held t e good := fun fuel cs x h => by
  obtain ⟨xs, n, _, _, hlc, hlen, hg⟩ := DataW.trod_struct hs h
  obtain ⟨o0, k0⟩ := hone_of hone 0 f0 rfl
  obtain ⟨o1, k1⟩ := hone_of hone 1 f1 rfl
  obtain ⟨o2, k2⟩ := hone_of hone 2 f2 rfl
  match cs, hlc.trans hC with
  | [c0, c1, c2], _ =>
    match xs, hlen with
    | [y0, y1, y2], _ =>
      have g0 : DataW.trod enc P w base spare held n f0.type [c0] = some y0 := by simpa [Value.cells, o0, k0] using hg 0 f0 rfl
      have g1 : DataW.trod enc P w base spare held n f1.type [c1] = some y1 := by simpa [Value.cells, o1, k1] using hg 1 f1 rfl
      have g2 : DataW.trod enc P w base spare held n f2.type [c2] = some y2 := by simpa [Value.cells, o2, k2] using hg 2 f2 rfl
      obtain ⟨a, e0, _, w0⟩ := DataW.trod_int u0 g0
      obtain ⟨b, e1, _, w1⟩ := DataW.trod_int u1 g1
      obtain ⟨c, e2, _, w2⟩ := DataW.trod_int u2 g2
      simp at e0 e1 e2
      subst e0 e1 e2
      exact ⟨mk a b c, (hmk a b c).symm, hgood _ _ _ (fits_wf w0) (fits_wf w1) (fits_wf w2)⟩
/-- A struct by value, of which every reading is some y's cells. -/
theorem open_by {r : Reach} {b0 : Nat} {t : TypeId} {fs : Array Field} {α : Type} {e : α → List Value} {good : α → Prop} {v : Value} {d : DataW H} {p : List MemPlace} (ht : P.underlying t = some (.struct fs)) (hD : Dec enc P w base spare held t e good)
    (hv : Value.okWide P w r b0 t v) (h : DataW.Trod enc P w base spare held t v d p) : ∃ y, v = .agg (e y).toArray ∧ good y := by
  obtain ⟨cs, rfl, _⟩ := okWide_struct ht hv
  obtain ⟨fuel, hf⟩ := h
  obtain ⟨y, hy, hg⟩ := hD _ _ _ hf
  exact ⟨y, by rw [← hy]; simp [Value.cells], hg⟩
theorem open_string_ {r : Reach} {b0 : Nat} {t : TypeId} {v : Value} {d : DataW H} {p : List MemPlace} (ht : P.underlying t = some .string) (hv : Value.okWide P w r b0 t v) (h : DataW.Trod enc P w base spare held t v d p) :
    ∃ s, v = .string s ∧ s.size ≤ 9223372036854775807 := by
  obtain ⟨s, rfl, _, _, hs⟩ := Go.ChangeMaps.open_string ht hv h
  exact ⟨s, rfl, by simp only [maxLen] at hs; omega⟩
theorem open_int_ {r : Reach} {b0 : Nat} {t : TypeId} {v : Value} {d : DataW H} {p : List MemPlace} (ht : P.underlying t = some (.int .i64)) (hv : Value.okWide P w r b0 t v) (h : DataW.Trod enc P w base spare held t v d p) :
    ∃ a, v = .int .i64 a ∧ Fits a := by
  obtain ⟨x, rfl, _, _, wx⟩ := open_int ht hv h
  exact ⟨x, rfl, fits_wf wx⟩
end
end Go.Proofs.Ytdjfkehbknbocaa

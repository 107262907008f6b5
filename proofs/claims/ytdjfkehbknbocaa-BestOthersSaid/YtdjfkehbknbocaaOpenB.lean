/- The arguments of layer 17's laws opened: a geometry, a state of four rows, blocks with their pages. -/
import Derived.Test.YtdjfkehbknbocaaOpen
import Derived.Test.YtdjfkehbknbocaaBestM
namespace Go.Proofs.Ytdjfkehbknbocaa
open Go.ChangeShapes Go.WideShapes Go.ChangeAt Go.RowKit Go.Joins Go.Deep
section
variable {H : Type} {enc : TypeId × Value → H} {P : Program} {w : World} {base : Nat} {spare : Nat → Bool} {held : Bool}
theorem dec_string {t : TypeId} (ht : P.underlying t = some .string) : Dec enc P w base spare held t (fun s : ByteArray => [.string s]) (fun _ => True) := fun fuel cs x h => by
  obtain ⟨s, rfl, _⟩ := DataW.trod_string ht h
  exact ⟨s, rfl, trivial⟩
theorem dec_sl {t e : TypeId} {k : Nat} {α : Type} {en : α → List Value} {good : α → Prop} (ht : P.underlying t = some (.slice e)) (hk : P.cellsOf e = k) (hk0 : 0 < k) (hlen : ∀ y, (en y).length = k) (hD : Dec enc P w base spare held e en good) :
    Dec enc P w base spare held t (fun v : Sv => [v.v]) (fun v => ∃ xs, Sl en k w v.A v.n xs ∧ ∀ y ∈ xs, good y) := fun fuel cs x hf => by
  rcases open_slice ht hf with ⟨hcs, _⟩ | ⟨a, len, cap, m, nn, D, Pl, hcs, _, hl, hm, hmm, _, hx⟩
  · subst hcs
    exact ⟨⟨none, 0, 0⟩, rfl, [], ⟨rfl, Nat.zero_le _, fun h => absurd h (Nat.lt_irrefl 0)⟩, fun y hy => by cases hy⟩
  · subst hcs
    obtain ⟨ys, hyl, hys⟩ := choose_list (p := fun i y => w.cells? base (a.add (i * k)) k = some (en y) ∧ good y) len (fun i hi => by
      obtain ⟨cs', h1, h2⟩ := hx i (by rw [hmm]; split <;> omega)
      obtain ⟨y, rfl, hy⟩ := hD _ _ _ h2
      rw [hk] at h1
      exact ⟨y, h1, hy⟩)
    refine ⟨⟨some a, len, cap⟩, rfl, ys, ⟨hyl, (by simp only [maxLen] at hm; omega : len ≤ 9223372036854775807), fun (hn : 0 < len) => ?_⟩, fun y hy => by
      obtain ⟨i, hi⟩ := List.getElem?_of_mem hy
      exact (hys i y hi).2⟩
    obtain ⟨b, off, spot⟩ := a
    have h0 : ∃ v, w.cell? (⟨b, off, spot⟩ : Addr) = some v := by
      obtain ⟨y, hy⟩ : ∃ y, ys[0]? = some y := ⟨ys[0]'(by omega), List.getElem?_eq_getElem (by omega)⟩
      obtain ⟨_, hcl, hcc⟩ := World.cells?_some (hys 0 y hy).1
      have := hcc 0 hk0
      rw [List.getElem?_eq_getElem (by rw [hlen]; exact hk0)] at this
      simp [Addr.add] at this
      exact ⟨_, this⟩
    obtain ⟨v0, hv0⟩ := h0
    have hspot : spot = none := World.cell?_spot hv0
    subst hspot
    refine ⟨b, off, rfl, World.block_lt_of_cell? w _ hv0, fun j x hx' i v hv' => ?_⟩
    obtain ⟨_, hcl, hcc⟩ := World.cells?_some (hys j x hx').1
    have hi : i < k := by rw [← hlen x]; exact (List.getElem?_eq_some_iff.1 hv').1
    have := hcc i hi
    rw [hv'] at this
    have ha : ((⟨b, off, none⟩ : Addr).add (j * k)).add i = ⟨b, off + j * k + i, none⟩ := by
      unfold Addr.add; (repeat' split) <;> simp_all <;> omega
    rwa [ha] at this
theorem dec_ints6 {t : TypeId} {f0 f1 f2 f3 f4 f5 : Field} {α : Type} {e : α → List Value} (mk : Int → Int → Int → Int → Int → Int → α) (hmk : ∀ a b c d x y, e (mk a b c d x y) = [.int .i64 a, .int .i64 b, .int .i64 c, .int .i64 d, .int .i64 x, .int .i64 y])
    (hs : P.underlying t = some (.struct #[f0, f1, f2, f3, f4, f5])) (hone : oneCellFields P #[f0, f1, f2, f3, f4, f5] = true) (hC : P.cellsOf t = 6)
    (u0 : P.underlying f0.type = some (.int .i64)) (u1 : P.underlying f1.type = some (.int .i64)) (u2 : P.underlying f2.type = some (.int .i64)) (u3 : P.underlying f3.type = some (.int .i64)) (u4 : P.underlying f4.type = some (.int .i64)) (u5 : P.underlying f5.type = some (.int .i64)) :
    Dec enc P w base spare held t e (fun _ => True) := fun fuel cs x h => by
  obtain ⟨xs, n, _, _, hlc, hlen, hg⟩ := DataW.trod_struct hs h
  obtain ⟨o0, k0⟩ := hone_of hone 0 f0 rfl
  obtain ⟨o1, k1⟩ := hone_of hone 1 f1 rfl
  obtain ⟨o2, k2⟩ := hone_of hone 2 f2 rfl
  obtain ⟨o3, k3⟩ := hone_of hone 3 f3 rfl
  obtain ⟨o4, k4⟩ := hone_of hone 4 f4 rfl
  obtain ⟨o5, k5⟩ := hone_of hone 5 f5 rfl
  match cs, hlc.trans hC with
  | [c0, c1, c2, c3, c4, c5], _ =>
    match xs, hlen with
    | [y0, y1, y2, y3, y4, y5], _ =>
      have g0 : DataW.trod enc P w base spare held n f0.type [c0] = some y0 := by simpa [Value.cells, o0, k0] using hg 0 f0 rfl
      have g1 : DataW.trod enc P w base spare held n f1.type [c1] = some y1 := by simpa [Value.cells, o1, k1] using hg 1 f1 rfl
      have g2 : DataW.trod enc P w base spare held n f2.type [c2] = some y2 := by simpa [Value.cells, o2, k2] using hg 2 f2 rfl
      have g3 : DataW.trod enc P w base spare held n f3.type [c3] = some y3 := by simpa [Value.cells, o3, k3] using hg 3 f3 rfl
      have g4 : DataW.trod enc P w base spare held n f4.type [c4] = some y4 := by simpa [Value.cells, o4, k4] using hg 4 f4 rfl
      have g5 : DataW.trod enc P w base spare held n f5.type [c5] = some y5 := by simpa [Value.cells, o5, k5] using hg 5 f5 rfl
      obtain ⟨a, e0, _, w0⟩ := DataW.trod_int u0 g0
      obtain ⟨b, e1, _, w1⟩ := DataW.trod_int u1 g1
      obtain ⟨c, e2, _, w2⟩ := DataW.trod_int u2 g2
      obtain ⟨d, e3, _, w3⟩ := DataW.trod_int u3 g3
      obtain ⟨x, e4, _, w4⟩ := DataW.trod_int u4 g4
      obtain ⟨y, e5, _, w5⟩ := DataW.trod_int u5 g5
      simp at e0 e1 e2 e3 e4 e5
      subst e0 e1 e2 e3 e4 e5
      exact ⟨mk a b c d x y, (hmk a b c d x y).symm, trivial⟩
/-- A state: four rows of whole numbers. -/
theorem dec_state {t e : TypeId} {f0 f1 f2 f3 : Field} (hs : P.underlying t = some (.struct #[f0, f1, f2, f3])) (hone : oneCellFields P #[f0, f1, f2, f3] = true) (hC : P.cellsOf t = 4)
    (u0 : P.underlying f0.type = some (.slice e)) (u1 : P.underlying f1.type = some (.slice e)) (u2 : P.underlying f2.type = some (.slice e)) (u3 : P.underlying f3.type = some (.slice e)) (he : P.underlying e = some (.int .i64)) (hk : P.cellsOf e = 1) :
    Dec enc P w base spare held t (fun s : St => [s.f.v, s.c.v, s.s.v, s.t.v]) (fun s => ∃ fl co, Sl eInt 1 w s.f.A s.f.n fl ∧ Sl eInt 1 w s.c.A s.c.n co) := fun fuel cs x h => by
  obtain ⟨xs, n, _, _, hlc, hlen, hg⟩ := DataW.trod_struct hs h
  obtain ⟨o0, k0⟩ := hone_of hone 0 f0 rfl
  obtain ⟨o1, k1⟩ := hone_of hone 1 f1 rfl
  obtain ⟨o2, k2⟩ := hone_of hone 2 f2 rfl
  obtain ⟨o3, k3⟩ := hone_of hone 3 f3 rfl
  match cs, hlc.trans hC with
  | [c0, c1, c2, c3], _ =>
    match xs, hlen with
    | [y0, y1, y2, y3], _ =>
      have g0 : DataW.trod enc P w base spare held n f0.type [c0] = some y0 := by simpa [Value.cells, o0, k0] using hg 0 f0 rfl
      have g1 : DataW.trod enc P w base spare held n f1.type [c1] = some y1 := by simpa [Value.cells, o1, k1] using hg 1 f1 rfl
      have g2 : DataW.trod enc P w base spare held n f2.type [c2] = some y2 := by simpa [Value.cells, o2, k2] using hg 2 f2 rfl
      have g3 : DataW.trod enc P w base spare held n f3.type [c3] = some y3 := by simpa [Value.cells, o3, k3] using hg 3 f3 rfl
      obtain ⟨a, e0, fl, hfl, _⟩ := dec_sl u0 hk (by omega) (fun _ => rfl) (dec_int he) _ _ _ g0
      obtain ⟨b, e1, co, hco, _⟩ := dec_sl u1 hk (by omega) (fun _ => rfl) (dec_int he) _ _ _ g1
      obtain ⟨c, e2, _⟩ := dec_sl u2 hk (by omega) (fun _ => rfl) (dec_int he) _ _ _ g2
      obtain ⟨d, e3, _⟩ := dec_sl u3 hk (by omega) (fun _ => rfl) (dec_int he) _ _ _ g3
      simp at e0 e1 e2 e3
      subst e0 e1 e2 e3
      exact ⟨⟨a, b, c, d⟩, rfl, fl, co, hfl, hco⟩
/-- A page: what it is, its tag, its data. -/
theorem dec_page {t : TypeId} {f0 f1 f2 : Field} (hs : P.underlying t = some (.struct #[f0, f1, f2])) (hC : P.cellsOf t = 6) (o0 : f0.offset = 0) (o1 : f1.offset = 1) (o2 : f2.offset = 5) (k0 : P.cellsOf f0.type = 1) (k1 : P.cellsOf f1.type = 4) (k2 : P.cellsOf f2.type = 1)
    (u0 : P.underlying f0.type = some (.int .i64)) (u1 : Dec enc P w base spare held f1.type (fun x : Tg => [.int .i64 x.kind, .int .i64 x.lba, .int .i64 x.seq, .int .i64 x.epoch]) (fun x => Fits x.seq)) (u2 : P.underlying f2.type = some .string) :
    Dec enc P w base spare held t ePg (fun p => Fits p.tag.seq) := fun fuel cs x h => by
  obtain ⟨xs, n, _, _, hlc, hlen, hg⟩ := DataW.trod_struct hs h
  match cs, hlc.trans hC with
  | [c0, c1, c2, c3, c4, c5], _ =>
    match xs, hlen with
    | [y0, y1, y2], _ =>
      have g0 : DataW.trod enc P w base spare held n f0.type [c0] = some y0 := by simpa [Value.cells, o0, k0] using hg 0 f0 rfl
      have g1 : DataW.trod enc P w base spare held n f1.type [c1, c2, c3, c4] = some y1 := by simpa [Value.cells, o1, k1] using hg 1 f1 rfl
      have g2 : DataW.trod enc P w base spare held n f2.type [c5] = some y2 := by simpa [Value.cells, o2, k2] using hg 2 f2 rfl
      obtain ⟨a, e0, _, w0⟩ := DataW.trod_int u0 g0
      obtain ⟨b, e1, hb⟩ := u1 _ _ _ g1
      obtain ⟨c, e2, _⟩ := dec_string u2 _ _ _ g2
      simp at e0 e1 e2
      obtain ⟨rfl, rfl, rfl, rfl⟩ := e1
      subst e0 e2
      exact ⟨⟨a, b, c⟩, rfl, hb⟩
/-- A block with its pages. -/
theorem dec_block {t pt : TypeId} {f0 f1 f2 : Field} (hs : P.underlying t = some (.struct #[f0, f1, f2])) (hone : oneCellFields P #[f0, f1, f2] = true) (hC : P.cellsOf t = 3)
    (u0 : P.underlying f0.type = some (.int .i64)) (u1 : P.underlying f1.type = some .bool) (u2 : P.underlying f2.type = some (.slice pt)) (hk : P.cellsOf pt = 6) (hp : Dec enc P w base spare held pt ePg (fun p => Fits p.tag.seq)) :
    Dec enc P w base spare held t eBl (fun x => Sl ePg 6 w x.b.p.A x.b.p.n x.pages ∧ ∀ p ∈ x.pages, Fits p.tag.seq) := fun fuel cs x h => by
  obtain ⟨xs, n, _, _, hlc, hlen, hg⟩ := DataW.trod_struct hs h
  obtain ⟨o0, k0⟩ := hone_of hone 0 f0 rfl
  obtain ⟨o1, k1⟩ := hone_of hone 1 f1 rfl
  obtain ⟨o2, k2⟩ := hone_of hone 2 f2 rfl
  match cs, hlc.trans hC with
  | [c0, c1, c2], _ =>
    match xs, hlen with
    | [y0, y1, y2], _ =>
      have g0 : DataW.trod enc P w base spare held n f0.type [c0] = some y0 := by simpa [Value.cells, o0, k0] using hg 0 f0 rfl
      have g1 : DataW.trod enc P w base spare held n f1.type [c1] = some y1 := by simpa [Value.cells, o1, k1] using hg 1 f1 rfl
      have g2 : DataW.trod enc P w base spare held n f2.type [c2] = some y2 := by simpa [Value.cells, o2, k2] using hg 2 f2 rfl
      obtain ⟨a, e0, _, w0⟩ := DataW.trod_int u0 g0
      obtain ⟨b, e1, _⟩ := DataW.trod_bool u1 g1
      obtain ⟨c, e2, ps, hps, hfit⟩ := dec_sl u2 hk (by omega) (fun _ => rfl) hp _ _ _ g2
      simp at e0 e1 e2
      subst e0 e1 e2
      exact ⟨⟨⟨a, b, c⟩, ps⟩, rfl, hps, hfit⟩
end
end Go.Proofs.Ytdjfkehbknbocaa

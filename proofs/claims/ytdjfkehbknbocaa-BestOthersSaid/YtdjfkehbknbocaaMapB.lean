/- What lies still while best.Map's rounds run; the way out behind several ranges over a function. -/
import Derived.Test.YtdjfkehbknbocaaMapA
import Derived.Test.YtdjfkehbknbocaaBestN
namespace Go.Proofs.Ytdjfkehbknbocaa
open Go.RowKit
set_option linter.unusedSimpArgs false
set_option linter.unusedVariables false

/-- The blocks of Map's own frame: geometry, state, the variable that holds the map. -/
structure Fix (w0 : World) (g : Geo) (s : St) (W : World) : Prop where
  gs : GS w0 g s W
  so : Blk W (w0.heap.size + 3) 102 #[.map (some (w0.heap.size + 2))]
  below : Below w0.heap.size w0 W
/-- The marks that the ranges so far have left. -/
def mkD (D : Nat) : Deferred := { target := .collected D, args := #[] }
def Marks (lo hi : Nat) (ds : List Deferred) (W : World) : Prop := ∃ Ds : List Nat, ds = Ds.map mkD ∧ Ds.Nodup ∧ ∀ D ∈ Ds, lo ≤ D ∧ D < hi ∧ W.heap[D]? = some (.deferred (some []))
section
variable {w0 W W' : World} {g : Geo} {s : St} {row : Option Nat} {lo hi : Nat} {ds : List Deferred}
theorem Fix.grown (h : Fix w0 g s W) (hg : W.grownBy W' row) (hne : ∀ k, row = some k → k = w0.heap.size + 2 ∨ w0.heap.size + 4 ≤ k) : Fix w0 g s W' :=
  ⟨⟨h.gs.geo.grown hg (fun e => by have := hne _ e.symm; omega), h.gs.st.grown hg (fun e => by have := hne _ e.symm; omega)⟩, h.so.grown hg (fun e => by have := hne _ e.symm; omega),
    h.below.grown hg h.below.size (fun k e => by have := hne k e; omega)⟩
theorem Marks.grown (h : Marks lo hi ds W) (hg : W.grownBy W' row) (hne : ∀ k, row = some k → k < lo ∨ hi ≤ k) : Marks lo hi ds W' := by
  obtain ⟨Ds, e, hnd, hD⟩ := h
  refine ⟨Ds, e, hnd, fun D hm => ?_⟩
  obtain ⟨h1, h2, h3⟩ := hD D hm
  exact ⟨h1, h2, (hg.block D (Array.getElem?_eq_some_iff.1 h3).1 (fun e => by have := hne _ e.symm; omega)).trans h3⟩
theorem Marks.mono (h : Marks lo hi ds W) {hi' : Nat} (hh : hi ≤ hi') : Marks lo hi' ds W := by
  obtain ⟨Ds, e, hnd, hD⟩ := h
  exact ⟨Ds, e, hnd, fun D hm => ⟨(hD D hm).1, by have := (hD D hm).2.1; omega, (hD D hm).2.2⟩⟩
theorem Marks.nil (lo hi : Nat) (W : World) : Marks lo hi [] W := ⟨[], rfl, List.nodup_nil, by simp⟩
theorem Marks.cons (h : Marks lo hi ds W) {D : Nat} (hl : lo ≤ hi) (hD : hi ≤ D) (hk : W.heap[D]? = some (.deferred (some []))) : Marks lo W.heap.size ({ target := .collected D, args := #[] } :: ds) W := by
  obtain ⟨Ds, e, hnd, hDs⟩ := h
  have hlt := (Array.getElem?_eq_some_iff.1 hk).1
  refine ⟨D :: Ds, by rw [e]; rfl, List.nodup_cons.2 ⟨fun hm => by have := (hDs D hm).2.1; omega, hnd⟩, fun D' hm => ?_⟩
  rcases List.mem_cons.1 hm with rfl | hm
  · exact ⟨by omega, hlt, hk⟩
  · exact ⟨(hDs D' hm).1, by have := (hDs D' hm).2.1; omega, (hDs D' hm).2.2⟩
end
/-- The way out of a function whose ranges have left marks. -/
theorem leaves_marks {F : Fence} {n : Nat} {P : Program} {fn : Func} {tmps : Array Value} {R : Ending → World → Prop} {Pr : World → Prop} {lo : Nat}
    (H1 : ∀ W D, Pr W → lo ≤ D → W.heap[D]? = some (.deferred (some [])) → Pr (W.putObj D (.deferred none))) (H2 : ∀ W, Pr W → LeavesIn F n P fn tmps R [] .returning W) :
    ∀ (Ds : List Nat) (W : World), Ds.Nodup → (∀ D ∈ Ds, lo ≤ D ∧ W.heap[D]? = some (.deferred (some []))) → Pr W → LeavesInM F n P fn tmps R (Ds.map mkD) .returning W
  | [], W, _, _, h => H2 W h
  | D :: Ds, W, hnd, hD, h => by
    obtain ⟨hn, hnd'⟩ := List.nodup_cons.1 hnd
    obtain ⟨h1, h2⟩ := hD D (by simp)
    refine ⟨by simp, .inl ⟨D, _, rfl, run_takeDeferred h2, ?_⟩⟩
    refine leaves_marks H1 H2 Ds _ hnd' (fun D' hm => ?_) (H1 W D h h1 h2)
    obtain ⟨h3, h4⟩ := hD D' (by simp [hm])
    exact ⟨h3, (World.putObj_heap_other (by rintro rfl; exact hn hm)).trans h4⟩
theorem Marks.out {F : Fence} {n : Nat} {P : Program} {fn : Func} {tmps : Array Value} {R : Ending → World → Prop} {Pr : World → Prop} {lo hi : Nat} {ds : List Deferred} {W : World} (h : Marks lo hi ds W)
    (H1 : ∀ W D, Pr W → lo ≤ D → W.heap[D]? = some (.deferred (some [])) → Pr (W.putObj D (.deferred none))) (H2 : ∀ W, Pr W → LeavesIn F n P fn tmps R [] .returning W) (hp : Pr W) : LeavesInM F n P fn tmps R ds .returning W := by
  obtain ⟨Ds, rfl, hnd, hD⟩ := h
  exact leaves_marks H1 H2 Ds W hnd (fun D hm => ⟨(hD D hm).1, (hD D hm).2.2⟩) hp

theorem own_put_ {W : World} {base : Nat} {e : TypeId} {size n : Nat} {v : Value} {xs : List Value} (h : W.ownsRow base e size v n xs) {D : Nat} {o : Obj} (o' : Obj) (hD : W.heap[D]? = some o) (hc : o.isCells = false) : (W.putObj D o').ownsRow base e size v n xs :=
  h.kept (grownBy_putObj' W D o') (by
    refine Or.inr ?_
    intro e1
    rcases h.2 with ⟨rfl, _⟩ | ⟨g, cap, cur, rfl, _, hh, _⟩
    · cases e1
    · injection e1 with e1
      subst e1
      rw [hD] at hh
      injection hh with hh
      subst hh
      cases hc)
theorem Two.put_ {base : Nat} {w0 W : World} {ads : List Ad} {ns : List Int} {n : Nat} {v8 v9 : Value} (h : Two base w0 ads ns n v8 v9 W) {D : Nat} (hl : w0.heap.size ≤ D) (hD : W.heap[D]? = some (.deferred (some []))) : Two base w0 ads ns n v8 v9 (W.putObj D (.deferred none)) :=
  ⟨own_put_ h.a _ hD rfl, own_put_ h.i _ hD rfl, h.ne, h.below.grown (grownBy_putObj' W D _) h.below.size (fun k e => by injection e with e; omega)⟩
/-- Between two rounds of Map's last loop: what does not turn. -/
structure LR (lo : Nat) (w0 : World) (g : Geo) (s : St) (ds : List Deferred) (NN : Nat) (st : Int → Option Sec) (W : World) : Prop where
  fx : Fix w0 g s W
  rep : Rep g.lbas (w0.heap.size + 2) NN st W
  marks : Marks (w0.heap.size + 4) lo ds W
  size : lo ≤ W.heap.size
theorem LR.grown {lo : Nat} {w0 : World} {g : Geo} {s : St} {ds : List Deferred} {NN : Nat} {st : Int → Option Sec} {W W' : World} (h : LR lo w0 g s ds NN st W) (h4 : w0.heap.size + 4 ≤ lo)
    {row : Option Nat} (hg : W.grownBy W' row) (hr : ∀ q, row = some q → lo ≤ q) : LR lo w0 g s ds NN st W' :=
  ⟨h.fx.grown hg (fun q e => Or.inr (Nat.le_trans h4 (hr q e))), h.rep.kept hg (fun e => by have := hr _ e.symm; omega), h.marks.grown hg (fun q e => Or.inr (hr q e)), Nat.le_trans h.size hg.size⟩
theorem LR.alloc {lo : Nat} {w0 : World} {g : Geo} {s : St} {ds : List Deferred} {NN : Nat} {st : Int → Option Sec} {W : World} (h : LR lo w0 g s ds NN st W) (h4 : w0.heap.size + 4 ≤ lo) (o : Obj) : LR lo w0 g s ds NN st (W.alloc o) :=
  h.grown h4 (World.grownBy_alloc W o none) (fun q e => by cases e)

abbrev geoC (g : Geo) : Array Value := #[.int .i64 g.blocks, .int .i64 g.lines, .int .i64 g.bytes, .int .i64 g.lbas, .int .i64 g.spare, .int .i64 g.wear]
abbrev pgC (p : Pg) : Array Value := #[.int .i64 p.what, .int .i64 p.tag.kind, .int .i64 p.tag.lba, .int .i64 p.tag.seq, .int .i64 p.tag.epoch, .string p.data]
/-- Between two rounds of the range over block i's pages. -/
structure IB (hi : Nat) (w0 : World) (g : Geo) (s : St) (ds : List Deferred) (B9 B10 i : Nat) (bm : Int) (bb : Bool) (v : Value) (fl co : List Int) (st0 : Int → Option Sec) (pre : List (Ad × Pg)) (W : World) : Prop where
  fx : Fix w0 g s W
  rep : Rep g.lbas (w0.heap.size + 2) (100 * i + pre.length) (foldO g.lbas fl co (i : Int) bm st0 pre) W
  b9 : Blk W B9 3 #[.int .i64 i]
  b10 : Blk W B10 60 #[.int .i64 bm, .bool bb, v]
  marks : Marks (w0.heap.size + 4) hi ds W
  size : hi ≤ W.heap.size
section
variable {hi : Nat} {w0 : World} {g : Geo} {s : St} {ds : List Deferred} {B9 B10 i : Nat} {bm : Int} {bb : Bool} {v : Value} {fl co : List Int} {st0 : Int → Option Sec}
theorem IB.own (h4 : w0.heap.size + 4 ≤ hi) (h9 : B9 < hi) (h10 : B10 < hi) : OwnFrom hi (fun pre W => IB hi w0 g s ds B9 B10 i bm bb v fl co st0 pre W) := fun pre A B row h hg hr => by
  have hne : ∀ k, row = some k → hi ≤ k := fun k e => (hr k e).1
  exact ⟨h.fx.grown hg (fun k e => Or.inr (Nat.le_trans h4 (hne k e))), h.rep.kept hg (fun e => by have := hne _ e.symm; omega), h.b9.grown hg (fun e => by have := hne _ e.symm; omega), h.b10.grown hg (fun e => by have := hne _ e.symm; omega), h.marks.grown hg (fun k e => Or.inr (hne k e)), Nat.le_trans h.size hg.size⟩
/-- Behind a round that has turned the map alone. -/
theorem IB.next {pre pre' : List (Ad × Pg)} {W W' : World} (h : IB hi w0 g s ds B9 B10 i bm bb v fl co st0 pre W) (hg : W.grownBy W' (some (w0.heap.size + 2))) (h9 : w0.heap.size + 4 ≤ B9) (h10 : w0.heap.size + 4 ≤ B10)
    (hrep : Rep g.lbas (w0.heap.size + 2) (100 * i + pre'.length) (foldO g.lbas fl co (i : Int) bm st0 pre') W') : IB hi w0 g s ds B9 B10 i bm bb v fl co st0 pre' W' :=
  ⟨h.fx.grown hg (fun k e => by injection e with e; omega), hrep, h.b9.grown hg (fun e => by injection e with e; omega), h.b10.grown hg (fun e => by injection e with e; omega), h.marks.grown hg (fun k e => by injection e with e; omega), Nat.le_trans h.size hg.size⟩
theorem kpW_of_grown {n₀ B1 B2 mb : Nat} {W W' : World} (hg : W.grownBy W' (some mb)) (hn : n₀ ≤ mb) (hs : n₀ ≤ W.heap.size) (h1 : B1 ≠ mb) (h2 : B2 ≠ mb) (l1 : B1 < W.heap.size) (l2 : B2 < W.heap.size) : KpW n₀ B1 B2 W W' :=
  ⟨(Below.refl n₀ W).grown hg hs (fun k e => by injection e with e; omega), hg.block B1 l1 (fun e => by injection e with e; omega), hg.block B2 l2 (fun e => by injection e with e; omega)⟩
/-- The two loop variables, each in a block of its own. -/
structure AxB (hi : Nat) (x : Ad × Pg) (mk : Nat → Nat → Array Value) (a' : Act) (Bx By : Nat) (W : World) : Prop where
  lx : hi ≤ Bx
  ly : hi ≤ By
  bx : Blk W Bx 70 (adC x.1)
  bp : Blk W By 64 (pgC x.2)
  act : a' = { tmps := mk Bx By, defers := [] }
theorem blk_from {W W' : World} {B : Nat} {t : TypeId} {cs : Array Value} {row : Option Nat} (h : Blk W B t cs) (hg : W.grownBy W' row) (hr : ∀ r, row = some r → hi ≤ r ∧ ∃ o : Obj, W.heap[r]? = some o ∧ o.isCells = false) : Blk W' B t cs :=
  h.grown hg (fun e => by
    obtain ⟨_, o, ho, hc⟩ := hr B e.symm
    unfold Blk at h
    rw [h] at ho
    cases ho
    cases hc)
theorem AxB.own (x : Ad × Pg) (mk : Nat → Nat → Array Value) (a' : Act) : OwnFrom hi (fun (_ : Unit) W => ∃ Bx By, AxB hi x mk a' Bx By W) := fun _ A B row h hg hr => by
  obtain ⟨Bx, By, h⟩ := h
  exact ⟨Bx, By, h.lx, h.ly, blk_from h.bx hg hr, blk_from h.bp hg hr, h.act⟩
end
theorem grown_put {a w : World} {row : Option Nat} (h : a.grownBy w row) {g : Nat} (hg : a.heap.size ≤ g) (i : Nat) (u : Value) : a.grownBy (w.setCell ⟨g, i, none⟩ u) row :=
  ⟨h.os, h.tape, h.output, by simpa [World.setCell] using h.size, fun k hk hne => (Below.heap_setCell w ⟨g, i, none⟩ u k (by show k ≠ g; omega)).trans (h.block k hk hne)⟩
end Go.Proofs.Ytdjfkehbknbocaa

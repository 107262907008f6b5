/- What best.Map's own map holds: for each sector the tag and the address that count so far. -/
import Derived.Maps.OwnIn
import Derived.Maps.OwnSet
import Derived.Test.YtdjfkehbknbocaaWhere
namespace Go.Proofs.Ytdjfkehbknbocaa
open Go.RowKit
open Go.Maps (has IsMap)
set_option linter.unusedSimpArgs false
set_option linter.unusedVariables false

abbrev Sec := Ad × Tg
def noSec : Sec := (⟨0, 0, 0⟩, ⟨0, 0, 0, 0⟩)
def oneV (x : Sec) : Value := .agg #[.int .i64 x.2.kind, .int .i64 x.2.lba, .int .i64 x.2.seq, .int .i64 x.2.epoch, .int .i64 x.1.block, .int .i64 x.1.line, .int .i64 x.1.part]
def dOne (x : Sec) : DataW Unit := .agg [.lit (.int .i64 x.2.kind), .lit (.int .i64 x.2.lba), .lit (.int .i64 x.2.seq), .lit (.int .i64 x.2.epoch), .lit (.int .i64 x.1.block), .lit (.int .i64 x.1.line), .lit (.int .i64 x.1.part)]
theorem oneV_inj {x y : Sec} (h : oneV x = oneV y) : x = y := by
  obtain ⟨⟨a, b, c⟩, ⟨d, e, f, g⟩⟩ := x
  obtain ⟨⟨a', b', c'⟩, ⟨d', e', f', g'⟩⟩ := y
  simp [oneV] at h
  obtain ⟨rfl, rfl, rfl, rfl, rfl, rfl, rfl⟩ := h
  rfl
theorem dOne_inj {x y : Sec} (h : dOne x = dOne y) : x = y := by
  obtain ⟨⟨a, b, c⟩, ⟨d, e, f, g⟩⟩ := x
  obtain ⟨⟨a', b', c'⟩, ⟨d', e', f', g'⟩⟩ := y
  simp [dOne] at h
  obtain ⟨rfl, rfl, rfl, rfl, rfl, rfl, rfl⟩ := h
  rfl
open Classical in
/-- How an element of that map reads. -/
noncomputable def oneR (v : Value) : Option (DataW Unit × List MemPlace) := if h : ∃ x, v = oneV x then some (dOne (Classical.choose h), []) else none
theorem oneR_mk (x : Sec) : oneR (oneV x) = some (dOne x, []) := by
  have h : ∃ y, oneV x = oneV y := ⟨x, rfl⟩
  unfold oneR
  rw [dif_pos h, ← oneV_inj (Classical.choose_spec h)]
theorem oneR_inv {v : Value} {x : Sec} {ps : List MemPlace} (h : oneR v = some (dOne x, ps)) : v = oneV x := by
  unfold oneR at h
  split at h
  · rename_i hx
    injection h with h
    injection h with h _
    rw [← dOne_inj h]
    exact Classical.choose_spec hx
  · cases h

/-- The map at block mb holds st, at the sectors below lbas. -/
def Rep (lbas : Int) (mb n : Nat) (st : Int → Option Sec) (W : World) : Prop :=
  ∃ D : DataW Unit, W.ownsMap Try.prog 3 oneR mb n D ∧ IsMap D ∧ ∀ l : Int, 0 ≤ l → l < lbas → has D (.int .i64 l) = (st l).isSome ∧ D.atKey (.int .i64 l) (dOne noSec) = dOne ((st l).getD noSec)
section
variable {lbas : Int} {mb n : Nat} {st : Int → Option Sec} {W W' : World}
theorem Rep.lt (h : Rep lbas mb n st W) : mb < W.heap.size := by obtain ⟨D, hD, _⟩ := h; exact hD.lt
theorem Rep.mono (h : Rep lbas mb n st W) {n' : Nat} (hn : n ≤ n') : Rep lbas mb n' st W := by obtain ⟨D, hD, h2⟩ := h; exact ⟨D, hD.mono hn, h2⟩
theorem Rep.kept {row : Option Nat} (h : Rep lbas mb n st W) (hg : W.grownBy W' row) (hne : some mb ≠ row) : Rep lbas mb n st W' := by obtain ⟨D, hD, h2⟩ := h; exact ⟨D, hD.kept hg hne, h2⟩
theorem Rep.below_ (h : Rep lbas mb n st W) (hb : Below W.heap.size W W') : Rep lbas mb n st W' := h.kept (grown_of_below hb none) (by simp)
theorem Rep.alloc (h : Rep lbas mb n st W) (o : Obj) : Rep lbas mb n st (W.alloc o) := h.kept (World.grownBy_alloc W o none) (by simp)
theorem Rep.of_eq {st' : Int → Option Sec} (h : Rep lbas mb n st W) (e : ∀ l, st l = st' l) : Rep lbas mb n st' W := by have : st = st' := funext e; exact this ▸ h
theorem Rep.made (w : World) (lbas : Int) : Rep lbas w.heap.size 0 (fun _ => none) (w.alloc (.map #[] 0)) :=
  ⟨.map [], World.ownsMap_made w Try.prog _ _, ⟨_, rfl⟩, fun l _ _ => ⟨rfl, rfl⟩⟩
end
theorem wf_sec {l lbas : Int} (h0 : 0 ≤ l) (h1 : l < lbas) (hl : lbas ≤ 100) : (Lit.int .i64 l).wf = true := by
  have a : IntKind.i64.min ≤ l := Int.le_trans (by decide) h0
  have b : l ≤ IntKind.i64.max := Int.le_trans (show l ≤ 100 by omega) (by decide)
  show (decide (IntKind.i64.min ≤ l) && decide (l ≤ IntKind.i64.max)) = true
  rw [decide_eq_true a, decide_eq_true b]
  rfl
theorem zero_one_ : Try.t107.zero = some (oneV noSec) := by kernel_rfl
theorem zero_one (w : World) : (zeroValue 107).run Try.prog w = .ok (oneV noSec) w := by
  simp [zeroValue, go_sem, zero_one_]
section
variable {F : Fence} {nF : Nat} {ops : Array Oper} {rest : List Oper} {o : Oper} {a : Act} {Q : Exit → Act → World → Prop} {lbas : Int} {mb n : Nat} {st : Int → Option Sec} {w : World}
/-- 'x, there := so[l]'. -/
theorem wpListIn_lookup_one (hg : o.guard = none) (m x : Operand) (hop : o.op = Op.lookup 102 m x true) (hm : a.eval m = .map (some mb)) (hrep : Rep lbas mb n st w) {l : Int} (hx : a.eval x = .int .i64 l) (h0 : 0 ≤ l) (h1 : l < lbas) (hl : lbas ≤ 100)
    (s : Option Sec) (hs : st l = s) (v : Value) (hv : oneV (s.getD noSec) = v) (bl : Bool) (hbl : s.isSome = bl) (hK : wpListIn F nF Try.prog ops Q rest (a.put o.dst (.tuple #[v, .bool bl])) w) : wpListIn F nF Try.prog ops Q (o :: rest) a w := by
  obtain ⟨D, hown, hM, hat⟩ := hrep
  obtain ⟨e1, e2⟩ := hat l h0 h1
  refine wpListIn_lookup_own_ok w hg m x _ hop 3 107 (Maps.int_keyed Try.underlying3) Try.underlying102 oneR (zero_one w) (dOne noSec) [] (oneR_mk noSec) mb n D hm hown _ _ hx (Maps.keyOf_int_mk Try.underlying3 (wf_sec h0 h1 hl)) ?_
  intro u ps hu
  rw [e2] at hu
  rw [oneR_inv hu, e1, hs, hv, hbl]
  exact hK
/-- The same in a walk without a fence. -/
theorem wpList_lookup_one (hg : o.guard = none) (m x : Operand) (hop : o.op = Op.lookup 102 m x true) (hm : a.eval m = .map (some mb)) (hrep : Rep lbas mb n st w) {l : Int} (hx : a.eval x = .int .i64 l) (h0 : 0 ≤ l) (h1 : l < lbas) (hl : lbas ≤ 100)
    (s : Option Sec) (hs : st l = s) (v : Value) (hv : oneV (s.getD noSec) = v) (bl : Bool) (hbl : s.isSome = bl) (hK : wpList Try.prog ops Q rest (a.put o.dst (.tuple #[v, .bool bl])) w) : wpList Try.prog ops Q (o :: rest) a w := by
  obtain ⟨D, hown, hM, hat⟩ := hrep
  obtain ⟨e1, e2⟩ := hat l h0 h1
  refine wpList_lookup_own_ok w hg m x _ hop 3 107 (Maps.int_keyed Try.underlying3) Try.underlying102 oneR (zero_one w) (dOne noSec) [] (oneR_mk noSec) mb n D hm hown _ _ hx (Maps.keyOf_int_mk Try.underlying3 (wf_sec h0 h1 hl)) ?_
  intro u ps hu
  rw [e2] at hu
  rw [oneR_inv hu, e1, hs, hv, hbl]
  exact hK
/-- 'so[l] = x'. -/
theorem wpListIn_update_one (hg : o.guard = none) (m x v : Operand) (hop : o.op = Op.mapUpdate 102 m x v) (hm : a.eval m = .map (some mb)) (hrep : Rep lbas mb n st w) (hn : n < 1000000) {l : Int} (hx : a.eval x = .int .i64 l) (h0 : 0 ≤ l) (h1 : l < lbas) (hl : lbas ≤ 100)
    (s : Sec) (hv : a.eval v = oneV s) (hK : ∀ w', Rep lbas mb (n + 1) (fun l' => if l' = l then some s else st l') w' → w.grownBy w' (some mb) → wpListIn F nF Try.prog ops Q rest (a.put o.dst undef) w') : wpListIn F nF Try.prog ops Q (o :: rest) a w := by
  obtain ⟨D, hown, hM, hat⟩ := hrep
  refine wpListIn_mapUpdate_own w hg m x v _ hop 3 107 (Maps.int_keyed Try.underlying3) Try.underlying102 oneR mb n D hm hown (by simp only [maxLen]; omega) _ _ _ hx hv (Maps.keyOf_int_mk Try.underlying3 (wf_sec h0 h1 hl)) (dOne s) [] (oneR_mk s) ?_
  intro w' hown' hgr
  refine hK w' ⟨_, hown', hM.put _ _, fun l' h0' h1' => ?_⟩ hgr
  by_cases e : l' = l
  · subst e
    simp only [if_true]
    exact ⟨Maps.has_put_same hM (show WideAt.IsKeyLit (.int .i64 l') from trivial) _, Maps.atKey_put_same hM (show WideAt.IsKeyLit (.int .i64 l') from trivial) _ _⟩
  · have hne : Lit.int .i64 l' ≠ Lit.int .i64 l := by intro h; injection h with _ h; exact e h
    simp only [e, if_false]
    rw [Maps.has_put_other hne, Maps.atKey_put_other hne]
    exact hat l' h0' h1'
end

theorem ne_struct {P : Program} {xs ys : Array Value} {r : Bool} {w : World} {t : TypeId} {fs : Array Field} (hu : P.underlying t = some (.struct fs)) (hp : P.stoodInHeld t = false) (h : (Op.eqFields (9998 + 1) xs ys fs.toList).run P w = .ok r w) : (binOp .neq t (.agg xs) (.agg ys)).run P w = .ok (.bool (!r)) w := by
  have hf : P.fieldsOf t = fs := by simp [Program.fieldsOf, hu]
  have h1 : (Op.equalIn (9999 + 1) t (.agg xs) (.agg ys)).run P w = .ok r w := by
    rw [run_equalIn_struct (P := P) w 9999 t xs ys (by rw [hf]; exact hu) hp, hf]
    exact h
  simp only [binOp]
  simp [Op.equal, Op.maxDepth, h1]
theorem neTag (a0 a1 a2 a3 b0 b1 b2 b3 : Int) (w : World) :
    (binOp .neq 62 (.agg #[.int .i64 a0, .int .i64 a1, .int .i64 a2, .int .i64 a3]) (.agg #[.int .i64 b0, .int .i64 b1, .int .i64 b2, .int .i64 b3])).run Try.prog w
      = .ok (.bool (!(a0 == b0 && (a1 == b1 && (a2 == b2 && (a3 == b3 && true)))))) w :=
  ne_struct Try.underlying62 (by kernel_rfl) (eqf_int a0 b0 rfl (Try.isAgg3 _) Try.underlying3 rfl rfl (eqf_int a1 b1 rfl (Try.isAgg3 _) Try.underlying3 rfl rfl (eqf_int a2 b2 rfl (Try.isAgg3 _) Try.underlying3 rfl rfl
    (eqf_int a3 b3 rfl (Try.isAgg3 _) Try.underlying3 rfl rfl eqf_nil))))

/-- One page that is handed round. -/
def stepO (lbas : Int) (fl co : List Int) (i mode : Int) (st : Int → Option Sec) (x : Ad × Pg) : Int → Option Sec := fun l =>
  if (x.2.tag.lba == l && (mayF lbas fl co i mode x.2 && (match st l with | none => true | some s => lessF s.2 x.2.tag))) = true then some (x.1, x.2.tag) else st l
def foldO (lbas : Int) (fl co : List Int) (i mode : Int) (st : Int → Option Sec) (ys : List (Ad × Pg)) : Int → Option Sec := ys.foldl (stepO lbas fl co i mode) st
theorem foldO_snoc (lbas : Int) (fl co : List Int) (i mode : Int) (st : Int → Option Sec) (ys : List (Ad × Pg)) (x : Ad × Pg) : foldO lbas fl co i mode st (ys ++ [x]) = stepO lbas fl co i mode (foldO lbas fl co i mode st ys) x := by simp [foldO]
theorem stepO_not {lbas : Int} {fl co : List Int} {i mode : Int} {st : Int → Option Sec} {x : Ad × Pg} (h : mayF lbas fl co i mode x.2 = false) (l : Int) : stepO lbas fl co i mode st x l = st l := by
  unfold stepO
  rw [h]
  simp
theorem stepO_less {lbas : Int} {fl co : List Int} {i mode : Int} {st : Int → Option Sec} {x : Ad × Pg} {s : Sec} (hs : st x.2.tag.lba = some s) (h : lessF s.2 x.2.tag = false) (l : Int) : stepO lbas fl co i mode st x l = st l := by
  unfold stepO
  by_cases e : x.2.tag.lba = l
  · subst e
    rw [hs]
    simp only [h]
    simp
  · have : (x.2.tag.lba == l) = false := by simpa using e
    rw [this]
    simp
theorem stepO_put {lbas : Int} {fl co : List Int} {i mode : Int} {st : Int → Option Sec} {x : Ad × Pg} (h : mayF lbas fl co i mode x.2 = true) (hs : st x.2.tag.lba = none ∨ ∃ s, st x.2.tag.lba = some s ∧ lessF s.2 x.2.tag = true) (l : Int) :
    (if l = x.2.tag.lba then some (x.1, x.2.tag) else st l) = stepO lbas fl co i mode st x l := by
  unfold stepO
  by_cases e : x.2.tag.lba = l
  · subst e
    rw [h]
    rcases hs with hs | ⟨s, hs, h2⟩
    · rw [hs]; simp
    · rw [hs]; simp [h2]
  · have h1 : (x.2.tag.lba == l) = false := by simpa using e
    rw [h1, if_neg (fun h => e h.symm)]
    simp
def toO (s : Sec) : Option Sec := if s.1.block < 0 then none else some s
theorem mayF_rng {lbas : Int} {fl co : List Int} {i mode : Int} {p : Pg} (h : mayF lbas fl co i mode p = true) : 0 ≤ p.tag.lba ∧ p.tag.lba < lbas := by
  simp [mayF] at h
  exact ⟨h.2.2.1, h.2.2.2.1⟩
theorem addrF_block (b m i : Int) : (addrF b m i).block = b := by unfold addrF; split <;> rfl
theorem foldO_pages (lbas : Int) (fl co : List Int) (i : Nat) (m : Int) (ps : List Pg) (st : Int → Option Sec) (g : Int → Sec) (h0 : ∀ l, st l = toO (g l)) : ∀ (k : Nat) (ys : List (Ad × Pg)), k ≤ ps.length → PreF i m ps k ys → ∀ l, foldO lbas fl co i m st ys l = toO (pagesF lbas fl co l i m ps k (g l))
  | 0, ys, _, h, l => by
    obtain rfl : ys = [] := List.length_eq_zero_iff.1 h.1
    exact h0 l
  | k + 1, ys, hk, h, l => by
    have hk' : k < ps.length := hk
    have hpx : ps[k]? = some ps[k] := List.getElem?_eq_getElem hk'
    obtain ⟨zs, z, rfl⟩ : ∃ zs z, ys = zs ++ [z] := by
      have hne : ys ≠ [] := by intro e; have := h.1; rw [e] at this; cases this
      exact ⟨ys.dropLast, ys.getLast hne, (List.dropLast_concat_getLast hne).symm⟩
    have hzl : zs.length = k := by have := h.1; simp at this; omega
    have hz : z = (addrF i m (k : Int), ps[k]) := by
      have h1 := h.2 k (Nat.lt_succ_self k)
      rw [List.getElem?_append_right (by omega), hzl, hpx] at h1
      simpa using h1
    have hzs : PreF i m ps k zs := ⟨hzl, fun j hj => by
      have h1 := h.2 j (by omega)
      rw [List.getElem?_append_left (by omega)] at h1
      exact h1⟩
    have ih := foldO_pages lbas fl co i m ps st g h0 k zs (by omega) hzs l
    rw [foldO_snoc, hz]
    show _ = toO (match ps[k]? with | some p => stepF lbas fl co l i m k p (pagesF lbas fl co l i m ps k (g l)) | none => pagesF lbas fl co l i m ps k (g l))
    rw [hpx]
    simp only
    unfold stepO stepF
    rw [ih]
    generalize pagesF lbas fl co l i m ps k (g l) = q
    simp only
    by_cases hq : q.1.block < 0
    · have h1 : toO q = none := by simp [toO, hq]
      rw [h1]
      simp only [hq, decide_true, Bool.true_or, Bool.and_true]
      split
      · have : ¬ (addrF (i : Int) m (k : Int)).block < 0 := by rw [addrF_block]; omega
        simp [toO, this]
      · rw [h1]
    · have h1 : toO q = some q := by simp [toO, hq]
      rw [h1]
      simp only [hq, decide_false, Bool.false_or]
      split
      · have : ¬ (addrF (i : Int) m (k : Int)).block < 0 := by rw [addrF_block]; omega
        simp [toO, this]
      · rw [h1]
theorem pagesF_none {lbas : Int} {fl co : List Int} {lba : Int} {i : Nat} {m : Int} {ps : List Pg} {s0 : Sec} : ∀ (k : Nat) (s : Sec), (s.1.block < 0 → s = s0) → (pagesF lbas fl co lba i m ps k s).1.block < 0 → pagesF lbas fl co lba i m ps k s = s0
  | 0, s, hs, h => hs h
  | k + 1, s, hs, h => by
    unfold pagesF at h ⊢
    cases hp : ps[k]? with
    | none => rw [hp] at h; exact pagesF_none k s hs h
    | some p =>
      rw [hp] at h
      simp only at h ⊢
      unfold stepF at h ⊢
      split
      · rename_i hc
        rw [if_pos hc, addrF_block] at h
        omega
      · rename_i hc
        rw [if_neg hc] at h
        exact pagesF_none k s hs h
theorem blocksF_none {lbas : Int} {fl co : List Int} {lba : Int} {bs : List Bl} : ∀ (i : Nat), (blocksF lbas fl co lba bs i).1.block < 0 → blocksF lbas fl co lba bs i = (⟨-1, 0, 0⟩, ⟨0, 0, 0, 0⟩)
  | 0, _ => rfl
  | i + 1, h => by
    unfold blocksF at h ⊢
    cases hp : bs[i]? with
    | none => rw [hp] at h; exact blocksF_none i h
    | some b =>
      rw [hp] at h
      simp only at h ⊢
      exact pagesF_none _ _ (blocksF_none i) h
end Go.Proofs.Ytdjfkehbknbocaa

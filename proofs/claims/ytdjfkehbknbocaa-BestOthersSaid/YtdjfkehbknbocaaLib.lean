/- Small words of this work: blocks known whole, slices that are read. No program in sight. -/
import Derived.WalkKit
import Derived.WalkSpells
import Derived.Below
import Derived.Lib.Hide
import Derived.Deep.Draws
import Derived.Deep.QuietTactic
import Derived.BigQuiet
import Derived.RegionTactic
import Derived.Deep.LoopGhost
import Derived.Outline
import Derived.LoopTactic
import Derived.Deep.AppendLies
import Derived.Deep.RegionHeld3
import Derived.Maps.AppendAt
import Derived.KernelRfl
import Derived.Shelf.Abstract
import Derived.Laws.BytesArg
import Derived.Lib.ConvBytes
namespace Go.Proofs.Ytdjfkehbknbocaa
open Go.RowKit

theorem below_drewN {B : Nat} {a w : World} (h : Below B a w) (n : Nat) : Below B a (w.drewN n) := ⟨h.os, h.tape, h.output, h.size, h.block⟩
theorem below_tr {w w1 w2 : World} (h : Below w.heap.size w w1) (k : Below w1.heap.size w1 w2) : Below w.heap.size w w2 := h.trans (k.mono h.size)
theorem grown_drewN {a w : World} {row : Option Nat} (h : a.grownBy w row) (n : Nat) : a.grownBy (w.drewN n) row := ⟨h.os, h.tape, h.output, h.size, h.block⟩
theorem grown_drew {a w : World} {row : Option Nat} (h : a.grownBy w row) : a.grownBy w.drew row := ⟨h.os, h.tape, h.output, h.size, h.block⟩
theorem grown_alloc {a w : World} {row : Option Nat} (h : a.grownBy w row) (o : Obj) : a.grownBy (w.alloc o) row :=
  ⟨h.os, h.tape, h.output, Nat.le_trans h.size (by simp), fun i hi hne => (Below.heap_alloc w o i (Nat.lt_of_lt_of_le hi h.size)).trans (h.block i hi hne)⟩
theorem grown_set {a w : World} {g : Nat} (h : a.grownBy w (some g)) (i : Nat) (u : Value) : a.grownBy (w.setCell ⟨g, i, none⟩ u) (some g) :=
  ⟨h.os, h.tape, h.output, by simpa [World.setCell] using h.size, fun k hk hne => (Below.heap_setCell w ⟨g, i, none⟩ u k (by rintro rfl; exact hne rfl)).trans (h.block k hk hne)⟩
theorem grown_of_below {w w1 : World} (h : Below w.heap.size w w1) (row : Option Nat) : w.grownBy w1 row := ⟨h.os, h.tape, h.output, h.size, fun i hi _ => h.block i hi⟩
theorem grown_tr {a b c : World} {row : Option Nat} (h : a.grownBy b row) (k : b.grownBy c row) : a.grownBy c row :=
  ⟨k.os.trans h.os, k.tape.trans h.tape, k.output.trans h.output, Nat.le_trans h.size k.size, fun i hi hne => (k.block i (Nat.lt_of_lt_of_le hi h.size) hne).trans (h.block i hi hne)⟩
theorem grown_new {a b : World} {g : Nat} (h : a.grownBy b (some g)) (hg : a.heap.size ≤ g) : Below a.heap.size a b :=
  ⟨h.os, h.tape, h.output, h.size, fun k hk => h.block k hk (by intro e; injection e with e; omega)⟩

theorem cell_some_alloc {W : World} {a : Addr} {v : Value} (o : Obj) (h : W.cell? a = some v) : (W.alloc o).cell? a = some v := by
  have hlt := World.block_lt_of_cell? W a h
  exact (World.cell?_alloc_lt W o a hlt).trans h
/-- Block g is just these cells, none frozen. -/
def Blk (w : World) (g : Nat) (t : TypeId) (cs : Array Value) : Prop := w.heap[g]? = some (.cells cs t (0, 0))
section
variable {w w' : World} {g : Nat} {t : TypeId} {cs : Array Value}
theorem Blk.lt (h : Blk w g t cs) : g < w.heap.size := by
  rcases Nat.lt_or_ge g w.heap.size with hlt | hge
  · exact hlt
  · unfold Blk at h; rw [Array.getElem?_eq_none hge] at h; cases h
theorem Blk.cell (h : Blk w g t cs) (i : Nat) : w.cell? ⟨g, i, none⟩ = cs[i]? := cell_of_row w g i cs t (0, 0) h
theorem Blk.frozen (h : Blk w g t cs) (i : Nat) : w.frozen? ⟨g, i, none⟩ = false := by
  unfold Blk at h
  simp [World.frozen?, h]
theorem Blk.new (w : World) (t : TypeId) (cs : Array Value) : Blk (w.alloc (.cells cs t)) w.heap.size t cs := heap_alloc_new w _
theorem Blk.drew (h : Blk w g t cs) : Blk w.drew g t cs := h
theorem Blk.drewN (h : Blk w g t cs) (n : Nat) : Blk (w.drewN n) g t cs := h
theorem Blk.alloc (h : Blk w g t cs) (o : Obj) : Blk (w.alloc o) g t cs := (Below.heap_alloc w o g h.lt).trans h
theorem Blk.set_ (h : Blk w g t cs) (i : Nat) (u : Value) : Blk (w.setCell ⟨g, i, none⟩ u) g t (cs.setIfInBounds i u) := by
  unfold Blk at h ⊢
  simp [World.setCell, Array.getElem?_modify, h]
theorem Blk.far (h : Blk w g t cs) {p : Addr} (hp : g ≠ p.block) (u : Value) : Blk (w.setCell p u) g t cs := (Below.heap_setCell w p u g hp).trans h
theorem Blk.below {B : Nat} (h : Blk w g t cs) (hb : Below B w w') (hg : g < B) : Blk w' g t cs := (hb.block g hg).trans h
theorem Blk.below_ (h : Blk w g t cs) (hb : Below w.heap.size w w') : Blk w' g t cs := (hb.block g h.lt).trans h
theorem Blk.grown {row : Option Nat} (h : Blk w g t cs) (hb : w.grownBy w' row) (hg : some g ≠ row) : Blk w' g t cs := (hb.block g h.lt hg).trans h
theorem Blk.of_eq (h : Blk w g t cs) {cs' : Array Value} (e : cs = cs') : Blk w g t cs' := e ▸ h
theorem Blk.ne_ {g' : Nat} {t' : TypeId} {cs' : Array Value} (h : Blk w g t cs) (h' : Blk w g' t' cs') (hne : t ≠ t') : g ≠ g' := by
  rintro rfl
  unfold Blk at h h'
  rw [h] at h'
  injection h' with h'
  injection h' with _ ht
  exact hne ht
end

/-- A slice of elements of k cells each ('enc') that is read: nil, empty and others alike. -/
def Sl {α : Type} (enc : α → List Value) (k : Nat) (w : World) (A : Option Addr) (n : Nat) (xs : List α) : Prop :=
  xs.length = n ∧ n ≤ 9223372036854775807 ∧ (0 < n → ∃ b off, A = some ⟨b, off, none⟩ ∧ b < w.heap.size ∧ ∀ (j : Nat) (x : α), xs[j]? = some x → ∀ i v, (enc x)[i]? = some v → w.cell? ⟨b, off + j * k + i, none⟩ = some v)
section
variable {α : Type} {enc : α → List Value} {k : Nat} {w w' : World} {A : Option Addr} {n : Nat} {xs : List α}
theorem Sl.len (h : Sl enc k w A n xs) : xs.length = n := h.1
theorem Sl.big (h : Sl enc k w A n xs) : n ≤ 9223372036854775807 := h.2.1
theorem Sl.get_ (h : Sl enc k w A n xs) {j : Nat} (hj : j < n) : ∃ b off x, A = some ⟨b, off, none⟩ ∧ b < w.heap.size ∧ xs[j]? = some x ∧ ∀ i v, (enc x)[i]? = some v → w.cell? ⟨b, off + j * k + i, none⟩ = some v := by
  obtain ⟨b, off, e, hb, hc⟩ := h.2.2 (by omega)
  have hl : j < xs.length := by have := h.1; omega
  exact ⟨b, off, xs[j], e, hb, List.getElem?_eq_getElem hl, hc j _ (List.getElem?_eq_getElem hl)⟩
theorem Sl.keep (h : Sl enc k w A n xs) (hs : w.heap.size ≤ w'.heap.size) (hk : ∀ p : Addr, p.block < w.heap.size → ∀ v, w.cell? p = some v → w'.cell? p = some v) : Sl enc k w' A n xs :=
  ⟨h.1, h.2.1, fun hn => by
    obtain ⟨b, off, e, hb, hc⟩ := h.2.2 hn
    exact ⟨b, off, e, Nat.lt_of_lt_of_le hb hs, fun j x hx i v hv => hk _ hb v (hc j x hx i v hv)⟩⟩
theorem Sl.below (h : Sl enc k w A n xs) (hb : Below w.heap.size w w') : Sl enc k w' A n xs :=
  h.keep hb.size fun _ hp _ hv => (hb.cell hp).trans hv
end

/-- The cells of an int, and of a bool. -/
def eInt (x : Int) : List Value := [.int .i64 x]
def eBool (x : Bool) : List Value := [.bool x]
theorem Sl.int_ {w : World} {A : Option Addr} {n : Nat} {xs : List Int} (h : Sl eInt 1 w A n xs) {j : Nat} (hj : j < n) : ∃ b off x, A = some ⟨b, off, none⟩ ∧ b < w.heap.size ∧ xs[j]? = some x ∧ w.cell? ⟨b, off + j, none⟩ = some (.int .i64 x) := by
  obtain ⟨b, off, x, e, hb, hx, hc⟩ := h.get_ hj
  refine ⟨b, off, x, e, hb, hx, ?_⟩
  have := hc 0 _ rfl
  simpa using this
theorem Sl.bool_ {w : World} {A : Option Addr} {n : Nat} {xs : List Bool} (h : Sl eBool 1 w A n xs) {j : Nat} (hj : j < n) : ∃ b off x, A = some ⟨b, off, none⟩ ∧ b < w.heap.size ∧ xs[j]? = some x ∧ w.cell? ⟨b, off + j, none⟩ = some (.bool x) := by
  obtain ⟨b, off, x, e, hb, hx, hc⟩ := h.get_ hj
  refine ⟨b, off, x, e, hb, hx, ?_⟩
  have := hc 0 _ rfl
  simpa using this

/-- max and min of two whole numbers, kept whole in a walk. -/
def mx (a b : Int) : Int := if a < b then b else a
def mn (a b : Int) : Int := if b < a then b else a
theorem mx_eq (a b : Int) : mx a b = max a b := by unfold mx; split <;> omega
theorem mn_eq (a b : Int) : mn a b = min a b := by unfold mn; split <;> omega
theorem max2_mx (k k' : IntKind) (x y : Int) : Builtin.max2 (.int k x) (.int k' y) = pure (.int k (mx x y)) := by simp only [Builtin.max2, gt_iff_lt, mx]
theorem min2_mn (k k' : IntKind) (x y : Int) : Builtin.min2 (.int k x) (.int k' y) = pure (.int k (mn x y)) := by simp only [Builtin.min2, mn]
theorem max_two (ats : Array TypeId) (ty : TypeId) (a b : Value) : Builtin.max_ ats ty #[a, b] = (Builtin.max2 a b >>= fun s => pure s) := by simp only [Builtin.max_, List.foldlM_cons, List.foldlM_nil]
theorem min_two (ats : Array TypeId) (ty : TypeId) (a b : Value) : Builtin.min_ ats ty #[a, b] = (Builtin.min2 a b >>= fun s => pure s) := by simp only [Builtin.min_, List.foldlM_cons, List.foldlM_nil]
attribute [go_sem] max2_mx min2_mn max_two min_two

/-! A row of the call's own -/
theorem own_nil (W : World) (base : Nat) (e : TypeId) (size : Nat) : W.ownsRow base e size (.slice none 0 0) 0 [] := ⟨by simp, .inl ⟨rfl, rfl⟩⟩
theorem own_base {w : World} {base : Nat} {e : TypeId} {size n : Nat} {v : Value} {xs : List Value} (h : w.ownsRow base e size v n xs) (k : Nat) (hk : v.ownBlock = some k) : base ≤ k := by
  rcases h.2 with ⟨rfl, _⟩ | ⟨g, cap, cur, rfl, hb, _⟩
  · simp [Value.ownBlock] at hk
  · have : g = k := by simpa [Value.ownBlock] using hk
    omega
theorem own_lt {w : World} {base : Nat} {e : TypeId} {size n : Nat} {v : Value} {xs : List Value} (h : w.ownsRow base e size v n xs) (k : Nat) (hk : v.ownBlock = some k) : k < w.heap.size := by
  rcases h.2 with ⟨rfl, _⟩ | ⟨g, cap, cur, rfl, hb, hh, _⟩
  · simp [Value.ownBlock] at hk
  · have : g = k := by simpa [Value.ownBlock] using hk
    subst this
    exact (Array.getElem?_eq_some_iff.1 hh).1
theorem own_below {w w1 : World} {base : Nat} {e : TypeId} {size n : Nat} {v : Value} {xs : List Value} (h : w.ownsRow base e size v n xs) (hb : Below w.heap.size w w1) : w1.ownsRow base e size v n xs :=
  h.kept (grown_of_below hb none) (by cases v.ownBlock <;> simp)
theorem own_mono {w : World} {base base' : Nat} {e : TypeId} {size n : Nat} {v : Value} {xs : List Value} (h : w.ownsRow base e size v n xs) (hb : base' ≤ base) : w.ownsRow base' e size v n xs := by
  obtain ⟨h1, h2⟩ := h
  refine ⟨h1, ?_⟩
  rcases h2 with h2 | ⟨g, cap, cur, e1, e2, e3⟩
  · exact .inl h2
  · exact .inr ⟨g, cap, cur, e1, Nat.le_trans hb e2, e3⟩
theorem own_slice {w : World} {base n : Nat} {e : TypeId} {size : Nat} {v : Value} {xs : List Value} (h : w.ownsRow base e size v n xs) : ∃ A c, v = .slice A n c := by
  rcases h.2 with ⟨rfl, rfl⟩ | ⟨g, cap, cur, rfl, _⟩
  · exact ⟨none, 0, rfl⟩
  · exact ⟨_, cap, rfl⟩
/-- The cells of a list of elements, one behind the other. -/
def eList {α : Type} (enc : α → List Value) (xs : List α) : List Value := (xs.map enc).flatten
theorem eList_snoc {α : Type} (enc : α → List Value) (xs : List α) (x : α) : eList enc (xs ++ [x]) = eList enc xs ++ enc x := by simp [eList]
theorem eList_get {α : Type} {enc : α → List Value} {k : Nat} (hk : ∀ x, (enc x).length = k) : ∀ (xs : List α) (j : Nat) (x : α) (i : Nat) (v : Value), xs[j]? = some x → (enc x)[i]? = some v → (eList enc xs)[j * k + i]? = some v
  | [], _, _, _, _, h, _ => by simp at h
  | y :: ys, 0, x, i, v, h, hv => by
    simp at h
    subst h
    have hi : i < (enc y).length := (List.getElem?_eq_some_iff.1 hv).1
    simp only [eList, List.map_cons, List.flatten_cons]
    rw [List.getElem?_append_left (by omega), Nat.zero_mul, Nat.zero_add]
    exact hv
  | y :: ys, j + 1, x, i, v, h, hv => by
    simp only [eList, List.map_cons, List.flatten_cons]
    have hl := hk y
    rw [List.getElem?_append_right (by rw [hl, Nat.add_mul]; omega)]
    have e : (j + 1) * k + i - (enc y).length = j * k + i := by rw [hl, Nat.add_mul]; omega
    rw [e]
    exact eList_get hk ys j x i v (by simpa using h) hv
/-- What is owned can be read. -/
theorem Sl.of_own {α : Type} {enc : α → List Value} {k : Nat} (hk : ∀ x, (enc x).length = k) (hk0 : 0 < k) {w : World} {base n : Nat} {e : TypeId} {v : Value} {xs : List α} (h : w.ownsRow base e k v n (eList enc xs)) : ∃ A c, v = .slice A n c ∧ Sl enc k w A n xs := by
  have hll : ∀ ys : List α, (eList enc ys).length = ys.length * k := by
    intro ys
    induction ys with
    | nil => simp [eList]
    | cons y ys ih => simp only [eList, List.map_cons, List.flatten_cons, List.length_append, List.length_cons, hk, Nat.add_mul] at ih ⊢; omega
  have hl : xs.length = n := by
    have := h.1
    rw [hll] at this
    exact Nat.eq_of_mul_eq_mul_right hk0 this
  rcases Nat.eq_zero_or_pos n with h0 | h0
  · obtain ⟨A, c, rfl⟩ := own_slice h
    exact ⟨A, c, rfl, hl, by omega, fun hp => absurd hp (by omega)⟩
  · obtain ⟨g, cap, rfl, hgb, hlt⟩ := h.form h0
    have hm : n ≤ 9223372036854775807 := by
      rcases h.2 with ⟨_, h1⟩ | ⟨g', cap', cur, he, _, _, h1, h2, _⟩
      · omega
      · simp only [maxLen] at h2
        omega
    refine ⟨_, cap, rfl, hl, hm, fun _ => ⟨g, 0, rfl, hlt, fun j x hx i u hu => ?_⟩⟩
    have hc := h.cells (g := g) rfl (j * k + i) u (eList_get hk xs j x i u hx hu)
    have ha : (⟨g, 0, none⟩ : Addr).add (j * k + i) = ⟨g, 0 + j * k + i, none⟩ := by unfold Addr.add; split <;> simp_all <;> omega
    rwa [ha] at hc

theorem Sl.of_blk {α : Type} {enc : α → List Value} {k : Nat} (hk : ∀ x, (enc x).length = k) {w : World} {g : Nat} {t : TypeId} {cs : Array Value} {xs : List α} {n : Nat} (h : Blk w g t cs) (hcs : cs = (eList enc xs).toArray) (hn : xs.length = n) (hbig : n ≤ 9223372036854775807) :
    Sl enc k w (some ⟨g, 0, none⟩) n xs := by
  refine ⟨hn, hbig, fun _ => ⟨g, 0, rfl, h.lt, fun j x hx i v hv => ?_⟩⟩
  rw [h.cell, hcs, List.getElem?_toArray, Nat.zero_add]
  exact eList_get hk xs j x i v hx hv
theorem Blk.new1 (w : World) (o : Obj) (t : TypeId) (cs : Array Value) : Blk ((w.alloc o).alloc (.cells cs t)) (w.heap.size + 1) t cs := by
  have h := Blk.new (w.alloc o) t cs
  rw [World.size_alloc] at h
  exact h

section
variable {P : Program} {w : World}
/-- append of one element that lies in a block of its own. -/
theorem step_app {ops : Array Oper} {o : Oper} {a : Act} {K : Act → World → Prop} {Q : Exit → Act → World → Prop} {E : Prop} (hgd : o.guard = none) (s x : Operand) (t : TypeId)
    (ho : o.op = .call { callee := .builtin .append, args := #[s, x], argTypes := #[t, t] })
    {base : Nat} {e : TypeId} {z : Value} {size bytes : Nat} (ht : P.underlying t = some (.slice e)) (hinfo : (P.info? e).map (fun i => (i.zero, i.size, i.bytes)) = some (some z, size, bytes))
    (hzs : z.cells.size = size) (hsz : 0 < size) (hby : bytes ≤ 1000)
    {v : Value} {n : Nat} {xs : List Value} (hs : a.eval s = v) (hown : w.ownsRow base e size v n xs)
    {B : Nat} {ys : List Value} (hx : a.eval x = .slice (some ⟨B, 0, none⟩) 1 1) (hblk : w.heap[B]? = some (.cells ys.toArray e (0, 0))) (hl : ys.length = size) (h1 : ∀ u ∈ ys, u.oneCell' = true)
    (hn : n < 1000000000) (hbase : base ≤ w.heap.size)
    (h : ∀ g cap w', w'.ownsRow base e size (.slice (some ⟨g, 0, none⟩) (n + 1) cap) (n + 1) (xs ++ ys) → w.grownBy w' v.ownBlock → (v.ownBlock = some g ∨ g = w.heap.size) → g < w'.heap.size → K (a.put o.dst (.slice (some ⟨g, 0, none⟩) (n + 1) cap)) w') :
    if Region.wanted o (yielded ops a.tmps) = true then Oper.wp P o a w K Q else E := by
  obtain ⟨i0, hi, hzz⟩ := Option.map_eq_some_iff.1 hinfo
  simp only [Prod.mk.injEq] at hzz
  obtain ⟨hz0, hz1, hz2⟩ := hzz
  have hb : (n + 1) * bytes ≤ 140737488355328 := Nat.le_trans (Nat.mul_le_mul_left (n + 1) hby) (by omega)
  exact step_append_lies _ hgd s x t ho base e i0 z size bytes ht hi hz0 hz1 hz2 hzs hsz v n xs hs hown ⟨B, 0, none⟩ 1 1 ys hx (by omega) (World.news_of_block hblk) h1 (by omega) (by simp only [maxLen]; omega) hb hbase _ rfl h
theorem wpList_app {ops : Array Oper} {rest : List Oper} {o : Oper} {a : Act} {Q : Exit → Act → World → Prop} (hgd : o.guard = none) (s x : Operand) (t : TypeId)
    (ho : o.op = .call { callee := .builtin .append, args := #[s, x], argTypes := #[t, t] })
    {base : Nat} {e : TypeId} {z : Value} {size bytes : Nat} (ht : P.underlying t = some (.slice e)) (hinfo : (P.info? e).map (fun i => (i.zero, i.size, i.bytes)) = some (some z, size, bytes))
    (hzs : z.cells.size = size) (hsz : 0 < size) (hby : bytes ≤ 1000)
    {v : Value} {n : Nat} {xs : List Value} (hs : a.eval s = v) (hown : w.ownsRow base e size v n xs)
    {B : Nat} {ys : List Value} (hx : a.eval x = .slice (some ⟨B, 0, none⟩) 1 1) (hblk : w.heap[B]? = some (.cells ys.toArray e (0, 0))) (hl : ys.length = size) (h1 : ∀ u ∈ ys, u.oneCell' = true)
    (hn : n < 1000000000) (hbase : base ≤ w.heap.size)
    (h : ∀ g cap w', w'.ownsRow base e size (.slice (some ⟨g, 0, none⟩) (n + 1) cap) (n + 1) (xs ++ ys) → w.grownBy w' v.ownBlock → (v.ownBlock = some g ∨ g = w.heap.size) → g < w'.heap.size → wpList P ops Q rest (a.put o.dst (.slice (some ⟨g, 0, none⟩) (n + 1) cap)) w') :
    wpList P ops Q (o :: rest) a w := by
  obtain ⟨i0, hi, hzz⟩ := Option.map_eq_some_iff.1 hinfo
  simp only [Prod.mk.injEq] at hzz
  obtain ⟨hz0, hz1, hz2⟩ := hzz
  have hb : (n + 1) * bytes ≤ 140737488355328 := Nat.le_trans (Nat.mul_le_mul_left (n + 1) hby) (by omega)
  exact wpList_append_lies _ hgd s x t ho base e i0 z size bytes ht hi hz0 hz1 hz2 hzs hsz v n xs hs hown ⟨B, 0, none⟩ 1 1 ys hx (by omega) (World.news_of_block hblk) h1 (by omega) (by simp only [maxLen]; omega) hb hbase _ rfl h
end

section
variable {w : World} {base n g cap : Nat} {e : TypeId} {size : Nat} {xs : List Value}
theorem own_cell (h : w.ownsRow base e size (.slice (some ⟨g, 0, none⟩) n cap) n xs) (i : Nat) (u : Value) (hu : xs[i]? = some u) : w.cell? ⟨g, i, none⟩ = some u := by
  have hc := h.cells (g := g) rfl i u hu
  have ha : (⟨g, 0, none⟩ : Addr).add i = ⟨g, i, none⟩ := by unfold Addr.add; split <;> simp_all
  rwa [ha] at hc
theorem own_frozen (h : w.ownsRow base e size (.slice (some ⟨g, 0, none⟩) n cap) n xs) (i : Nat) : w.frozen? ⟨g, i, none⟩ = false := by
  rcases h.2 with ⟨h', _⟩ | ⟨g', cap', cur, h', _, hh, _⟩
  · cases h'
  · have : g = g' := by injection h' with h'; injection h' with h'; injection h' with h'
    subst this
    simp [World.frozen?, hh]
theorem own_empty (w : World) (e : TypeId) (size : Nat) (hb : base ≤ w.heap.size) : (w.alloc (.cells #[] e)).ownsRow base e size (.slice (some ⟨w.heap.size, 0, none⟩) 0 0) 0 [] := by
  have h := World.ownsRow_lit (base := base) (e := e) (size := size) w #[] 0 hb (by simp [maxLen]) (by simp)
  simpa using h
end
theorem own_empty1 {base : Nat} (w : World) (o : Obj) (e : TypeId) (size : Nat) (hb : base ≤ w.heap.size + 1) : ((w.alloc o).alloc (.cells #[] e)).ownsRow base e size (.slice (some ⟨w.heap.size + 1, 0, none⟩) 0 0) 0 [] := by
  have h := own_empty (base := base) (w.alloc o) e size (by rw [World.size_alloc]; exact hb)
  rw [World.size_alloc] at h
  exact h
theorem Sl.own {α : Type} {enc : α → List Value} {k : Nat} (hk : ∀ x, (enc x).length = k) (hk0 : 0 < k) {w : World} {base n c : Nat} {e : TypeId} {A : Option Addr} {xs : List α} (h : w.ownsRow base e k (.slice A n c) n (eList enc xs)) : Sl enc k w A n xs := by
  obtain ⟨A', c', he, hs⟩ := Sl.of_own hk hk0 h
  injection he with h1
  subst h1
  exact hs
theorem eInts_get (xs : List Int) (i : Nat) (x : Int) (h : xs[i]? = some x) : (eList eInt xs)[i]? = some (.int .i64 x) := by
  have := eList_get (enc := eInt) (k := 1) (fun _ => rfl) xs i x 0 _ h rfl
  simpa using this
theorem eBools_get (xs : List Bool) (i : Nat) (x : Bool) (h : xs[i]? = some x) : (eList eBool xs)[i]? = some (.bool x) := by
  have := eList_get (enc := eBool) (k := 1) (fun _ => rfl) xs i x 0 _ h rfl
  simpa using this
theorem eInts_set (xs : List Int) (i : Nat) (x : Int) : (eList eInt xs).set i (.int .i64 x) = eList eInt (xs.set i x) := by
  have h : ∀ ys : List Int, eList eInt ys = ys.map (Value.int .i64) := fun ys => by
    induction ys with
    | nil => rfl
    | cons y ys ih => simp only [eList, List.map_cons, List.flatten_cons] at ih ⊢; rw [ih]; rfl
  rw [h, h, List.map_set]
theorem eBools_set (xs : List Bool) (i : Nat) (x : Bool) : (eList eBool xs).set i (.bool x) = eList eBool (xs.set i x) := by
  have h : ∀ ys : List Bool, eList eBool ys = ys.map Value.bool := fun ys => by
    induction ys with
    | nil => rfl
    | cons y ys ih => simp only [eList, List.map_cons, List.flatten_cons] at ih ⊢; rw [ih]; rfl
  rw [h, h, List.map_set]
section
variable {P : Program} {w : World}
/-- append of a whole slice that is read, onto a row of the call's own; not nothing. -/
theorem wpList_apps {α : Type} {en : α → List Value} {ops : Array Oper} {rest : List Oper} {o : Oper} {a : Act} {Q : Exit → Act → World → Prop} (hgd : o.guard = none) (s x : Operand) (t : TypeId)
    (ho : o.op = .call { callee := .builtin .append, args := #[s, x], argTypes := #[t, t] })
    {base : Nat} {e : TypeId} {z : Value} {size bytes : Nat} (ht : P.underlying t = some (.slice e)) (hinfo : (P.info? e).map (fun i => (i.zero, i.size, i.bytes)) = some (some z, size, bytes))
    (hzs : z.cells.size = size) (hsz : 0 < size) (hby : bytes ≤ 1000) (hlen : ∀ y, (en y).length = size) (hone : ∀ y, ∀ u ∈ en y, u.oneCell' = true)
    {v : Value} {n : Nat} {xs : List Value} (hs : a.eval s = v) (hown : w.ownsRow base e size v n xs)
    {A : Option Addr} {m c : Nat} {ys : List α} (hx : a.eval x = .slice A m c) (hsl : Sl en size w A m ys) (hm : 0 < m)
    (hn : n + m < 1000000000) (hbase : base ≤ w.heap.size)
    (h : ∀ g cap w', w'.ownsRow base e size (.slice (some ⟨g, 0, none⟩) (n + m) cap) (n + m) (xs ++ eList en ys) → w.grownBy w' v.ownBlock → (v.ownBlock = some g ∨ g = w.heap.size) → g < w'.heap.size → wpList P ops Q rest (a.put o.dst (.slice (some ⟨g, 0, none⟩) (n + m) cap)) w') :
    wpList P ops Q (o :: rest) a w := by
  obtain ⟨i0, hi, hzz⟩ := Option.map_eq_some_iff.1 hinfo
  simp only [Prod.mk.injEq] at hzz
  obtain ⟨hz0, hz1, hz2⟩ := hzz
  have hb : (n + m) * bytes ≤ 140737488355328 := Nat.le_trans (Nat.mul_le_mul_left (n + m) hby) (by omega)
  obtain ⟨b, off, rfl, hbl, hc⟩ := hsl.2.2 hm
  have hll : ∀ zs : List α, (eList en zs).length = zs.length * size := by
    intro zs
    induction zs with
    | nil => simp [eList]
    | cons y zs ih => simp only [eList, List.map_cons, List.flatten_cons, List.length_append, List.length_cons, hlen, Nat.add_mul] at ih ⊢; omega
  refine wpList_append_lies _ hgd s x t ho base e i0 z size bytes ht hi hz0 hz1 hz2 hzs hsz v n xs hs hown ⟨b, off, none⟩ m c (eList en ys) hx (by rw [hll, hsl.1]) ?_ ?_ hm (by simp only [maxLen]; omega) hb hbase _ rfl h
  · intro j u hu
    have hjl : j < ys.length * size := by rw [← hll]; exact (List.getElem?_eq_some_iff.1 hu).1
    have hj0 : j / size < ys.length := Nat.div_lt_of_lt_mul (by rw [Nat.mul_comm]; exact hjl)
    have hjm := Nat.mod_lt j hsz
    have hg := hc (j / size) ys[j / size] (List.getElem?_eq_getElem hj0) (j % size) ((en ys[j / size])[j % size]'(by rw [hlen]; exact hjm)) (List.getElem?_eq_getElem _)
    have hq := eList_get (k := size) hlen ys (j / size) ys[j / size] (j % size) _ (List.getElem?_eq_getElem hj0) (List.getElem?_eq_getElem (by rw [hlen]; exact hjm))
    have hdm : j / size * size + j % size = j := by rw [Nat.mul_comm]; exact Nat.div_add_mod j size
    rw [hdm, hu] at hq
    injection hq with hq
    subst hq
    have ha : (⟨b, off, none⟩ : Addr).add j = ⟨b, off + j / size * size + j % size, none⟩ := by
      unfold Addr.add; split
      · rename_i h0; subst h0; simp
      · rw [Nat.add_assoc, hdm]
    rw [ha]
    exact hg
  · intro u hu
    simp only [eList, List.mem_flatten, List.mem_map] at hu
    obtain ⟨l, ⟨y, _, rfl⟩, hu⟩ := hu
    exact hone y u hu
end
theorem cat_run (P : Program) (a b : ByteArray) (h : a.size + b.size ≤ 1000000000000) : ∀ W, (Op.stringOp .add a b).run P W = .ok (.string (a ++ b)) W := fun W => run_string_add_sum W a b (by omega)
theorem ret_int {k : IntKind} {a b : Int} (h : a = b) : Ending.returned (.int k a) = .returned (.int k b) := by rw [h]
theorem ret_bool {a b : Bool} (h : a = b) : Ending.returned (.bool a) = .returned (.bool b) := by rw [h]
end Go.Proofs.Ytdjfkehbknbocaa

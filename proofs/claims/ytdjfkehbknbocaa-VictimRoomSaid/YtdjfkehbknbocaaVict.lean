/- The walks of victim.fits, Gather. -/
import Derived.Test.YtdjfkehbknbocaaVictP
import Derived.Test.YtdjfkehbknbocaaAppIn
namespace Go.Proofs.Ytdjfkehbknbocaa
open Go.RowKit Go.Shelf
set_option linter.unusedSimpArgs false
set_option linter.unusedVariables false
attribute [local go_sem] Oper.semAt_some

theorem vfits_any (lines sum more : Int) (h0 : 0 ≤ sum) (h1 : sum ≤ 100000) (h2 : 1 ≤ more) (h3 : more ≤ 100000) (w : World) :
    Calls Try.prog 78 #[.int .i64 lines, .int .i64 sum, .int .i64 more] w fun e w' => e = .returned (.bool (decide (sum + more ≤ 3 * lines))) ∧ w = w' := by
  have k0 : 0 ≤ sum + more - 1 := by omega
  have k1 : 1 ≤ sum + more := by omega
  by_cases c1 : sum / 3 < lines
  · by_cases c2 : (sum + more - 1) / 3 < lines
    · have hr : decide (sum + more ≤ 3 * lines) = true := by simp; omega
      rw [hr]
      clear hr
      go_enter Try.func78, Try.ntmps78
      go_wp2
      go_ret
      exact ⟨rfl, rfl⟩
    · have hr : decide (sum + more ≤ 3 * lines) = false := by simp; omega
      rw [hr]
      clear hr
      go_enter Try.func78, Try.ntmps78
      go_wp2
      go_ret
      exact ⟨rfl, rfl⟩
  · have hr : decide (sum + more ≤ 3 * lines) = false := by simp; omega
    rw [hr]
    clear hr
    go_enter Try.func78, Try.ntmps78
    go_wp2
    go_ret
    exact ⟨rfl, rfl⟩
abbrev usC (x : Us) : Array Value := #[.int .i64 x.block, .int .i64 x.mode, .int .i64 x.valid]
/-- A function's boxes between two rounds: that of the lines, of the list that grows, of the sum. -/
structure IV (w : World) (lines : Int) (bl bo bs hi : Nat) (blocks : List Int) (sum : Int) (W : World) : Prop where
  below : Below w.heap.size w W
  lb : Blk W bl 3 #[.int .i64 lines]
  ob : ∃ A c, Blk W bo 32 #[.slice A blocks.length c] ∧ W.ownsRow hi 3 1 (.slice A blocks.length c) blocks.length (eList eInt blocks)
  sb : Blk W bs 3 #[.int .i64 sum]
  size : hi ≤ W.heap.size
section
variable {w W W' : World} {lines sum : Int} {bl bo bs hi : Nat} {blocks : List Int}
theorem IV.kept {row : Option Nat} (h : IV w lines bl bo bs hi blocks sum W) (hw : w.heap.size ≤ hi) (h1 : bl < hi) (h2 : bo < hi) (h3 : bs < hi) (hg : W.grownBy W' row) (hr : ∀ r, row = some r → hi ≤ r ∧ ∃ o : Obj, W.heap[r]? = some o ∧ o.isCells = false) : IV w lines bl bo bs hi blocks sum W' := by
  have hne : ∀ k, row = some k → hi ≤ k := fun k e => (hr k e).1
  obtain ⟨A, c, hb, ho⟩ := h.ob
  exact ⟨h.below.grown hg h.below.size (fun k e => by have := hne k e; omega), h.lb.grown hg (fun e => by have := hne _ e.symm; omega), ⟨A, c, hb.grown hg (fun e => by have := hne _ e.symm; omega), own_from ho hg (fun r e => (hr r e).2)⟩, h.sb.grown hg (fun e => by have := hne _ e.symm; omega), Nat.le_trans h.size hg.size⟩
theorem IV.alloc (h : IV w lines bl bo bs hi blocks sum W) (o : Obj) : IV w lines bl bo bs hi blocks sum (W.alloc o) := by
  obtain ⟨A, c, hb, ho⟩ := h.ob
  exact ⟨h.below.alloc h.below.size o, h.lb.alloc o, ⟨A, c, hb.alloc o, ho.alloc o⟩, h.sb.alloc o, Nat.le_trans h.size (by simp)⟩
end
theorem kpR_alloc {B : Nat} {r : Option Nat} {X Y : World} (h : KpR B r X Y) (h1 : B < X.heap.size) (h2 : ∀ q, r = some q → q < X.heap.size) (o : Obj) : KpR B r X (Y.alloc o) :=
  kpR_t h (kpR_grown (World.grownBy_alloc Y o none) (Nat.lt_of_lt_of_le h1 h.size) (fun q e => Nat.lt_of_lt_of_le (h2 q e) h.size) (by simp) (by simp))
theorem kpR_refl (B : Nat) (r : Option Nat) (X : World) : KpR B r X X := ⟨Nat.le_refl _, rfl, fun _ _ => rfl⟩
theorem kpR_set {B : Nat} {r : Option Nat} {X Y : World} (h : KpR B r X Y) (p : Addr) (v : Value) (h1 : B ≠ p.block) (h2 : ∀ q, r = some q → q ≠ p.block) : KpR B r X (Y.setCell p v) :=
  ⟨by simpa [World.setCell] using h.size, (Below.heap_setCell Y p v B h1).trans h.b, fun q e => (Below.heap_setCell Y p v q (h2 q e)).trans (h.g q e)⟩
theorem kpR_own {B : Nat} {r : Option Nat} {X Y Z : World} (h : KpR B r X Y) {row : Option Nat} (hg : Y.grownBy Z row) (h1 : B < X.heap.size) (h2 : ∀ q, r = some q → q < X.heap.size) (h3 : ∀ q, row = some q → q ≠ B ∧ r ≠ some q) : KpR B r X Z :=
  kpR_t h (kpR_grown hg (Nat.lt_of_lt_of_le h1 h.size) (fun q e => Nat.lt_of_lt_of_le (h2 q e) h.size) (fun e => (h3 B e).1 rfl) (fun q e e2 => (h3 q e2).2 e))
structure AxU (hi : Nat) (x : Us) (mk : Nat → Array Value) (a' : Act) (Bx : Nat) (W : World) : Prop where
  lx : hi ≤ Bx
  bx : Blk W Bx 83 (usC x)
  act : a' = { tmps := mk Bx, defers := [] }
theorem AxU.own {hi : Nat} (x : Us) (mk : Nat → Array Value) (a' : Act) : OwnFrom hi (fun (_ : Unit) W => ∃ Bx, AxU hi x mk a' Bx W) := fun _ A B row h hg hr => by
  obtain ⟨Bx, h⟩ := h
  refine ⟨Bx, h.lx, h.bx.grown hg (fun e => ?_), h.act⟩
  obtain ⟨_, o, ho, hc⟩ := hr Bx e.symm
  have hb := h.bx
  unfold Blk at hb
  rw [hb] at ho
  cases ho
  cases hc
theorem own_isCellsU {W : World} {base : Nat} {e : TypeId} {size n : Nat} {v : Value} {xs : List Value} (h : W.ownsRow base e size v n xs) (j : Nat) (o : Obj) (hj : v.ownBlock = some j) (ho : W.heap[j]? = some o) : o.isCells = true := by
  rcases h.2 with ⟨rfl, _⟩ | ⟨g, cap, cur, rfl, _, hh, _⟩
  · cases hj
  · have : g = j := by simpa [Value.ownBlock] using hj
    subst this
    rw [hh] at ho
    injection ho with ho
    subst ho
    rfl
end Go.Proofs.Ytdjfkehbknbocaa

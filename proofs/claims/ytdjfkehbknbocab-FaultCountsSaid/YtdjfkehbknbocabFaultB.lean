/- The walks of slices.IndexFunc over faults, of Meets and of the reference's Meets. -/
import Derived.Test.YtdjfkehbknbocabFault
namespace Go.Proofs.Ytdjfkehbknbocab
open Go.RowKit Go.Shelf
set_option linter.unusedSimpArgs false
set_option linter.unusedVariables false

theorem Sl.ft_ {w : World} {A : Option Addr} {n : Nat} {xs : List Ft} (h : Sl eFt 4 w A n xs) {j : Nat} (hj : j < n) : ∃ b off x, A = some ⟨b, off, none⟩ ∧ b < w.heap.size ∧ xs[j]? = some x ∧
    w.cell? ⟨b, off + j * 4, none⟩ = some (.int .i64 x.at_) ∧ w.cell? ⟨b, off + j * 4 + 1, none⟩ = some (.int .i64 x.kind) ∧ w.cell? ⟨b, off + j * 4 + 2, none⟩ = some (.int .i64 x.a) ∧ w.cell? ⟨b, off + j * 4 + 3, none⟩ = some (.int .i64 x.b) := by
  obtain ⟨b, off, x, e, hb, hx, hc⟩ := h.get_ hj
  exact ⟨b, off, x, e, hb, hx, by simpa using hc 0 _ rfl, hc 1 _ rfl, hc 2 _ rfl, hc 3 _ rfl⟩

set_option maxRecDepth 100000 in
set_option maxHeartbeats 2000000 in
theorem idx_gen (A : Option Addr) (n c : Nat) (xs : List Ft) (p : Ft → Bool) (g : Nat) (lb : Array Value) (eg : ∀ args w, (callFunc g args).run Try.prog w = .ok (.enter g args) w) (w : World) (hA : Sl eFt 4 w A n xs) (hcl : ∀ W, Below w.heap.size w W → ∀ x : Ft, Calls Try.prog g (#[x.agg] ++ lb) W fun e w' => e = .returned (.bool (p x)) ∧ Below W.heap.size W w')
    (k : Nat) (hk : k ≤ n) (hno : ∀ i x, i < k → xs[i]? = some x → p x = false) (hyes : ∀ x, xs[k]? = some x → p x = true) :
    Calls Try.prog 33 #[.slice A n c, .func (.func g) #[] lb] w fun e w' => e = .returned (.int .i64 (if k < n then (k : Int) else -1)) ∧ Below w.heap.size w w' := by
  have hbig := hA.big
  simp only [Ft.agg] at hcl
  obtain ⟨r, hr⟩ : ∃ r : Int, r = if k < n then (k : Int) else -1 := ⟨_, rfl⟩
  rw [← hr]
  have HA := Lib.hid hA
  clear hA
  have HNO := Lib.hid hno
  clear hno
  have HYES := Lib.hid hyes
  clear hyes
  have HCL := Lib.hid hcl
  clear hcl
  have HR := Lib.hid hr
  clear hr
  go_enter Try.func33, Try.ntmps33
  go_wp2
  go_loopw [8] (fun i wr => ∃ j : Nat, j ≤ k ∧ i = .int .i64 j ∧ Hid (Below w.heap.size w wr)) (fun i _ => n - (intOf i).toNat)
  case atStart => exact ⟨0, Nat.zero_le _, rfl, Below.refl _ _⟩
  case round =>
    obtain ⟨j, hj, rfl, HW⟩ := hrel
    by_cases hlt : j < n
    · obtain ⟨b, off, x, rfl, hb, hx, c0, c1, c2, c3⟩ := (HA.out.below HW.out).ft_ hlt
      have hcall := HCL.out wr HW.out x
      by_cases hjk : j < k
      · rw [HNO.out j x hjk hx] at hcall
        obtain ⟨x0, x1, x2, x3⟩ := x
        simp only at hcall c0 c1 c2 c3
        have HCALL := Lib.hid hcall
        clear hcall hx hb HA HNO HYES HCL
        go_wp2_with fail
        refine HCALL.out.mono ?_
        rintro e w1 ⟨rfl, hb1⟩
        have HW1 := Lib.hid (below_tr HW.out hb1)
        clear hb1 HCALL c0 c1 c2 c3 HW
        go_wp2
        go_roundw
        case rel => exact ⟨j + 1, by omega, by go_num, HW1⟩
        case measure => simp [intOf]; omega
      · have : j = k := by omega
        subst this
        rw [HYES.out x hx] at hcall
        obtain ⟨x0, x1, x2, x3⟩ := x
        simp only at hcall c0 c1 c2 c3
        have HCALL := Lib.hid hcall
        clear hcall hx hb HA HNO HYES HCL
        go_wp2_with fail
        refine HCALL.out.mono ?_
        rintro e w1 ⟨rfl, hb1⟩
        have HW1 := Lib.hid (below_tr HW.out hb1)
        clear hb1 HCALL c0 c1 c2 c3 HW
        go_wp2
        go_ret
        exact ⟨by rw [HR.out, if_pos hlt]; rfl, HW1.out⟩
    · have : j = n := by omega
      subst this
      go_wp2
      go_ret
      exact ⟨by rw [HR.out, if_neg (by omega)]; rfl, HW.out⟩

theorem idx_any (A : Option Addr) (n c : Nat) (xs : List Ft) (at_ op : Int) (p1 p2 : Nat) (w : World) (hA : Sl eFt 4 w A n xs) (h1 : w.cell? ⟨p1, 0, none⟩ = some (.int .i64 at_)) (h2 : w.cell? ⟨p2, 0, none⟩ = some (.int .i64 op))
    (k : Nat) (hk : k ≤ n) (hno : ∀ i x, i < k → xs[i]? = some x → hit at_ op x = false) (hyes : ∀ x, xs[k]? = some x → hit at_ op x = true) :
    Calls Try.prog 33 #[.slice A n c, .func (.func 34) #[] #[.pointer (some ⟨p1, 0, none⟩), .pointer (some ⟨p2, 0, none⟩)]] w fun e w' => e = .returned (.int .i64 (if k < n then (k : Int) else -1)) ∧ Below w.heap.size w w' :=
  idx_gen A n c xs (hit at_ op) _ #[.pointer (some ⟨p1, 0, none⟩), .pointer (some ⟨p2, 0, none⟩)] (enters_of Try.func34 (by kernel_rfl) rfl) w hA
    (fun W (hW : Below w.heap.size w W) x => meets1_any x at_ op p1 p2 W ((hW.cell (p := ⟨p1, 0, none⟩) (World.block_lt_of_cell? w _ h1)).trans h1) ((hW.cell (p := ⟨p2, 0, none⟩) (World.block_lt_of_cell? w _ h2)).trans h2) (Nat.lt_of_lt_of_le (World.block_lt_of_cell? w _ h1) hW.size) (Nat.lt_of_lt_of_le (World.block_lt_of_cell? w _ h2) hW.size))
    k hk hno hyes

/-- What is met: the first that fits. -/
def met (o : Option Ft) : Value := match o with
  | some x => .tuple #[x.agg, .bool true]
  | none => .tuple #[Ft.zero.agg, .bool false]
theorem find_split (p : Ft → Bool) (xs : List Ft) : (∃ (k : Nat) (x : Ft), xs[k]? = some x ∧ xs.find? p = some x ∧ p x = true ∧ ∀ (i : Nat) (y : Ft), i < k → xs[i]? = some y → p y = false) ∨ (xs.find? p = none ∧ ∀ (i : Nat) (y : Ft), xs[i]? = some y → p y = false) := by
  induction xs with
  | nil => exact .inr ⟨rfl, fun i y h => by simp at h⟩
  | cons x xs ih =>
    by_cases hp : p x = true
    · exact .inl ⟨0, x, rfl, by simp [List.find?, hp], hp, fun i y h _ => absurd h (Nat.not_lt_zero i)⟩
    · have hp' : p x = false := by simpa using hp
      rcases ih with ⟨k, y, h1, h2, h3, h4⟩ | ⟨h1, h2⟩
      · refine .inl ⟨k + 1, y, by simpa using h1, by simp [List.find?, hp', h2], h3, fun i z hi hz => ?_⟩
        cases i with
        | zero => simp at hz; subst hz; exact hp'
        | succ i => exact h4 i z (by omega) (by simpa using hz)
      · refine .inr ⟨by simp [List.find?, hp', h1], fun i z hz => ?_⟩
        cases i with
        | zero => simp at hz; subst hz; exact hp'
        | succ i => exact h2 i z (by simpa using hz)

set_option maxRecDepth 100000 in
set_option maxHeartbeats 2000000 in
theorem meets_any (A : Option Addr) (n c : Nat) (xs : List Ft) (at_ op : Int) (w : World) (hA : Sl eFt 4 w A n xs) :
    Calls Try.prog 21 #[.slice A n c, .int .i64 at_, .int .i64 op] w fun e w' => e = .returned (met (xs.find? (hit at_ op))) ∧ Below w.heap.size w w' := by
  have hmf : ∀ (fn : Fn) (first cap : Array Value) (w : World), (Instr.makeFunc fn first cap).run Try.prog w = .ok (.func fn first cap) w := fun _ _ _ _ => rfl
  have hlen := hA.len
  have hbig := hA.big
  rcases find_split (hit at_ op) xs with ⟨k, x, hx, hf, hp, hno⟩ | ⟨hf, hno⟩
  · have hk : k < n := by have := (List.getElem?_eq_some_iff.1 hx).1; omega
    rw [hf]
    have hidx := fun W p1 p2 hW h1 h2 => idx_any A n c xs at_ op p1 p2 W (hA.below hW) h1 h2 k (by omega) hno (fun y hy => by rw [hx] at hy; injection hy with hy; subst hy; exact hp)
    simp only [if_pos hk] at hidx
    have HX := Lib.hid hx
    obtain ⟨x0, x1, x2, x3⟩ := x
    simp only [met, Ft.agg]
    have HA := Lib.hid hA
    clear hA
    have HIDX := Lib.hid hidx
    clear hidx
    clear hx hf hno hp
    go_enter Try.func21, Try.ntmps21
    go_wp2_with fail
    have hw0 : Below w.heap.size w (((w.alloc (.cells #[.int .i64 at_] 3)).alloc (.cells #[.int .i64 op] 3)).alloc (.cells #[.int .i64 0, .int .i64 0, .int .i64 0, .int .i64 0] 37)) := by ((try change Below _ _ _); (repeat (any_goals (first | (with_reducible exact Below.refl _ _) | (with_reducible exact Below.refl _ _) | (with_reducible apply Below.drew) | (with_reducible apply below_drewN) | (with_reducible refine Below.alloc ?_ ?_ _) | (with_reducible refine Below.setCell ?_ ?_ _)))); all_goals (first | exact Nat.le_refl _ | (simp; done) | (simp; omega) | omega | (dsimp only; omega)))
    refine (HIDX.out _ w.heap.size (w.heap.size + 1) hw0 (((((Blk.new w _ _).alloc _).alloc _).cell 0).trans rfl) ((((Blk.new1 w _ _ _).alloc _).cell 0).trans rfl)).mono ?_
    rintro e w1 ⟨rfl, hb1⟩
    have hw1 := below_tr hw0 hb1
    have hz1 : Blk w1 (w.heap.size + 2) 37 #[.int .i64 0, .int .i64 0, .int .i64 0, .int .i64 0] := by
      have h := Blk.new1 (w.alloc (.cells #[.int .i64 at_] 3)) (.cells #[.int .i64 op] 3) 37 #[.int .i64 0, .int .i64 0, .int .i64 0, .int .i64 0]
      rw [World.size_alloc] at h
      exact h.below_ hb1
    obtain ⟨b, off, y, rfl, hb, hy, c0, c1, c2, c3⟩ := (HA.out.below hw1).ft_ hk
    obtain rfl : y = ⟨x0, x1, x2, x3⟩ := by have := HX.out; rw [this] at hy; injection hy with hy; exact hy.symm
    simp only at c0 c1 c2 c3
    have hne : b ≠ w.heap.size + 2 := by
      obtain ⟨b', off', e, hb', _⟩ := HA.out.2.2 (by omega)
      injection e with e; injection e with e1; omega
    have z0 := (hz1.cell 0).trans rfl
    have z1 := (hz1.cell 1).trans rfl
    have z2 := (hz1.cell 2).trans rfl
    have z3 := (hz1.cell 3).trans rfl
    have y0 := hz1.frozen 0
    have y1 := hz1.frozen 1
    have y2 := hz1.frozen 2
    have y3 := hz1.frozen 3
    have HW1 := Lib.hid hw1
    clear hw1
    clear hb1 hz1 hw0 hb hy HA
    go_wp2
    refine bodyPost_ret (v := .tuple #[.agg #[.int .i64 x0, .int .i64 x1, .int .i64 x2, .int .i64 x3], .bool true]) (by simp [results, Try.results21, go_sem, *]) rfl ⟨rfl, ?_⟩
    ((try change Below _ _ _); have bsz_ := (HW1.out).size; (repeat (any_goals (first | (with_reducible exact HW1.out) | (with_reducible exact Below.refl _ _) | (with_reducible apply Below.drew) | (with_reducible apply below_drewN) | (with_reducible refine Below.alloc ?_ ?_ _) | (with_reducible refine Below.setCell ?_ ?_ _)))); all_goals (first | exact Nat.le_refl _ | (simp; done) | (simp; omega) | omega | (dsimp only; omega)))
  · have hidx := fun W p1 p2 hW h1 h2 => idx_any A n c xs at_ op p1 p2 W (hA.below hW) h1 h2 n (by omega) (fun i y _ hy => hno i y hy) (fun y hy => by rw [List.getElem?_eq_none (by omega)] at hy; cases hy)
    simp only [if_neg (Nat.lt_irrefl n)] at hidx
    rw [hf]
    simp only [met, Ft.agg, Ft.zero]
    have HA := Lib.hid hA
    clear hA
    have HIDX := Lib.hid hidx
    clear hidx
    clear hf hno
    go_enter Try.func21, Try.ntmps21
    go_wp2_with fail
    have hw0 : Below w.heap.size w (((w.alloc (.cells #[.int .i64 at_] 3)).alloc (.cells #[.int .i64 op] 3)).alloc (.cells #[.int .i64 0, .int .i64 0, .int .i64 0, .int .i64 0] 37)) := by ((try change Below _ _ _); (repeat (any_goals (first | (with_reducible exact Below.refl _ _) | (with_reducible exact Below.refl _ _) | (with_reducible apply Below.drew) | (with_reducible apply below_drewN) | (with_reducible refine Below.alloc ?_ ?_ _) | (with_reducible refine Below.setCell ?_ ?_ _)))); all_goals (first | exact Nat.le_refl _ | (simp; done) | (simp; omega) | omega | (dsimp only; omega)))
    refine (HIDX.out _ w.heap.size (w.heap.size + 1) hw0 (((((Blk.new w _ _).alloc _).alloc _).cell 0).trans rfl) ((((Blk.new1 w _ _ _).alloc _).cell 0).trans rfl)).mono ?_
    rintro e w1 ⟨rfl, hb1⟩
    have hw1 := below_tr hw0 hb1
    have hz1 : Blk w1 (w.heap.size + 2) 37 #[.int .i64 0, .int .i64 0, .int .i64 0, .int .i64 0] := by
      have h := Blk.new1 (w.alloc (.cells #[.int .i64 at_] 3)) (.cells #[.int .i64 op] 3) 37 #[.int .i64 0, .int .i64 0, .int .i64 0, .int .i64 0]
      rw [World.size_alloc] at h
      exact h.below_ hb1
    have z0 := (hz1.cell 0).trans rfl
    have z1 := (hz1.cell 1).trans rfl
    have z2 := (hz1.cell 2).trans rfl
    have z3 := (hz1.cell 3).trans rfl
    have y0 := hz1.frozen 0
    have y1 := hz1.frozen 1
    have y2 := hz1.frozen 2
    have y3 := hz1.frozen 3
    have HW1 := Lib.hid hw1
    clear hw1
    clear hb1 hz1 hw0
    go_wp2
    refine bodyPost_ret (v := .tuple #[.agg #[.int .i64 0, .int .i64 0, .int .i64 0, .int .i64 0], .bool false]) (by simp [results, Try.results21, go_sem, *]) rfl ⟨rfl, ?_⟩
    ((try change Below _ _ _); have bsz_ := (HW1.out).size; (repeat (any_goals (first | (with_reducible exact HW1.out) | (with_reducible exact Below.refl _ _) | (with_reducible apply Below.drew) | (with_reducible apply below_drewN) | (with_reducible refine Below.alloc ?_ ?_ _) | (with_reducible refine Below.setCell ?_ ?_ _)))); all_goals (first | exact Nat.le_refl _ | (simp; done) | (simp; omega) | omega | (dsimp only; omega)))

end Go.Proofs.Ytdjfkehbknbocab

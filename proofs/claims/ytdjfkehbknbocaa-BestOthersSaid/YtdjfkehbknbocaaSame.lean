/- The walks of SameInts; geo, page. -/
import Derived.Test.YtdjfkehbknbocaaBestC
import Derived.Test.YtdjfkehbknbocaaEqs
namespace Go.Proofs.Ytdjfkehbknbocaa
open Go.RowKit
set_option linter.unusedSimpArgs false
set_option linter.unusedVariables false

theorem geo17_any (w : World) : Calls Try.prog 41 #[] w fun e w' => e = .returned (Geo.agg ⟨8, 6, 64, 4, 0, 4⟩) ∧ Below w.heap.size w w' := by
  go_enter Try.func41, Try.ntmps41
  go_wp2
  refine bodyPost_ret (v := .agg #[.int .i64 8, .int .i64 6, .int .i64 64, .int .i64 4, .int .i64 0, .int .i64 4]) (by simp [results, Try.results41, go_sem, *]) rfl ⟨rfl, by ((try change Below _ _ _); (repeat (any_goals (first | (with_reducible exact Below.refl _ _) | (with_reducible exact Below.refl _ _) | (with_reducible apply Below.drew) | (with_reducible apply below_drewN) | (with_reducible refine Below.alloc ?_ ?_ _) | (with_reducible refine Below.setCell ?_ ?_ _)))); all_goals (first | exact Nat.le_refl _ | (simp; done) | (simp; omega) | omega | (dsimp only; omega)))⟩
theorem page17_any (a b c : Int) (w : World) : Calls Try.prog 64 #[.int .i64 a, .int .i64 b, .int .i64 c] w fun e w' => e = .returned (Pg.agg ⟨2, ⟨1, a, b, c⟩, ⟨#[]⟩⟩) ∧ Below w.heap.size w w' := by
  go_enter Try.func64, Try.ntmps64
  go_wp2
  refine bodyPost_ret (v := .agg #[.int .i64 2, .int .i64 1, .int .i64 a, .int .i64 b, .int .i64 c, .string ⟨#[]⟩]) (by simp [results, Try.results64, go_sem, *]) rfl ⟨rfl, by ((try change Below _ _ _); (repeat (any_goals (first | (with_reducible exact Below.refl _ _) | (with_reducible exact Below.refl _ _) | (with_reducible apply Below.drew) | (with_reducible apply below_drewN) | (with_reducible refine Below.alloc ?_ ?_ _) | (with_reducible refine Below.setCell ?_ ?_ _)))); all_goals (first | exact Nat.le_refl _ | (simp; done) | (simp; omega) | omega | (dsimp only; omega)))⟩
theorem take_eq_snoc {α : Type} {xs ys : List α} {k : Nat} {x y : α} (hx : xs[k]? = some x) (hy : ys[k]? = some y) : xs.take (k + 1) = ys.take (k + 1) ↔ (xs.take k = ys.take k ∧ x = y) := by
  rw [List.take_add_one, List.take_add_one, hx, hy, Option.toList_some, Option.toList_some]
  have hl : (xs.take k).length = (ys.take k).length := by
    have h1 := (List.getElem?_eq_some_iff.1 hx).1
    have h2 := (List.getElem?_eq_some_iff.1 hy).1
    rw [List.length_take, List.length_take]
    omega
  constructor
  · intro h
    obtain ⟨h1, h2⟩ := List.append_inj h hl
    exact ⟨h1, by injection h2⟩
  · rintro ⟨h1, rfl⟩
    rw [h1]
set_option maxHeartbeats 4000000 in
theorem sameInts_any (A B : Option Addr) (n c m d : Nat) (xs ys : List Int) (w : World) (hA : Sl eInt 1 w A n xs) (hB : Sl eInt 1 w B m ys) :
    Calls Try.prog 33 #[.slice A n c, .slice B m d] w fun e w' => e = .returned (.bool (decide (xs = ys))) ∧ Below w.heap.size w w' := by
  have hlen := hA.len
  have hlen2 := hB.len
  have hbig := hA.big
  have hbig2 := hB.big
  have HA := Lib.hid hA
  clear hA
  have HB := Lib.hid hB
  clear hB
  by_cases hnm : n = m
  · subst hnm
    go_enter Try.func33, Try.ntmps33
    go_wp2
    go_loopw [5, 6] (fun i j wr => ∃ (k : Nat) (b : Bool), k ≤ n ∧ i = .bool b ∧ j = .int .i64 k ∧ Hid (b = decide (xs.take k = ys.take k)) ∧ Hid (Below w.heap.size w wr))
      (fun i j _ => n - (intOf j).toNat)
    case atStart => exact ⟨0, true, Nat.zero_le _, rfl, rfl, by show true = decide ([] = []); rfl, Below.refl _ _⟩
    case round =>
      obtain ⟨k, b, hk, rfl, rfl, HE, HW⟩ := hrel
      cases b with
      | false =>
        have hr : decide (xs = ys) = false := by
          have := HE.out
          simp only [Bool.false_eq, decide_eq_false_iff_not] at this ⊢
          intro h
          exact this (by rw [h])
        have HR := Lib.hid hr
        clear hr
        clear HE
        go_wp2
        go_ret
        exact ⟨by rw [HR.out]; rfl, HW.out⟩
      | true =>
        by_cases hlt : k < n
        · obtain ⟨b, off, x, rfl, hb, hx, hc⟩ := (HA.out.below HW.out).get_ hlt
          obtain ⟨b', off', y, rfl, hb', hy, hc'⟩ := (HB.out.below HW.out).get_ hlt
          have c0 := hc 0 _ rfl
          have c1 := hc' 0 _ rfl
          simp only [Nat.mul_one, Nat.add_zero] at c0 c1
          have HE2 : Hid ((x == y) = decide (xs.take (k + 1) = ys.take (k + 1))) := by
            have := HE.out
            show (x == y) = _
            simp only [Bool.true_eq, decide_eq_true_eq] at this
            have h2 := take_eq_snoc hx hy
            by_cases h : x = y
            · rw [beq_iff_eq.2 h, eq_comm, decide_eq_true_eq]
              exact h2.2 ⟨this, h⟩
            · rw [beq_eq_false_iff_ne.2 h, eq_comm, decide_eq_false_iff_not]
              exact fun h3 => h (h2.1 h3).2
          clear hc hc' hx hy hb hb' HE HA HB
          go_wp2
          go_region
          go_wp2
          go_roundw
          case rel => exact ⟨k + 1, (x == y), by omega, by first | rfl | simp, by go_num, HE2, by ((try change Below _ _ _); have bsz_ := (HW.out).size; (repeat (any_goals (first | (with_reducible exact HW.out) | (with_reducible exact Below.refl _ _) | (with_reducible apply Below.drew) | (with_reducible apply below_drewN) | (with_reducible refine Below.alloc ?_ ?_ _) | (with_reducible refine Below.setCell ?_ ?_ _)))); all_goals (first | exact Nat.le_refl _ | (simp; done) | (simp; omega) | omega | (dsimp only; omega)))⟩
          case measure => simp [intOf]; omega
        · have : k = n := by omega
          subst this
          have hr : decide (xs = ys) = true := by
            have := HE.out
            rw [List.take_of_length_le (by omega), List.take_of_length_le (by omega)] at this
            exact this.symm
          have HR := Lib.hid hr
          clear hr
          clear HE
          go_wp2
          go_ret
          exact ⟨by rw [HR.out]; rfl, HW.out⟩
  · have hr : decide (xs = ys) = false := by
      rw [decide_eq_false_iff_not]
      rintro rfl
      omega
    have hnm' : ((n : Int) == (m : Int)) = false := by simp; omega
    have HR := Lib.hid hr
    clear hr
    go_enter Try.func33, Try.ntmps33
    go_wp2
    go_loopw [5, 6] (fun i j wr => i = .bool false ∧ Hid (Below w.heap.size w wr)) (fun i j _ => 0)
    case atStart => exact ⟨rfl, Below.refl _ _⟩
    case round =>
      obtain ⟨rfl, HW⟩ := hrel
      go_wp2
      go_ret
      exact ⟨by rw [HR.out]; rfl, HW.out⟩
def eAd (x : Ad) : List Value := [.int .i64 x.block, .int .i64 x.line, .int .i64 x.part]
theorem eqAddr (a0 a1 a2 b0 b1 b2 : Int) (w : World) :
    (binOp .eql 70 (.agg #[.int .i64 a0, .int .i64 a1, .int .i64 a2]) (.agg #[.int .i64 b0, .int .i64 b1, .int .i64 b2])).run Try.prog w
      = .ok (.bool (a0 == b0 && (a1 == b1 && (a2 == b2 && true)))) w :=
  eq_struct Try.underlying70 (by kernel_rfl) (eqf_int a0 b0 rfl (Try.isAgg3 _) Try.underlying3 rfl rfl (eqf_int a1 b1 rfl (Try.isAgg3 _) Try.underlying3 rfl rfl (eqf_int a2 b2 rfl (Try.isAgg3 _) Try.underlying3 rfl rfl eqf_nil)))
theorem adEq (x y : Ad) [Decidable (x = y)] : decide (x = y) = (x.block == y.block && (x.line == y.line && (x.part == y.part && true))) := by
  obtain ⟨x0, x1, x2⟩ := x
  obtain ⟨y0, y1, y2⟩ := y
  by_cases h : x0 = y0
  · by_cases h1 : x1 = y1
    · by_cases h2 : x2 = y2
      · simp [h, h1, h2]
      · simp [h, h1, h2]
    · simp [h, h1]
  · simp [h]
set_option maxHeartbeats 4000000 in
theorem sameAddrs_any (A B : Option Addr) (n c m d : Nat) (xs ys : List Ad) (w : World) (hA : Sl eAd 3 w A n xs) (hB : Sl eAd 3 w B m ys) :
    Calls Try.prog 32 #[.slice A n c, .slice B m d] w fun e w' => e = .returned (.bool (decide (xs = ys))) ∧ Below w.heap.size w w' := by
  have hlen := hA.len
  have hlen2 := hB.len
  have hbig := hA.big
  have hbig2 := hB.big
  have HA := Lib.hid hA
  clear hA
  have HB := Lib.hid hB
  clear hB
  by_cases hnm : n = m
  · subst hnm
    go_enter Try.func32, Try.ntmps32
    go_wp2
    go_loopw [5, 6] (fun i j wr => ∃ (k : Nat) (b : Bool), k ≤ n ∧ i = .bool b ∧ j = .int .i64 k ∧ Hid (b = decide (xs.take k = ys.take k)) ∧ Hid (Below w.heap.size w wr))
      (fun i j _ => n - (intOf j).toNat)
    case atStart => exact ⟨0, true, Nat.zero_le _, rfl, rfl, by show true = decide ([] = []); rfl, Below.refl _ _⟩
    case round =>
      obtain ⟨k, b, hk, rfl, rfl, HE, HW⟩ := hrel
      cases b with
      | false =>
        have hr : decide (xs = ys) = false := by
          have := HE.out
          simp only [Bool.false_eq, decide_eq_false_iff_not] at this ⊢
          intro h
          exact this (by rw [h])
        have HR := Lib.hid hr
        clear hr
        clear HE
        go_wp2
        go_ret
        exact ⟨by rw [HR.out]; rfl, HW.out⟩
      | true =>
        by_cases hlt : k < n
        · obtain ⟨b, off, x, rfl, hb, hx, hc⟩ := (HA.out.below HW.out).get_ hlt
          obtain ⟨b', off', y, rfl, hb', hy, hc'⟩ := (HB.out.below HW.out).get_ hlt
          have c0 := hc 0 _ rfl
          have c1 := hc 1 _ rfl
          have c2 := hc 2 _ rfl
          have d0 := hc' 0 _ rfl
          have d1 := hc' 1 _ rfl
          have d2 := hc' 2 _ rfl
          simp only [Nat.add_zero] at c0 d0
          have HE2 : Hid ((x.block == y.block && (x.line == y.line && (x.part == y.part && true))) = decide (xs.take (k + 1) = ys.take (k + 1))) := by
            have := HE.out
            show (x.block == y.block && (x.line == y.line && (x.part == y.part && true))) = _
            rw [← adEq]
            simp only [Bool.true_eq, decide_eq_true_eq] at this
            have h2 := take_eq_snoc hx hy
            by_cases h : x = y
            · rw [decide_eq_true h, eq_comm, decide_eq_true_eq]
              exact h2.2 ⟨this, h⟩
            · rw [decide_eq_false h, eq_comm, decide_eq_false_iff_not]
              exact fun h3 => h (h2.1 h3).2
          clear hc hc' hx hy hb hb' HE HA HB
          obtain ⟨x0, x1, x2⟩ := x
          obtain ⟨y0, y1, y2⟩ := y
          simp only at c0 c1 c2 d0 d1 d2 HE2
          have he := fun W => eqAddr x0 x1 x2 y0 y1 y2 W
          generalize (x0 == y0 && (x1 == y1 && (x2 == y2 && true))) = q at he HE2
          go_wp2
          go_region
          go_wp2
          go_roundw
          case rel => exact ⟨k + 1, q, by omega, by first | rfl | simp, by go_num, HE2, by ((try change Below _ _ _); have bsz_ := (HW.out).size; (repeat (any_goals (first | (with_reducible exact HW.out) | (with_reducible exact Below.refl _ _) | (with_reducible apply Below.drew) | (with_reducible apply below_drewN) | (with_reducible refine Below.alloc ?_ ?_ _) | (with_reducible refine Below.setCell ?_ ?_ _)))); all_goals (first | exact Nat.le_refl _ | (simp; done) | (simp; omega) | omega | (dsimp only; omega)))⟩
          case measure => simp [intOf]; omega
        · have : k = n := by omega
          subst this
          have hr : decide (xs = ys) = true := by
            have := HE.out
            rw [List.take_of_length_le (by omega), List.take_of_length_le (by omega)] at this
            exact this.symm
          have HR := Lib.hid hr
          clear hr
          clear HE
          go_wp2
          go_ret
          exact ⟨by rw [HR.out]; rfl, HW.out⟩
  · have hr : decide (xs = ys) = false := by
      rw [decide_eq_false_iff_not]
      rintro rfl
      omega
    have hnm' : ((n : Int) == (m : Int)) = false := by simp; omega
    have HR := Lib.hid hr
    clear hr
    go_enter Try.func32, Try.ntmps32
    go_wp2
    go_loopw [5, 6] (fun i j wr => i = .bool false ∧ Hid (Below w.heap.size w wr)) (fun i j _ => 0)
    case atStart => exact ⟨rfl, Below.refl _ _⟩
    case round =>
      obtain ⟨rfl, HW⟩ := hrel
      go_wp2
      go_ret
      exact ⟨by rw [HR.out]; rfl, HW.out⟩
#print axioms sameInts_any
#print axioms sameAddrs_any
end Go.Proofs.Ytdjfkehbknbocaa

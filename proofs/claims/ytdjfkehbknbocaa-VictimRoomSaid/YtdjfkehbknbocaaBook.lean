/- The walks of decklebook's small functions: lists of numbers held against one another, spoilt, a number below another one. -/
import Derived.Test.YtdjfkehbknbocaaProg
import Derived.Test.YtdjfkehbknbocaaLib
import Derived.Deep.Cut
namespace Go.Proofs.Ytdjfkehbknbocaa
open Go.RowKit
set_option linter.unusedSimpArgs false
set_option linter.unusedVariables false

theorem take_eq_snoc {α : Type} {xs ys : List α} {k : Nat} {x y : α} (hx : xs[k]? = some x) (hy : ys[k]? = some y) : xs.take (k + 1) = ys.take (k + 1) ↔ (xs.take k = ys.take k ∧ x = y) := by
  rw [List.take_add_one, List.take_add_one, hx, hy, Option.toList_some, Option.toList_some]
  have hl : (xs.take k).length = (ys.take k).length := by
    have h1 := (List.getElem?_eq_some_iff.1 hx).1
    have h2 := (List.getElem?_eq_some_iff.1 hy).1
    rw [List.length_take, List.length_take]
    omega
  constructor
  · intro h
    obtain ⟨h1, h2⟩ := List.append_inj h hl
    exact ⟨h1, by injection h2⟩
  · rintro ⟨h1, rfl⟩
    rw [h1]
set_option maxHeartbeats 4000000 in
theorem sameInts_any (A B : Option Addr) (n c m d : Nat) (xs ys : List Int) (w : World) (hA : Sl eInt 1 w A n xs) (hB : Sl eInt 1 w B m ys) :
    Calls Try.prog 33 #[.slice A n c, .slice B m d] w fun e w' => e = .returned (.bool (decide (xs = ys))) ∧ Below w.heap.size w w' := by
  have hlen := hA.len
  have hlen2 := hB.len
  have hbig := hA.big
  have hbig2 := hB.big
  have HA := Lib.hid hA
  clear hA
  have HB := Lib.hid hB
  clear hB
  by_cases hnm : n = m
  · subst hnm
    go_enter Try.func33, Try.ntmps33
    go_wp2
    go_loopw [5, 6] (fun i j wr => ∃ (k : Nat) (b : Bool), k ≤ n ∧ i = .bool b ∧ j = .int .i64 k ∧ Hid (b = decide (xs.take k = ys.take k)) ∧ Hid (Below w.heap.size w wr))
      (fun i j _ => n - (intOf j).toNat)
    case atStart => exact ⟨0, true, Nat.zero_le _, rfl, rfl, by show true = decide ([] = []); rfl, Below.refl _ _⟩
    case round =>
      obtain ⟨k, b, hk, rfl, rfl, HE, HW⟩ := hrel
      cases b with
      | false =>
        have hr : decide (xs = ys) = false := by
          have := HE.out
          simp only [Bool.false_eq, decide_eq_false_iff_not] at this ⊢
          intro h
          exact this (by rw [h])
        have HR := Lib.hid hr
        clear hr
        clear HE
        go_wp2
        go_ret
        exact ⟨by rw [HR.out]; rfl, HW.out⟩
      | true =>
        by_cases hlt : k < n
        · obtain ⟨b, off, x, rfl, hb, hx, hc⟩ := (HA.out.below HW.out).get_ hlt
          obtain ⟨b', off', y, rfl, hb', hy, hc'⟩ := (HB.out.below HW.out).get_ hlt
          have c0 := hc 0 _ rfl
          have c1 := hc' 0 _ rfl
          simp only [Nat.mul_one, Nat.add_zero] at c0 c1
          have HE2 : Hid ((x == y) = decide (xs.take (k + 1) = ys.take (k + 1))) := by
            have := HE.out
            show (x == y) = _
            simp only [Bool.true_eq, decide_eq_true_eq] at this
            have h2 := take_eq_snoc hx hy
            by_cases h : x = y
            · rw [beq_iff_eq.2 h, eq_comm, decide_eq_true_eq]
              exact h2.2 ⟨this, h⟩
            · rw [beq_eq_false_iff_ne.2 h, eq_comm, decide_eq_false_iff_not]
              exact fun h3 => h (h2.1 h3).2
          clear hc hc' hx hy hb hb' HE HA HB
          go_wp2
          go_region
          go_wp2
          go_roundw
          case rel => exact ⟨k + 1, (x == y), by omega, by first | rfl | simp, by go_num, HE2, by ((try change Below _ _ _); have bsz_ := (HW.out).size; (repeat (any_goals (first | (with_reducible exact HW.out) | (with_reducible exact Below.refl _ _) | (with_reducible apply Below.drew) | (with_reducible apply below_drewN) | (with_reducible refine Below.alloc ?_ ?_ _) | (with_reducible refine Below.setCell ?_ ?_ _)))); all_goals (first | exact Nat.le_refl _ | (simp; done) | (simp; omega) | omega | (dsimp only; omega)))⟩
          case measure => simp [intOf]; omega
        · have : k = n := by omega
          subst this
          have hr : decide (xs = ys) = true := by
            have := HE.out
            rw [List.take_of_length_le (by omega), List.take_of_length_le (by omega)] at this
            exact this.symm
          have HR := Lib.hid hr
          clear hr
          clear HE
          go_wp2
          go_ret
          exact ⟨by rw [HR.out]; rfl, HW.out⟩
  · have hr : decide (xs = ys) = false := by
      rw [decide_eq_false_iff_not]
      rintro rfl
      omega
    have hnm' : ((n : Int) == (m : Int)) = false := by simp; omega
    have HR := Lib.hid hr
    clear hr
    go_enter Try.func33, Try.ntmps33
    go_wp2
    go_loopw [5, 6] (fun i j wr => i = .bool false ∧ Hid (Below w.heap.size w wr)) (fun i j _ => 0)
    case atStart => exact ⟨rfl, Below.refl _ _⟩
    case round =>
      obtain ⟨rfl, HW⟩ := hrel
      go_wp2
      go_ret
      exact ⟨by rw [HR.out]; rfl, HW.out⟩

theorem tmod17_neg {x n : Int} (hn : 0 < n) (h : x.tmod n < 0) : x.tmod n + n = x % n := by
  have e := Int.tmod_eq_emod (a := x) (b := n)
  have h1 := Int.emod_nonneg x (by omega : n ≠ 0)
  split at e <;> omega
theorem tmod17_pos {x n : Int} (hn : 0 < n) (h : ¬ x.tmod n < 0) : x.tmod n = x % n := by
  have e := Int.tmod_eq_emod (a := x) (b := n)
  have h1 := Int.emod_lt_of_pos x hn
  split at e <;> omega
theorem below17_any (x n : Int) (hx : -9223372036854775808 ≤ x ∧ x ≤ 9223372036854775807) (hn : 0 < n) (hn' : n ≤ 1000000) (w : World) : Calls Try.prog 25 #[.int .i64 x, .int .i64 n] w fun e w' => e = .returned (.int .i64 (x % n)) ∧ w = w' := by
  have b1 := Int.tmod_lt_of_pos x hn
  have b2 : -n < x.tmod n := by
    have e := Int.tmod_eq_emod (a := x) (b := n)
    have h1 := Int.emod_nonneg x (by omega : n ≠ 0)
    split at e <;> omega
  obtain ⟨f1, f2⟩ := hx
  by_cases h : x.tmod n < 0
  · have hr := tmod17_neg hn h
    have HR := Lib.hid hr
    clear hr
    go_enter Try.func25, Try.ntmps25
    go_wp2
    go_ret
    exact ⟨by rw [← HR.out]; rfl, rfl⟩
  · have hr := tmod17_pos hn h
    have HR := Lib.hid hr
    clear hr
    go_enter Try.func25, Try.ntmps25
    go_wp2
    go_ret
    exact ⟨by rw [← HR.out]; rfl, rfl⟩
theorem spoilInts_any (A : Option Addr) (n c base : Nat) (xs : List Int) (w : World) (hbig : n ≤ 9223372036854775807) (hA : w.ownsRow base 3 1 (.slice A n c) n (eList eInt xs)) :
    Calls Try.prog 39 #[.slice A n c] w fun e w' => (∃ v, e = .returned v) ∧ w.grownBy w' (Value.slice A n c).ownBlock := by
  have hlen := hA.1
  have HA := Lib.hid hA
  clear hA
  go_enter Try.func39, Try.ntmps39
  go_wp2
  go_loopw [5] (fun i wr => ∃ (k : Nat) (ys : List Value), k ≤ n ∧ i = .int .i64 k ∧ Hid (wr.ownsRow base 3 1 (.slice A n c) n ys ∧ w.grownBy wr (Value.slice A n c).ownBlock))
    (fun i _ => n - (intOf i).toNat)
  case atStart => exact ⟨0, _, Nat.zero_le _, rfl, HA.out, grown_of_below (Below.refl _ _) _⟩
  case round =>
    clear HA
    obtain ⟨k, ys, hk, rfl, H⟩ := hrel
    by_cases hlt : k < n
    · obtain ⟨g, cap, hv, hgb, hgl⟩ := H.out.1.form (by omega)
      injection hv with hv1 hv2 hv3
      subst hv1 hv3
      have hyl := H.out.1.1
      have c0 := own_cell H.out.1 k _ (List.getElem?_eq_getElem (by omega))
      have f0 := own_frozen H.out.1 k
      have H2 : Hid ((wr.setCell ⟨g, k, none⟩ (.int .i64 1099511627776)).ownsRow base 3 1 (.slice (some ⟨g, 0, none⟩) n c) n (ys.set k (.int .i64 1099511627776)) ∧ w.grownBy (wr.setCell ⟨g, k, none⟩ (.int .i64 1099511627776)) (Value.slice (some ⟨g, 0, none⟩) n c).ownBlock) :=
        ⟨(H.out.1.stored k _).1, grown_set (g := g) H.out.2 k _⟩
      clear H
      go_wp2
      go_roundw
      case rel => exact ⟨k + 1, _, by omega, by go_num, H2⟩
      case measure => simp [intOf]; omega
    · have : k = n := by omega
      subst this
      go_wp2
      go_end0
      exact ⟨⟨_, rfl⟩, H.out.2⟩

end Go.Proofs.Ytdjfkehbknbocaa

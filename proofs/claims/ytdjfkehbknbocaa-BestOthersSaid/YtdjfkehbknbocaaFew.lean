/- The walk of few (decklelaw17). -/
import Derived.Test.YtdjfkehbknbocaaSame
namespace Go.Proofs.Ytdjfkehbknbocaa
open Go.RowKit
set_option linter.unusedSimpArgs false
set_option linter.unusedVariables false

def eBk (b : Bk) : List Value := [.int .i64 b.mode, .bool b.bad, b.p.v]
def fewF (lbas : Int) (bs : List Bk) : Bool := decide (bs.length ≤ 12) && (decide (lbas ≤ 100) && bs.all (fun b => decide (b.p.n ≤ 80)))
theorem all_snoc {α : Type} (p : α → Bool) {xs : List α} {k : Nat} {x : α} (hx : xs[k]? = some x) : (xs.take (k + 1)).all p = ((xs.take k).all p && p x) := by
  rw [List.take_add_one, hx, Option.toList_some, List.all_append]
  simp
set_option maxHeartbeats 4000000 in
theorem few_any (g : Geo) (A : Option Addr) (n c : Nat) (bs : List Bk) (w : World) (hA : Sl eBk 3 w A n bs) (hsz : ∀ b ∈ bs, b.p.n ≤ 9223372036854775807) :
    Calls Try.prog 28 #[g.agg, .slice A n c] w fun e w' => e = .returned (.bool (fewF g.lbas bs)) ∧ Below w.heap.size w w' := by
  have hlen := hA.len
  have hbig := hA.big
  obtain ⟨g0, g1, g2, g3, g4, g5⟩ := g
  simp only [Geo.agg]
  by_cases c1 : 12 < n
  · have hr : fewF g3 bs = false := by
      have : ¬ bs.length ≤ 12 := by omega
      simp [fewF, this]
    have HR := Lib.hid hr
    clear hr
    have HA := Lib.hid hA
    clear hA
    have HSZ := Lib.hid hsz
    clear hsz
    go_enter Try.func28, Try.ntmps28
    go_wp2
    go_ret
    exact ⟨by rw [HR.out]; rfl, by ((try change Below _ _ _); (repeat (any_goals (first | (with_reducible exact Below.refl _ _) | (with_reducible exact Below.refl _ _) | (with_reducible apply Below.drew) | (with_reducible apply below_drewN) | (with_reducible refine Below.alloc ?_ ?_ _) | (with_reducible refine Below.setCell ?_ ?_ _)))); all_goals (first | exact Nat.le_refl _ | (simp; done) | (simp; omega) | omega | (dsimp only; omega)))⟩
  by_cases c2 : 100 < g3
  · have hr : fewF g3 bs = false := by
      have : ¬ g3 ≤ 100 := by omega
      simp [fewF, this]
    have c1' : ¬ (12 : Int) < (n : Int) := by omega
    have HR := Lib.hid hr
    clear hr
    have HA := Lib.hid hA
    clear hA
    have HSZ := Lib.hid hsz
    clear hsz
    go_enter Try.func28, Try.ntmps28
    go_wp2
    go_ret
    exact ⟨by rw [HR.out]; rfl, by ((try change Below _ _ _); (repeat (any_goals (first | (with_reducible exact Below.refl _ _) | (with_reducible exact Below.refl _ _) | (with_reducible apply Below.drew) | (with_reducible apply below_drewN) | (with_reducible refine Below.alloc ?_ ?_ _) | (with_reducible refine Below.setCell ?_ ?_ _)))); all_goals (first | exact Nat.le_refl _ | (simp; done) | (simp; omega) | omega | (dsimp only; omega)))⟩
  have hr : fewF g3 bs = bs.all (fun b => decide (b.p.n ≤ 80)) := by
    have e1 : bs.length ≤ 12 := by omega
    have e2 : g3 ≤ 100 := by omega
    simp [fewF, e1, e2]
  have c1' : ¬ (12 : Int) < (n : Int) := by omega
  have HR := Lib.hid hr
  clear hr
  have HA := Lib.hid hA
  clear hA
  have HSZ := Lib.hid hsz
  clear hsz
  go_enter Try.func28, Try.ntmps28
  go_wp2
  go_loopw [5] (fun i wr => ∃ k : Nat, k ≤ n ∧ i = .int .i64 k ∧ Hid ((bs.take k).all (fun b => decide (b.p.n ≤ 80)) = true) ∧ Hid (Below w.heap.size w wr))
    (fun i _ => n - (intOf i).toNat)
  case atStart => exact ⟨0, Nat.zero_le _, rfl, rfl, by show Below _ _ _; ((try change Below _ _ _); (repeat (any_goals (first | (with_reducible exact Below.refl _ _) | (with_reducible exact Below.refl _ _) | (with_reducible apply Below.drew) | (with_reducible apply below_drewN) | (with_reducible refine Below.alloc ?_ ?_ _) | (with_reducible refine Below.setCell ?_ ?_ _)))); all_goals (first | exact Nat.le_refl _ | (simp; done) | (simp; omega) | omega | (dsimp only; omega)))⟩
  case round =>
    obtain ⟨k, hk, rfl, HE, HW⟩ := hrel
    by_cases hlt : k < n
    · obtain ⟨b, off, x, rfl, hb, hx, hc⟩ := (HA.out.below HW.out).get_ hlt
      have e2 := hc 2 _ rfl
      have hs := all_snoc (fun b : Bk => decide (b.p.n ≤ 80)) hx
      rw [HE.out] at hs
      have hbn := HSZ.out x (List.mem_of_getElem? hx)
      have hxm := List.mem_of_getElem? hx
      obtain ⟨xm, xb, ⟨xA, xn, xc⟩⟩ := x
      simp only [Sv.v] at e2 hs hbn hxm
      by_cases c3 : 80 < xn
      · have hf : bs.all (fun b => decide (b.p.n ≤ 80)) = false := by
          rw [List.all_eq_false]
          exact ⟨_, hxm, by simp; omega⟩
        have c3' : (80 : Int) < (xn : Int) := by omega
        have HF := Lib.hid hf
        clear hf
        clear hs hc hx hxm hb HE
        go_wp2
        go_ret
        exact ⟨by rw [HR.out, HF.out]; rfl, HW.out⟩
      · have c3' : ¬ (80 : Int) < (xn : Int) := by omega
        have HE2 : Hid ((bs.take (k + 1)).all (fun b => decide (b.p.n ≤ 80)) = true) := by
          have : xn ≤ 80 := by omega
          show _ = true
          rw [hs]
          simp [this]
        clear hs hc hx hxm hb HE
        go_wp2
        go_roundw
        case rel => exact ⟨k + 1, by omega, by go_num, HE2, HW⟩
        case measure => simp [intOf]; omega
    · have : k = n := by omega
      subst this
      have hf : bs.all (fun b => decide (b.p.n ≤ 80)) = true := by
        have := HE.out
        rwa [List.take_of_length_le (by omega)] at this
      have HF := Lib.hid hf
      clear hf
      clear HE
      go_wp2
      go_ret
      exact ⟨by rw [HR.out, HF.out]; rfl, HW.out⟩
#print axioms few_any
end Go.Proofs.Ytdjfkehbknbocaa

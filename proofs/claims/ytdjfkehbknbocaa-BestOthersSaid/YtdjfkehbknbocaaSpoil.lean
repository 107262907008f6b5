/- The walks of SpoilInts and SpoilAddrs: they write into a row of the caller's own. -/
import Derived.Test.YtdjfkehbknbocaaFew
namespace Go.Proofs.Ytdjfkehbknbocaa
open Go.RowKit
set_option linter.unusedSimpArgs false
set_option linter.unusedVariables false

theorem spoilInts_any (A : Option Addr) (n c base : Nat) (xs : List Int) (w : World) (hbig : n ≤ 9223372036854775807) (hA : w.ownsRow base 3 1 (.slice A n c) n (eList eInt xs)) :
    Calls Try.prog 39 #[.slice A n c] w fun e w' => (∃ v, e = .returned v) ∧ w.grownBy w' (Value.slice A n c).ownBlock := by
  have hlen := hA.1
  have HA := Lib.hid hA
  clear hA
  go_enter Try.func39, Try.ntmps39
  go_wp2
  go_loopw [5] (fun i wr => ∃ (k : Nat) (ys : List Value), k ≤ n ∧ i = .int .i64 k ∧ Hid (wr.ownsRow base 3 1 (.slice A n c) n ys ∧ w.grownBy wr (Value.slice A n c).ownBlock))
    (fun i _ => n - (intOf i).toNat)
  case atStart => exact ⟨0, _, Nat.zero_le _, rfl, HA.out, grown_of_below (Below.refl _ _) _⟩
  case round =>
    clear HA
    obtain ⟨k, ys, hk, rfl, H⟩ := hrel
    by_cases hlt : k < n
    · obtain ⟨g, cap, hv, hgb, hgl⟩ := H.out.1.form (by omega)
      injection hv with hv1 hv2 hv3
      subst hv1 hv3
      have hyl := H.out.1.1
      have c0 := own_cell H.out.1 k _ (List.getElem?_eq_getElem (by omega))
      have f0 := own_frozen H.out.1 k
      have H2 : Hid ((wr.setCell ⟨g, k, none⟩ (.int .i64 1099511627776)).ownsRow base 3 1 (.slice (some ⟨g, 0, none⟩) n c) n (ys.set k (.int .i64 1099511627776)) ∧ w.grownBy (wr.setCell ⟨g, k, none⟩ (.int .i64 1099511627776)) (Value.slice (some ⟨g, 0, none⟩) n c).ownBlock) :=
        ⟨(H.out.1.stored k _).1, grown_set (g := g) H.out.2 k _⟩
      clear H
      go_wp2
      go_roundw
      case rel => exact ⟨k + 1, _, by omega, by go_num, H2⟩
      case measure => simp [intOf]; omega
    · have : k = n := by omega
      subst this
      go_wp2
      go_end0
      exact ⟨⟨_, rfl⟩, H.out.2⟩
theorem spoilAddrs_any (A : Option Addr) (n c base : Nat) (xs : List Ad) (w : World) (hbig : n ≤ 9223372036854775807) (hA : w.ownsRow base 70 3 (.slice A n c) n (eList eAd xs)) :
    Calls Try.prog 38 #[.slice A n c] w fun e w' => (∃ v, e = .returned v) ∧ w.grownBy w' (Value.slice A n c).ownBlock := by
  have hlen := hA.1
  have HA := Lib.hid hA
  clear hA
  go_enter Try.func38, Try.ntmps38
  go_wp2
  go_loopw [5] (fun i wr => ∃ (k : Nat) (ys : List Value), k ≤ n ∧ i = .int .i64 k ∧ Hid (wr.ownsRow base 70 3 (.slice A n c) n ys ∧ w.grownBy wr (Value.slice A n c).ownBlock))
    (fun i _ => n - (intOf i).toNat)
  case atStart => exact ⟨0, _, Nat.zero_le _, rfl, HA.out, grown_of_below (Below.refl _ _) _⟩
  case round =>
    clear HA
    obtain ⟨k, ys, hk, rfl, H⟩ := hrel
    by_cases hlt : k < n
    · obtain ⟨g, cap, hv, hgb, hgl⟩ := H.out.1.form (by omega)
      injection hv with hv1 hv2 hv3
      subst hv1 hv3
      have hyl := H.out.1.1
      have c0 := own_cell H.out.1 (k * 3) _ (List.getElem?_eq_getElem (by omega))
      have c1 := own_cell H.out.1 (k * 3 + 1) _ (List.getElem?_eq_getElem (by omega))
      have c2 := own_cell H.out.1 (k * 3 + 2) _ (List.getElem?_eq_getElem (by omega))
      have f0 := own_frozen H.out.1 (k * 3)
      have f1 := own_frozen H.out.1 (k * 3 + 1)
      have f2 := own_frozen H.out.1 (k * 3 + 2)
      have H2 : Hid ((((wr.setCell ⟨g, k * 3, none⟩ (.int .i64 99)).setCell ⟨g, k * 3 + 1, none⟩ (.int .i64 99)).setCell ⟨g, k * 3 + 2, none⟩ (.int .i64 99)).ownsRow base 70 3 (.slice (some ⟨g, 0, none⟩) n c) n (((ys.set (k * 3) (.int .i64 99)).set (k * 3 + 1) (.int .i64 99)).set (k * 3 + 2) (.int .i64 99)) ∧ w.grownBy (((wr.setCell ⟨g, k * 3, none⟩ (.int .i64 99)).setCell ⟨g, k * 3 + 1, none⟩ (.int .i64 99)).setCell ⟨g, k * 3 + 2, none⟩ (.int .i64 99)) (Value.slice (some ⟨g, 0, none⟩) n c).ownBlock) :=
        ⟨(((H.out.1.stored (k * 3) _).1.stored (k * 3 + 1) _).1.stored (k * 3 + 2) _).1, grown_set (g := g) (grown_set (g := g) (grown_set (g := g) H.out.2 (k * 3) _) (k * 3 + 1) _) (k * 3 + 2) _⟩
      clear H
      go_wp2
      go_roundw
      case rel => exact ⟨k + 1, _, by omega, by go_num, H2⟩
      case measure => simp [intOf]; omega
    · have : k = n := by omega
      subst this
      go_wp2
      go_end0
      exact ⟨⟨_, rfl⟩, H.out.2⟩
#print axioms spoilInts_any
#print axioms spoilAddrs_any
end Go.Proofs.Ytdjfkehbknbocaa

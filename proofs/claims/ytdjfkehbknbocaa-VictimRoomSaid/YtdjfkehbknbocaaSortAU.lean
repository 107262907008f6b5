/- slices' stable sort at rows of Us: swapRange. -/
import Derived.Test.YtdjfkehbknbocaaSortL
import Derived.Test.YtdjfkehbknbocaaProg
import Derived.BigRegion
namespace Go.Proofs.Ytdjfkehbknbocaa
open Go.RowKit
set_option linter.unusedSimpArgs false
set_option linter.unusedVariables false

structure Us where
  block : Int
  mode : Int
  valid : Int
def eUs (x : Us) : List Value := [.int .i64 x.block, .int .i64 x.mode, .int .i64 x.valid]
def Us.agg (x : Us) : Value := .agg #[.int .i64 x.block, .int .i64 x.mode, .int .i64 x.valid]
theorem eUs_len (x : Us) : (eUs x).length = 3 := rfl
theorem ownU_cells {w : World} {base n g cap : Nat} {zs : List Us} (h : w.ownsRow base 83 3 (.slice (some ⟨g, 0, none⟩) n cap) n (eList eUs zs)) {u : Nat} {x : Us} (hx : zs[u]? = some x) : w.cell? ⟨g, u * 3, none⟩ = some (.int .i64 x.block) ∧ w.cell? ⟨g, u * 3 + 1, none⟩ = some (.int .i64 x.mode) ∧ w.cell? ⟨g, u * 3 + 2, none⟩ = some (.int .i64 x.valid) :=
  ⟨own_cell h _ _ (eList_get eUs_len zs u x 0 _ hx rfl), own_cell h _ _ (eList_get eUs_len zs u x 1 _ hx rfl), own_cell h _ _ (eList_get eUs_len zs u x 2 _ hx rfl)⟩
theorem ownU_zlen {w : World} {base n : Nat} {v : Value} {zs : List Us} (h : w.ownsRow base 83 3 v n (eList eUs zs)) : zs.length = n := by
  have h1 := h.1
  rw [eList_len eUs_len] at h1
  omega
set_option maxRecDepth 100000 in
set_option maxHeartbeats 40000000 in
theorem swapU_any (A : Option Addr) (n c base a b m : Nat) (f : Value) (zs : List Us) (w : World) (hbig : n ≤ 9223372036854775807) (hA : w.ownsRow base 83 3 (.slice A n c) n (eList eUs zs)) (hab : a + m ≤ b) (hbn : b + m ≤ n) :
    Calls Try.prog 91 #[.slice A n c, .int .i64 a, .int .i64 b, .int .i64 m, f] w fun e w' => (∃ v, e = .returned v) ∧ ∃ L, SwL a b m zs L ∧ w'.ownsRow base 83 3 (.slice A n c) n (eList eUs L) ∧ w.grownBy w' (Value.slice A n c).ownBlock := by
  have hzl := ownU_zlen hA
  have HA := Lib.hid hA
  clear hA
  go_enter Try.func91, Try.ntmps91
  go_wp2
  go_loopw [10] (fun i wr => ∃ (k : Nat) (L : List Us), k ≤ m ∧ i = .int .i64 k ∧ Hid (SwL a b k zs L ∧ wr.ownsRow base 83 3 (.slice A n c) n (eList eUs L) ∧ w.grownBy wr (Value.slice A n c).ownBlock))
    (fun i _ => m - (intOf i).toNat)
  case atStart => exact ⟨0, zs, Nat.zero_le _, rfl, SwL.zero a b zs, HA.out, grown_of_below (Below.refl _ _) _⟩
  case round =>
    clear HA
    obtain ⟨k, L, hk, rfl, H0⟩ := hrel
    by_cases hlt : k < m
    · have HS := Lib.hid H0.out.1
      have H := Lib.hid (And.intro H0.out.2.1 (And.intro H0.out.1 H0.out.2.2))
      clear H0
      obtain ⟨g, cap, hv, hgb, hgl⟩ := H.out.1.form (by omega)
      injection hv with hv1 hv2 hv3
      subst hv1 hv3
      have hlt' : (k : Int) < (m : Int) := by omega
      have hLl := ownU_zlen H.out.1
      obtain ⟨x, hx⟩ : ∃ x, zs[a + k]? = some x := ⟨zs[a + k]'(by omega), List.getElem?_eq_getElem (by omega)⟩
      obtain ⟨y, hy⟩ : ∃ y, zs[b + k]? = some y := ⟨zs[b + k]'(by omega), List.getElem?_eq_getElem (by omega)⟩
      have hx' := (HS.out.a_ (by omega)).trans hx
      have hy' := (HS.out.b_ (by omega)).trans hy
      have HSN := Lib.hid (HS.out.succ (by omega) (by omega) hx hy)
      obtain ⟨x0, x1, x2⟩ := x
      obtain ⟨y0, y1, y2⟩ := y
      obtain ⟨c0, c1, c2⟩ := ownU_cells H.out.1 hx'
      obtain ⟨d0, d1, d2⟩ := ownU_cells H.out.1 hy'
      dsimp only at c0 c1 c2 d0 d1 d2
      have f0 := own_frozen H.out.1 ((a + k) * 3)
      have h0 := own_frozen H.out.1 ((b + k) * 3)
      have f1 := own_frozen H.out.1 ((a + k) * 3 + 1)
      have h1 := own_frozen H.out.1 ((b + k) * 3 + 1)
      have f2 := own_frozen H.out.1 ((a + k) * 3 + 2)
      have h2 := own_frozen H.out.1 ((b + k) * 3 + 2)
      clear hx hy hx' hy'
      go_wp2_with fail
      go_region
      have own1 : (((wr.setCell ⟨g, (a + k) * 3, none⟩ (.int .i64 y0)).setCell ⟨g, (a + k) * 3 + 1, none⟩ (.int .i64 y1)).setCell ⟨g, (a + k) * 3 + 2, none⟩ (.int .i64 y2)).ownsRow base 83 3 (.slice (some ⟨g, 0, none⟩) n c) n (eList eUs (L.set (a + k) ⟨y0, y1, y2⟩)) := by
        have h := (((H.out.1.stored ((a + k) * 3) (.int .i64 y0)).1.stored ((a + k) * 3 + 1) (.int .i64 y1)).1.stored ((a + k) * 3 + 2) (.int .i64 y2)).1
        rwa [set3 eUs_len L (a + k) ⟨y0, y1, y2⟩ (by omega) (.int .i64 y0) (.int .i64 y1) (.int .i64 y2) rfl] at h
      have own2 : ((((((wr.setCell ⟨g, (a + k) * 3, none⟩ (.int .i64 y0)).setCell ⟨g, (a + k) * 3 + 1, none⟩ (.int .i64 y1)).setCell ⟨g, (a + k) * 3 + 2, none⟩ (.int .i64 y2)).setCell ⟨g, (b + k) * 3, none⟩ (.int .i64 x0)).setCell ⟨g, (b + k) * 3 + 1, none⟩ (.int .i64 x1)).setCell ⟨g, (b + k) * 3 + 2, none⟩ (.int .i64 x2)).ownsRow base 83 3 (.slice (some ⟨g, 0, none⟩) n c) n (eList eUs ((L.set (a + k) ⟨y0, y1, y2⟩).set (b + k) ⟨x0, x1, x2⟩)) := by
        have h := (((own1.stored ((b + k) * 3) (.int .i64 x0)).1.stored ((b + k) * 3 + 1) (.int .i64 x1)).1.stored ((b + k) * 3 + 2) (.int .i64 x2)).1
        rwa [set3 eUs_len (L.set (a + k) ⟨y0, y1, y2⟩) (b + k) ⟨x0, x1, x2⟩ (by simp; omega) (.int .i64 x0) (.int .i64 x1) (.int .i64 x2) rfl] at h
      have hgr : w.grownBy ((((((wr.setCell ⟨g, (a + k) * 3, none⟩ (.int .i64 y0)).setCell ⟨g, (a + k) * 3 + 1, none⟩ (.int .i64 y1)).setCell ⟨g, (a + k) * 3 + 2, none⟩ (.int .i64 y2)).setCell ⟨g, (b + k) * 3, none⟩ (.int .i64 x0)).setCell ⟨g, (b + k) * 3 + 1, none⟩ (.int .i64 x1)).setCell ⟨g, (b + k) * 3 + 2, none⟩ (.int .i64 x2)) (Value.slice (some ⟨g, 0, none⟩) n c).ownBlock := grown_set (g := g) (grown_set (g := g) (grown_set (g := g) (grown_set (g := g) (grown_set (g := g) (grown_set (g := g) (H.out.2.2) ((a + k) * 3) _) ((a + k) * 3 + 1) _) ((a + k) * 3 + 2) _) ((b + k) * 3) _) ((b + k) * 3 + 1) _) ((b + k) * 3 + 2) _
      have HE := Lib.hid (And.intro own2 hgr)
      clear own1 own2 hgr f0 f1 f2 h0 h1 h2 c0 c1 c2 d0 d1 d2
      go_wp2
      go_roundw
      case rel => exact ⟨k + 1, _, by omega, by go_num, HSN.out, own_drew HE.out.1, grown_drew HE.out.2⟩
      case measure => simp [intOf]; omega
    · have : k = m := by omega
      subst this
      go_wp2
      go_end0
      exact ⟨⟨_, rfl⟩, L, H0.out.1, H0.out.2.1, H0.out.2.2⟩
end Go.Proofs.Ytdjfkehbknbocaa

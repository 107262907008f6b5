/- The walks of the laws' own functions: the example, the uses of blocks that are all different. -/
import Derived.Test.YtdjfkehbknbocaaVictQ
import Derived.Test.YtdjfkehbknbocaaTrip
import Derived.Test.YtdjfkehbknbocaaBook
import Derived.StillTailTactics
namespace Go.Proofs.Ytdjfkehbknbocaa
open Go.RowKit
set_option linter.unusedSimpArgs false
set_option linter.unusedVariables false

def OwnPost (lines : Int) (xs : List Us) (w : World) (e : Ending) (w' : World) : Prop := ∃ A m c, e = .returned (.slice A m c) ∧ w'.ownsRow w.heap.size 83 3 (.slice A m c) m (eList eUs (ownF lines xs)) ∧ Below w.heap.size w w'
set_option maxRecDepth 100000 in
set_option maxHeartbeats 40000000 in
theorem own24_any (lines : Int) (A : Option Addr) (n c : Nat) (xs : List Us) (w : World) (h1 : 1 ≤ lines) (h64 : lines ≤ 64) (hA : Sl eUs 3 w A n xs) (hbd : ∀ x ∈ xs, (-9223372036854775808 ≤ x.mode ∧ x.mode ≤ 9223372036854775807) ∧ -9223372036854775808 ≤ x.valid ∧ x.valid ≤ 9223372036854775807) :
    Calls Try.prog 50 #[.int .i64 lines, .slice A n c] w (OwnPost lines xs w) := by
  have hlen := hA.len
  have hbig := hA.big
  have HA := Lib.hid hA
  clear hA
  have HBD := Lib.hid hbd
  clear hbd
  go_enter Try.func50, Try.ntmps50
  go_wp2
  go_loopw [5, 6] (fun v i wr => ∃ (k : Nat) (A' : Option Addr) (c' : Nat), k ≤ n ∧ k ≤ 64 ∧ i = .int .i64 k ∧ v = .slice A' k c' ∧ Hid (wr.ownsRow w.heap.size 83 3 (.slice A' k c') k (eList eUs ((xs.take k).mapIdx fun i u => (⟨(i : Int), 1 + u.mode % 2, 1 + u.valid % (3 * lines)⟩ : Us))) ∧ Below w.heap.size w wr)) (fun _ i _ => 64 - (intOf i).toNat)
  case atStart => exact ⟨0, none, 0, Nat.zero_le _, by omega, rfl, rfl, World.ownsRow_nil _ _ _ _, Below.refl _ _⟩
  case round =>
    obtain ⟨k, A', c', hk, hk64, rfl, rfl, H⟩ := hrel
    have hend : ∀ W, (k = n ∨ k = 64) → W = wr → OwnPost lines xs w (.returned (.slice A' k c')) W := fun W hkk hW => by
      subst hW
      refine ⟨A', k, c', rfl, ?_, H.out.2⟩
      have e : ownF lines xs = (xs.take k).mapIdx fun i u => (⟨(i : Int), 1 + u.mode % 2, 1 + u.valid % (3 * lines)⟩ : Us) := by
        unfold ownF
        rcases hkk with rfl | rfl
        · rw [List.take_of_length_le (i := 64) (by omega), List.take_of_length_le (i := k) (by omega)]
        · rfl
      rw [e]
      exact H.out.1
    have HEND := Lib.hid hend
    clear hend
    by_cases hlt : k < n
    · by_cases hlt64 : k < 64
      · have hlt1 : (k : Int) < (n : Int) := by omega
        have hlt2 : (k : Int) < 64 := by omega
        obtain ⟨b, off, x, hAe, hb, hx, p0, p1, p2⟩ := HA.out.us_ hlt
        have q1 := (H.out.2.cell (p := ⟨b, off + k * 3 + 1, none⟩) hb).trans p1
        have q2 := (H.out.2.cell (p := ⟨b, off + k * 3 + 2, none⟩) hb).trans p2
        have hxb := HBD.out x (List.mem_of_getElem? hx)
        have hsn := ownF_snoc lines hx
        obtain ⟨x0, x1, x2⟩ := x
        simp only at q1 q2 hxb
        have hne : some b ≠ (Value.slice A' k c').ownBlock := fun e => by have := own_base H.out.1 b e.symm; omega
        have HNE := Lib.hid hne
        clear hne p0 p1 p2
        have hbe1 := fun W => below17_any x1 2 hxb.1 (by omega) (by omega) W
        have hbe2 := fun W => below17_any x2 (3 * lines) hxb.2 (by omega) (by omega) W
        have m1 : 0 ≤ x1 % 2 := Int.emod_nonneg _ (by omega)
        have m2 : x1 % 2 < 2 := Int.emod_lt_of_pos _ (by omega)
        have v1 : 0 ≤ x2 % (3 * lines) := Int.emod_nonneg _ (by omega)
        have v2 : x2 % (3 * lines) < 3 * lines := Int.emod_lt_of_pos _ (by omega)
        generalize x1 % 2 = M at hbe1 m1 m2 hsn
        generalize x2 % (3 * lines) = V at hbe2 v1 v2 hsn
        have HSN := Lib.hid hsn
        have HB1 := Lib.hid hbe1
        have HB2 := Lib.hid hbe2
        subst hAe
        have hbb := H.out.2.size
        clear hx hsn hbe1 hbe2 hxb
        have hw3 : IntKind.i64.wrap (3 * lines) = 3 * lines := by rw [IntKind.wrap_i64]; omega
        have hw4 : IntKind.i64.wrap (1 + M) = 1 + M := by rw [IntKind.wrap_i64]; omega
        have hw5 : IntKind.i64.wrap (1 + V) = 1 + V := by rw [IntKind.wrap_i64]; omega
        go_wp2_with fail
        have hba : w.heap.size ≤ (wr.alloc (.cells #[.int .i64 (k : Int), .int .i64 (1 + M), .int .i64 (1 + V)] 83)).drew.heap.size := by have := H.out.2.size; show _ ≤ (wr.alloc _).heap.size; rw [World.size_alloc]; omega
        have hbe := H.out.2
        go_region_held3 (fun w' => w'.cell? ⟨b, off + k * 3 + 1, none⟩ = some (.int .i64 x1) ∧ w'.cell? ⟨b, off + k * 3 + 2, none⟩ = some (.int .i64 x2)) (first | go_keep | (exact ⟨q1, q2⟩) | (exact ⟨r1, r2⟩))
          (first
            | (go_at_call 25; first | ((with_reducible refine (HB1.out _).mono ?_); rintro e w3 ⟨rfl, rfl⟩) | ((with_reducible refine (HB2.out _).mono ?_); rintro e w4 ⟨rfl, rfl⟩))
            | (refine step_app rfl (.tmp 17) (.tmp 36) 77 rfl Try.underlying77 info_use rfl (by omega) (by omega) rfl (own_drew (H.out.1.alloc (.cells #[.int .i64 (k : Int), .int .i64 (1 + M), .int .i64 (1 + V)] 83))) rfl (heap_alloc_new wr _) rfl (by simp [Value.oneCell']) (by omega) hba ?_; intro g cap w2 hown2 hg hor hlt2; have r1 := (hg.cell_far ⟨b, off + k * 3 + 1, none⟩ (by show b < (wr.alloc _).heap.size; rw [World.size_alloc]; omega) HNE.out).trans (cell_some_alloc _ q1); have r2 := (hg.cell_far ⟨b, off + k * 3 + 2, none⟩ (by show b < (wr.alloc _).heap.size; rw [World.size_alloc]; omega) HNE.out).trans (cell_some_alloc _ q2)))
        have hb2 := (hbe.alloc hbe.size (.cells #[.int .i64 (k : Int), .int .i64 (1 + M), .int .i64 (1 + V)] 83)).drew.grown hg hba (own_base H.out.1)
        have HE := Lib.hid (show w2.ownsRow w.heap.size 83 3 (.slice (some ⟨g, 0, none⟩) (k + 1) cap) (k + 1) (eList eUs ((xs.take (k + 1)).mapIdx fun i u => (⟨(i : Int), 1 + u.mode % 2, 1 + u.valid % (3 * lines)⟩ : Us))) ∧ Below w.heap.size w w2 from ⟨by rw [HSN.out, eList_snoc]; exact hown2, hb2⟩)
        clear hown2 hg hor hlt2 hb2 hba hbe
        go_wp2
        go_roundw
        case rel => exact ⟨k + 1, some ⟨g, 0, none⟩, cap, by omega, by omega, by go_num, rfl, HE.out⟩
        case measure => simp [intOf]; omega
      · have h2 : k = 64 := by omega
        have hlt1 : (k : Int) < (n : Int) := by omega
        have hlt2 : ¬ (k : Int) < 64 := by omega
        have HE := Lib.hid (HEND.out _ (Or.inr h2) rfl)
        subst h2
        go_wp2
        go_ret
        exact HE.out
    · have h2 : k = n := by omega
      have hlt1 : ¬ (k : Int) < (n : Int) := by omega
      have HE := Lib.hid (HEND.out _ (Or.inl h2) rfl)
      subst h2
      go_wp2
      go_ret
      exact HE.out
end Go.Proofs.Ytdjfkehbknbocaa

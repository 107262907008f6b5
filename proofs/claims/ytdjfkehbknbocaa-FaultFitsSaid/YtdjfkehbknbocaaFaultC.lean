/- The walks of one bit turned: package bits' Flip and the reference's. -/
import Derived.Test.YtdjfkehbknbocaaFaultB
namespace Go.Proofs.Ytdjfkehbknbocaa
open Go.RowKit
set_option linter.unusedSimpArgs false
set_option linter.unusedVariables false

set_option maxRecDepth 100000 in
set_option maxHeartbeats 2000000 in
theorem flip_any (s : ByteArray) (q r : Nat) (hs : s.size ≤ 100000) (hq : q < s.size) (hr : r < 8) (w : World) :
    Calls Try.prog 55 #[.string s, .int .i64 ((8 * q + r : Nat) : Int)] w fun e w' => e = .returned (.tuple #[.string (s.extract 0 q ++ strOfNums [bits .xor .u8 ((s[q]'hq).toNat : Int) (2 ^ r % 256)] ++ s.extract (q + 1) s.size), .int .i64 0]) ∧ Below w.heap.size w w' := by
  obtain ⟨k, hk⟩ : ∃ k : Int, k = ((8 * q + r : Nat) : Int) := ⟨_, rfl⟩
  rw [← hk]
  have e1 : (k / 8).toNat = q := by omega
  have e2 : k % 8 = (r : Int) := by omega
  have e3 : (k / 8 + 1).toNat = q + 1 := by omega
  have k0 : 0 ≤ k := by omega
  have k1 : k ≤ 1000000 := by omega
  have q0 : 0 ≤ k / 8 := by omega
  have q1 : k / 8 < (s.size : Int) := by omega
  have q2 : k / 8 ≤ (s.size : Int) := by omega
  have q3 : k / 8 + 1 ≤ (s.size : Int) := by omega
  have q4 : 0 ≤ k / 8 + 1 := by omega
  have q5 : IntKind.i64.wrap (k / 8 + 1) = k / 8 + 1 := by rw [IntKind.wrap_i64]; omega
  clear hk
  have hcat1 : ∀ (X : Int) W, (Op.stringOp .add (s.extract 0 q) (strOfNums [X])).run Try.prog W = .ok (.string (s.extract 0 q ++ strOfNums [X])) W := fun X => cat_run _ _ _ (by rw [ByteArray.size_extract]; show _ + 1 ≤ _; omega)
  have hcat2 : ∀ (X : Int) W, (Op.stringOp .add (s.extract 0 q ++ strOfNums [X]) (s.extract (q + 1) s.size)).run Try.prog W = .ok (.string (s.extract 0 q ++ strOfNums [X] ++ s.extract (q + 1) s.size)) W := fun X => cat_run _ _ _ (by rw [ByteArray.size_append, ByteArray.size_extract, ByteArray.size_extract]; show _ + 1 + _ ≤ _; omega)
  have hcv : ∀ c : Int, (convert 120 9 (.slice (some ⟨w.heap.size, 0, none⟩) 1 1)).run Try.prog (w.alloc (.cells #[.int .u8 c] 5)).drew = .ok (.string (strOfNums [c])) (w.alloc (.cells #[.int .u8 c] 5)).drew := fun c =>
    run_convert_bytes_arg _ _ _ Try.underlying120 Try.underlying5 _ 0 1 1 [c] rfl (fun i hi => by
      obtain rfl : i = 0 := by simp at hi; omega
      exact (Blk.new w 5 #[.int .u8 c]).cell 0) _ Try.underlying9
  go_enter Try.func55, Try.ntmps55
  go_wp2
  go_region
  go_wp2
  go_ret2
  exact ⟨rfl, by ((try change Below _ _ _); (repeat (any_goals (first | (with_reducible exact Below.refl _ _) | (with_reducible exact Below.refl _ _) | (with_reducible apply Below.drew) | (with_reducible apply below_drewN) | (with_reducible refine Below.alloc ?_ ?_ _) | (with_reducible refine Below.setCell ?_ ?_ _)))); all_goals (first | exact Nat.le_refl _ | (simp; done) | (simp; omega) | omega | (dsimp only; omega)))⟩

theorem pow_bd : ∀ n : Nat, n < 64 → (2 : Int) ^ n ≤ 9223372036854775808 ∧ 1 ≤ (2 : Int) ^ n := by
  intro n hn
  have h : ∀ m : Fin 64, (2 : Int) ^ m.val ≤ 9223372036854775808 ∧ 1 ≤ (2 : Int) ^ m.val := by decide +kernel
  exact h ⟨n, hn⟩
set_option maxHeartbeats 2000000 in
theorem power_any (n : Nat) (hn : n < 8) (w : World) : Calls Try.prog 80 #[.int .i64 n] w fun e w' => e = .returned (.int .u64 (2 ^ n)) ∧ w = w' := by
  have hpow : ∀ m : Nat, m < 9 → (2 : Int) ^ m ≤ 256 ∧ 1 ≤ (2 : Int) ^ m := by
    intro m hm
    have h : ∀ m : Fin 9, (2 : Int) ^ m.val ≤ 256 ∧ 1 ≤ (2 : Int) ^ m.val := by decide +kernel
    exact h ⟨m, hm⟩
  have HP := Lib.hid hpow
  clear hpow
  go_enter Try.func80, Try.ntmps80
  go_wp2
  go_loop [3, 4] (fun p i => ∃ j : Nat, ∃ v : Int, j ≤ n ∧ i = .int .i64 j ∧ p = .int .u64 v ∧ Hid (v = 2 ^ j)) (fun _ i => n - (intOf i).toNat)
  case atStart => exact ⟨0, 1, Nat.zero_le _, rfl, rfl, rfl⟩
  case round =>
    obtain ⟨j, v, hj, rfl, rfl, HV⟩ := hrel
    have hb := HP.out j (by omega)
    rw [← HV.out] at hb
    obtain ⟨b1, b2⟩ := hb
    by_cases hlt : j < n
    · go_wp2
      go_round
      case rel => exact ⟨j + 1, v * 2, by omega, by go_num, rfl, by show v * 2 = 2 ^ (j + 1); rw [HV.out, Int.pow_succ]⟩
      case measure => simp [intOf]; omega
    · have : j = n := by omega
      subst this
      go_wp2
      go_ret
      exact ⟨by rw [← HV.out]; rfl, rfl⟩
theorem bit_any (v : Int) (k : Nat) (hk : k < 8) (hv : 0 ≤ v) (hv' : v ≤ 255) (w : World) : Calls Try.prog 81 #[.int .u64 v, .int .i64 k] w fun e w' => e = .returned (.int .u64 (v / 2 ^ k % 2)) ∧ w = w' := by
  have hb := pow_bd k (by omega)
  have hp := fun W => power_any k hk W
  obtain ⟨p, hpp⟩ : ∃ p : Int, p = 2 ^ k := ⟨_, rfl⟩
  rw [← hpp] at hb hp
  obtain ⟨b1, b2⟩ := hb
  have d1 : 0 ≤ v / p := Int.ediv_nonneg hv (by omega)
  have d2 : v / p ≤ 255 := Int.le_trans (Int.ediv_le_self _ hv) hv'
  have HPP := Lib.hid hpp
  have HP := Lib.hid hp
  clear hpp hp
  go_enter Try.func81, Try.ntmps81
  go_wp2_with (go_at_call 80; refine (HP.out _).mono ?_; rintro e w1 ⟨rfl, rfl⟩)
  go_ret
  exact ⟨by rw [← HPP.out]; rfl, rfl⟩
end Go.Proofs.Ytdjfkehbknbocaa

/- The walks of one bit turned: package bits' Flip and the reference's. -/
import Derived.Test.YtdjfkehbknbocabFaultB
namespace Go.Proofs.Ytdjfkehbknbocab
open Go.RowKit
set_option linter.unusedSimpArgs false
set_option linter.unusedVariables false

theorem pow_bd : ∀ n : Nat, n < 64 → (2 : Int) ^ n ≤ 9223372036854775808 ∧ 1 ≤ (2 : Int) ^ n := by
  intro n hn
  have h : ∀ m : Fin 64, (2 : Int) ^ m.val ≤ 9223372036854775808 ∧ 1 ≤ (2 : Int) ^ m.val := by decide +kernel
  exact h ⟨n, hn⟩
end Go.Proofs.Ytdjfkehbknbocab

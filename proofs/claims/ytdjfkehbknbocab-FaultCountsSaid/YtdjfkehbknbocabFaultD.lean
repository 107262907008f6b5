/- The walk of the reference's Flip; both flips are one. -/
import Derived.Test.YtdjfkehbknbocabFaultC
namespace Go.Proofs.Ytdjfkehbknbocab
open Go.RowKit
set_option linter.unusedSimpArgs false
set_option linter.unusedVariables false

def nums8 (s : ByteArray) : List Int := s.data.toList.map fun b => (b.toNat : Int)
theorem nums8_get (s : ByteArray) (i : Nat) (h : i < s.size) : (nums8 s)[i]? = some ((s[i]'h).toNat : Int) := by
  simp only [nums8, List.getElem?_map]
  rw [List.getElem?_eq_getElem (by simpa using h)]
  rfl
theorem xor_bit : ∀ (x : Fin 256) (r : Fin 8), bits .xor .u8 (x.val : Int) (2 ^ r.val % 256) = if (x.val : Int) / 2 ^ r.val % 2 = 1 then (x.val : Int) - 2 ^ r.val else x.val + 2 ^ r.val := by decide +kernel
theorem bit_fits : ∀ (x : Fin 256) (r : Fin 8), ((x.val : Int) / 2 ^ r.val % 2 = 1 → 0 ≤ (x.val : Int) - 2 ^ r.val) ∧ (¬ (x.val : Int) / 2 ^ r.val % 2 = 1 → (x.val : Int) + 2 ^ r.val ≤ 255) := by decide +kernel
theorem pow8 : ∀ r : Fin 8, (2 : Int) ^ r.val ≤ 128 ∧ 1 ≤ (2 : Int) ^ r.val ∧ (2 : Int) ^ r.val % 256 = 2 ^ r.val := by decide +kernel
theorem strOf_set (s : ByteArray) (q : Nat) (h : q < s.size) (y : Int) : strOfNums ((nums8 s).set q y) = s.extract 0 q ++ strOfNums [y] ++ s.extract (q + 1) s.size := by
  apply ByteArray.ext
  simp only [ByteArray.data_append, ByteArray.data_extract, strOfNums]
  apply Array.toList_inj.1
  have e : ∀ l : List UInt8, (l.map fun b => (b.toNat : Int)).map (fun n => UInt8.ofNat n.toNat) = l := fun l => by
    rw [List.map_map]
    have : ((fun n : Int => UInt8.ofNat n.toNat) ∘ fun b : UInt8 => (b.toNat : Int)) = id := by
      funext b
      simp
    rw [this, List.map_id]
  have hl : q < s.data.toList.length := by simpa using h
  simp only [Array.toList_append, Array.toList_extract, nums8]
  rw [List.map_set, e, List.set_eq_take_append_cons_drop, if_pos hl]
  have hsz : s.size = s.data.toList.length := by simp
  simp only [List.map_cons, List.map_nil, List.extract_eq_take_drop, Nat.sub_zero, List.drop_zero]
  have e2 : List.take (s.size - (q + 1)) (List.drop (q + 1) s.data.toList) = List.drop (q + 1) s.data.toList := List.take_of_length_le (by simp)
  rw [e2]
  simp

/-- A page with one bit turned. -/
def flipS (s : ByteArray) (a : Int) : ByteArray :=
  let k := (a % (8 * s.size : Int)).toNat
  if h : k / 8 < s.size then s.extract 0 (k / 8) ++ strOfNums [bits .xor .u8 ((s[k / 8]'h).toNat : Int) (2 ^ (k % 8) % 256)] ++ s.extract (k / 8 + 1) s.size else s
theorem flipS_of (s : ByteArray) (a : Int) (h0 : 0 < s.size) : ∃ q r : Nat, ∃ hq : q < s.size, r < 8 ∧ a % (8 * s.size : Int) = ((8 * q + r : Nat) : Int) ∧ flipS s a = s.extract 0 q ++ strOfNums [bits .xor .u8 ((s[q]'hq).toNat : Int) (2 ^ r % 256)] ++ s.extract (q + 1) s.size := by
  have h1 := Int.emod_nonneg a (show (8 * s.size : Int) ≠ 0 by omega)
  have h2 := Int.emod_lt_of_pos a (show (0 : Int) < 8 * s.size by omega)
  obtain ⟨k, hk⟩ := Int.eq_ofNat_of_zero_le h1
  have hq : k / 8 < s.size := by omega
  refine ⟨k / 8, k % 8, hq, by omega, by rw [hk]; omega, ?_⟩
  have e : (a % (8 * s.size : Int)).toNat = k := by rw [hk]; rfl
  unfold flipS
  simp only [e]
  rw [dif_pos hq]
theorem flipS_empty (s : ByteArray) (a : Int) (h0 : s.size = 0) : flipS s a = s := by
  unfold flipS
  simp only
  rw [dif_neg (by omega)]
theorem tmod_lo {x n : Int} (hn : 0 < n) : -n < x.tmod n ∧ x.tmod n < n := by
  have b1 := Int.tmod_lt_of_pos x hn
  have e := Int.tmod_eq_emod (a := x) (b := n)
  have h1 := Int.emod_nonneg x (by omega : n ≠ 0)
  split at e <;> omega
theorem tmod_twice {x n : Int} (hn : 0 < n) : (x.tmod n + n).tmod n = x % n := by
  have hb := tmod_lo (x := x) hn
  rw [Int.tmod_eq_emod_of_nonneg (by omega), Int.add_emod_right]
  have e := Int.tmod_eq_emod (a := x) (b := n)
  split at e
  · rw [e, Int.ofNat_zero, Int.sub_zero, Int.emod_emod_of_dvd _ (Int.dvd_refl n)]
  · rw [e]
    have : ((n.natAbs : Nat) : Int) = n := by omega
    rw [this, Int.sub_emod_right, Int.emod_emod_of_dvd _ (Int.dvd_refl n)]
theorem tmod_emod {x n : Int} (hn : 0 < n) : x.tmod n % n = x % n := by
  have e := Int.tmod_eq_emod (a := x) (b := n)
  split at e
  · rw [e, Int.ofNat_zero, Int.sub_zero, Int.emod_emod_of_dvd _ (Int.dvd_refl n)]
  · rw [e]
    have : ((n.natAbs : Nat) : Int) = n := by omega
    rw [this, Int.sub_emod_right, Int.emod_emod_of_dvd _ (Int.dvd_refl n)]
theorem tmod_fix {x n : Int} (hn : 0 < n) : (if x.tmod n < 0 then x.tmod n + n else x.tmod n) = x % n := by
  have e := Int.tmod_eq_emod (a := x) (b := n)
  have h1 := Int.emod_nonneg x (by omega : n ≠ 0)
  have h2 := Int.emod_lt_of_pos x hn
  split at e <;> split <;> omega

end Go.Proofs.Ytdjfkehbknbocab

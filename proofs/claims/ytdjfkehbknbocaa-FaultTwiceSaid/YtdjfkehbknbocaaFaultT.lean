/- The walk of FaultTwice. -/
import Derived.Test.YtdjfkehbknbocaaFaultE
namespace Go.Proofs.Ytdjfkehbknbocaa
open Go.RowKit
set_option linter.unusedSimpArgs false
set_option linter.unusedVariables false

theorem nums8_len (s : ByteArray) : (nums8 s).length = s.size := by simp [nums8]
theorem strOf_len (xs : List Int) : (strOfNums xs).size = xs.length := by simp [strOfNums, ByteArray.size]
theorem strOf_nums (s : ByteArray) : strOfNums (nums8 s) = s := by
  apply ByteArray.ext
  simp only [strOfNums, nums8]
  apply Array.toList_inj.1
  rw [List.map_map]
  have : ((fun n : Int => UInt8.ofNat n.toNat) ∘ fun b : UInt8 => (b.toNat : Int)) = id := by
    funext b
    simp
  rw [this, List.map_id]
theorem nums_strOf (xs : List Int) (h : ∀ x ∈ xs, 0 ≤ x ∧ x ≤ 255) : nums8 (strOfNums xs) = xs := by
  simp only [nums8, strOfNums]
  rw [List.map_map]
  conv => rhs; rw [← List.map_id xs]
  apply List.map_congr_left
  intro x hx
  obtain ⟨h0, h1⟩ := h x hx
  simp
  omega
theorem nums8_bd (s : ByteArray) : ∀ x ∈ nums8 s, 0 ≤ x ∧ x ≤ 255 := by
  intro x hx
  simp only [nums8, List.mem_map] at hx
  obtain ⟨b, _, rfl⟩ := hx
  have := b.toNat_lt
  omega
theorem xor_twice : ∀ (x : Fin 256) (r : Fin 8), bits .xor .u8 (bits .xor .u8 (x.val : Int) (2 ^ r.val % 256)) (2 ^ r.val % 256) = x.val ∧ bits .xor .u8 (x.val : Int) (2 ^ r.val % 256) ≠ x.val ∧ 0 ≤ bits .xor .u8 (x.val : Int) (2 ^ r.val % 256) ∧ bits .xor .u8 (x.val : Int) (2 ^ r.val % 256) ≤ 255 := by decide +kernel
/-- Turned: the same length; turned again it is as it was; it differs. -/
theorem flipS_twice (s : ByteArray) (a : Int) : (flipS s a).size = s.size ∧ flipS (flipS s a) a = s ∧ (0 < s.size → flipS s a ≠ s) := by
  by_cases h0 : s.size = 0
  · rw [flipS_empty s a h0]
    exact ⟨rfl, flipS_empty s a h0, fun h => by omega⟩
  · obtain ⟨q, r, hq, hr, ha, hf⟩ := flipS_of s a (by omega)
    rw [← strOf_set s q hq] at hf
    have hx8 := (s[q]'hq).toNat_lt
    have hx := xor_twice ⟨(s[q]'hq).toNat, by omega⟩ ⟨r, hr⟩
    have hget := nums8_get s q hq
    simp only at hx
    generalize ((s[q]'hq).toNat : Int) = x at *
    generalize bits .xor .u8 x (2 ^ r % 256) = y at hx hf
    obtain ⟨x1, x2, x3, x4⟩ := hx
    have hbd : ∀ z ∈ (nums8 s).set q y, 0 ≤ z ∧ z ≤ 255 := fun z hz => by
      rcases List.mem_or_eq_of_mem_set hz with h | rfl
      · exact nums8_bd s z h
      · exact ⟨x3, x4⟩
    have hsz : (flipS s a).size = s.size := by rw [hf, strOf_len, List.length_set, nums8_len]
    have hn : nums8 (flipS s a) = (nums8 s).set q y := by rw [hf]; exact nums_strOf _ hbd
    refine ⟨hsz, ?_, fun _ he => ?_⟩
    · obtain ⟨q', r', hq', hr', ha', hf'⟩ := flipS_of (flipS s a) a (by omega)
      rw [hsz, ha] at ha'
      obtain rfl : q' = q := by omega
      obtain rfl : r' = r := by omega
      rw [hf', ← strOf_set (flipS s a) q' hq', hn]
      have hg := nums8_get (flipS s a) q' hq'
      rw [hn, List.getElem?_set_self (by rw [nums8_len]; exact hq)] at hg
      injection hg with hg
      rw [← hg, x1, List.set_set]
      have : (nums8 s).set q' x = nums8 s := by
        apply List.ext_getElem?
        intro i
        rw [List.getElem?_set]
        by_cases e : q' = i
        · subst e; rw [if_pos rfl, if_pos (by rw [nums8_len]; exact hq), hget]
        · rw [if_neg e]
      rw [this, strOf_nums]
    · rw [he] at hn
      have hg := hget
      rw [hn, List.getElem?_set_self (by rw [nums8_len]; exact hq)] at hg
      injection hg with hg
      exact x2 hg

set_option maxRecDepth 100000 in
set_option maxHeartbeats 4000000 in
theorem twice_walk (s : ByteArray) (x : Ft) (w : World) (hsz : s.size ≤ 9223372036854775807) :
    Calls Try.prog 4 #[.string s, x.agg] w fun e w' => e = .returned (.bool true) ∧ Below w.heap.size w w' := by
  have hf := fun t W ht => flipped_any t x ht W
  obtain ⟨x0, x1, a, x3⟩ := x
  simp only [Ft.agg] at hf ⊢
  by_cases c1 : 1000 < s.size
  · have c1' : (1000 : Int) < (s.size : Int) := by omega
    have HF := Lib.hid hf
    clear hf
    go_enter Try.func4, Try.ntmps4
    go_wp2_with fail
    refine (works09 _).mono ?_
    rintro e w1 ⟨rfl, hb1⟩
    have hw1 : Below w.heap.size w w1 := ((Below.refl _ w).alloc (Nat.le_refl _) _).trans (hb1.mono (by simp))
    have HW1 := Lib.hid hw1
    clear hw1
    clear hb1
    go_wp2
    go_ret
    exact ⟨rfl, HW1.out⟩
  have c1' : ¬ (1000 : Int) < (s.size : Int) := by omega
  obtain ⟨t1, t2, t3⟩ := flipS_twice s a
  have f1 := fun W => hf s W (by omega)
  have f2 := fun W => hf (flipS s a) W (by omega)
  rw [t2] at f2
  have hcmp : ((flipS s a).toList == s.toList) = s.toList.isEmpty := by
    rw [ByteArray.toList_eq, ByteArray.toList_eq]
    by_cases h0 : s.size = 0
    · rw [flipS_empty s a h0]
      have : s.data.toList = [] := List.eq_nil_of_length_eq_zero (by simpa using h0)
      rw [this]
      rfl
    · have hn := t3 (by omega)
      have : s.data.toList.isEmpty = false := by
        cases hl : s.data.toList with
        | nil =>
          exfalso
          apply h0
          have : s.data.toList.length = s.size := by simp
          rw [hl] at this
          simpa using this.symm
        | cons => rfl
      rw [this, beq_eq_false_iff_ne]
      intro e
      exact hn (ByteArray.ext (Array.toList_inj.1 e))
  generalize flipS s a = t at *
  have T1 := Lib.hid t1
  have F1 := Lib.hid f1
  clear f1
  have F2 := Lib.hid f2
  clear f2
  clear hf t1 t2 t3
  go_enter Try.func4, Try.ntmps4
  go_wp2_with fail
  refine (works09 _).mono ?_
  rintro e w1 ⟨rfl, hb1⟩
  have hk1 : Blk w1 w.heap.size 26 #[.int .i64 x0, .int .i64 x1, .int .i64 a, .int .i64 x3] := (Blk.new w _ _).below_ hb1
  have hw1 : Below w.heap.size w w1 := below_tr ((Below.refl _ w).alloc (Nat.le_refl _) _) hb1
  have c0 := (hk1.cell 0).trans rfl
  have c1 := (hk1.cell 1).trans rfl
  have c2 := (hk1.cell 2).trans rfl
  have c3 := (hk1.cell 3).trans rfl
  have HK1 := Lib.hid hk1
  have HW1 := Lib.hid hw1
  clear hw1
  clear hb1 hk1
  go_wp2_with fail
  refine (F1.out _).mono ?_
  rintro e w2 ⟨rfl, hb2⟩
  have hk2 := HK1.out.below_ hb2
  have hw2 := below_tr HW1.out hb2
  clear c0 c1 c2 c3
  have c0 := (hk2.cell 0).trans rfl
  have c1 := (hk2.cell 1).trans rfl
  have c2 := (hk2.cell 2).trans rfl
  have c3 := (hk2.cell 3).trans rfl
  have HW2 := Lib.hid hw2
  clear hw2
  clear hb2 hk2
  go_wp2_with fail
  refine (F2.out _).mono ?_
  rintro e w3 ⟨rfl, hb3⟩
  have hw3 := below_tr HW2.out hb3
  have HW3 := Lib.hid hw3
  clear hw3
  clear hb3
  go_wp2
  go_ret
  exact ⟨by rw [T1.out] <;> simp, HW3.out⟩
end Go.Proofs.Ytdjfkehbknbocaa

/- The walk of the reference's Flip; both flips are one. -/
import Derived.Test.YtdjfkehbknbocaaFaultC
namespace Go.Proofs.Ytdjfkehbknbocaa
open Go.RowKit
set_option linter.unusedSimpArgs false
set_option linter.unusedVariables false

def nums8 (s : ByteArray) : List Int := s.data.toList.map fun b => (b.toNat : Int)
theorem nums8_get (s : ByteArray) (i : Nat) (h : i < s.size) : (nums8 s)[i]? = some ((s[i]'h).toNat : Int) := by
  simp only [nums8, List.getElem?_map]
  rw [List.getElem?_eq_getElem (by simpa using h)]
  rfl
theorem xor_bit : ∀ (x : Fin 256) (r : Fin 8), bits .xor .u8 (x.val : Int) (2 ^ r.val % 256) = if (x.val : Int) / 2 ^ r.val % 2 = 1 then (x.val : Int) - 2 ^ r.val else x.val + 2 ^ r.val := by decide +kernel
theorem bit_fits : ∀ (x : Fin 256) (r : Fin 8), ((x.val : Int) / 2 ^ r.val % 2 = 1 → 0 ≤ (x.val : Int) - 2 ^ r.val) ∧ (¬ (x.val : Int) / 2 ^ r.val % 2 = 1 → (x.val : Int) + 2 ^ r.val ≤ 255) := by decide +kernel
theorem pow8 : ∀ r : Fin 8, (2 : Int) ^ r.val ≤ 128 ∧ 1 ≤ (2 : Int) ^ r.val ∧ (2 : Int) ^ r.val % 256 = 2 ^ r.val := by decide +kernel
theorem strOf_set (s : ByteArray) (q : Nat) (h : q < s.size) (y : Int) : strOfNums ((nums8 s).set q y) = s.extract 0 q ++ strOfNums [y] ++ s.extract (q + 1) s.size := by
  apply ByteArray.ext
  simp only [ByteArray.data_append, ByteArray.data_extract, strOfNums]
  apply Array.toList_inj.1
  have e : ∀ l : List UInt8, (l.map fun b => (b.toNat : Int)).map (fun n => UInt8.ofNat n.toNat) = l := fun l => by
    rw [List.map_map]
    have : ((fun n : Int => UInt8.ofNat n.toNat) ∘ fun b : UInt8 => (b.toNat : Int)) = id := by
      funext b
      simp
    rw [this, List.map_id]
  have hl : q < s.data.toList.length := by simpa using h
  simp only [Array.toList_append, Array.toList_extract, nums8]
  rw [List.map_set, e, List.set_eq_take_append_cons_drop, if_pos hl]
  have hsz : s.size = s.data.toList.length := by simp
  simp only [List.map_cons, List.map_nil, List.extract_eq_take_drop, Nat.sub_zero, List.drop_zero]
  have e2 : List.take (s.size - (q + 1)) (List.drop (q + 1) s.data.toList) = List.drop (q + 1) s.data.toList := List.take_of_length_le (by simp)
  rw [e2]
  simp

set_option maxRecDepth 100000 in
set_option maxHeartbeats 4000000 in
theorem refFlip_any (s : ByteArray) (q r : Nat) (hs : s.size ≤ 100000) (hq : q < s.size) (hr : r < 8) (w : World) :
    Calls Try.prog 56 #[.string s, .int .i64 ((8 * q + r : Nat) : Int)] w fun e w' => e = .returned (.tuple #[.string (s.extract 0 q ++ strOfNums [bits .xor .u8 ((s[q]'hq).toNat : Int) (2 ^ r % 256)] ++ s.extract (q + 1) s.size), .int .i64 0]) ∧ Below w.heap.size w w' := by
  rw [← strOf_set s q hq]
  obtain ⟨x, hx⟩ : ∃ x : Int, x = ((s[q]'hq).toNat : Int) := ⟨_, rfl⟩
  have hx8 := (s[q]'hq).toNat_lt
  have hxor := xor_bit ⟨(s[q]'hq).toNat, by omega⟩ ⟨r, hr⟩
  have hfit := bit_fits ⟨(s[q]'hq).toNat, by omega⟩ ⟨r, hr⟩
  have hp8 := pow8 ⟨r, hr⟩
  simp only at hxor hfit hp8
  rw [← hx] at hxor hfit ⊢
  have hpw := fun W => power_any r hr W
  have hbt := fun W => bit_any x r hr (by omega) (by omega) W
  have hcell : (Lib.bytesWorld w 5 s).cell? ⟨w.heap.size, q, none⟩ = some (.int .u8 x) := by
    rw [Lib.bytesWorld_cell w _ s q hq, hx, List.getD_eq_getElem?_getD, List.getElem?_eq_getElem (by simpa using hq)]
    rfl
  have hfro : (Lib.bytesWorld w 5 s).frozen? ⟨w.heap.size, q, none⟩ = false := by
    have hsz : s.size ≤ (Lib.bytesCells w 5 s).size := by simp [Lib.bytesCells]
    simp [World.frozen?, Lib.bytesWorld_at_new]
    omega
  have hcv1 : (convert 9 120 (.string s)).run Try.prog w = .ok (.slice (some ⟨w.heap.size, 0, none⟩) s.size (grownCap w s.size 0 5)) (Lib.bytesWorld w 5 s) := Lib.run_convert_string_bytes w _ _ _ s Try.underlying9 Try.underlying120 Try.underlying5
  have hcv2 : ∀ (Y : Int) (cap : Nat), (convert 120 9 (.slice (some ⟨w.heap.size, 0, none⟩) s.size cap)).run Try.prog ((Lib.bytesWorld w 5 s).setCell ⟨w.heap.size, q, none⟩ (.int .u8 Y)) = .ok (.string (strOfNums ((nums8 s).set q Y))) ((Lib.bytesWorld w 5 s).setCell ⟨w.heap.size, q, none⟩ (.int .u8 Y)) := fun Y cap =>
    run_convert_bytes_arg _ _ _ Try.underlying120 Try.underlying5 _ 0 s.size cap _ (by simp [nums8]) (fun i hi => by
      have hgd : ((nums8 s).set q Y).getD i 0 = if q = i then Y else ((s.data.toList.getD i 0).toNat : Int) := by
        rw [List.getD_eq_getElem?_getD, List.getElem?_set]
        by_cases e : q = i
        · subst e; simp [nums8, hi]
        · rw [if_neg e, if_neg e]; simp [nums8, hi]
      rw [hgd, Nat.zero_add]
      by_cases e : q = i
      · subst e
        rw [if_pos rfl]
        exact World.cell?_setCell_same' _ _ _ (by rw [hcell]; rfl)
      · rw [if_neg e]
        exact (World.cell?_setCell_other _ _ _ _ (by intro h; injection h with _ h; exact e h)).trans (Lib.bytesWorld_cell w _ s i hi)) _ Try.underlying9
  have hbel : Below w.heap.size w (Lib.bytesWorld w 5 s) := ⟨rfl, rfl, rfl, by rw [Lib.bytesWorld_size]; omega, fun j hj => Lib.bytesWorld_at_old w _ s j hj⟩
  obtain ⟨k, hk⟩ : ∃ k : Int, k = ((8 * q + r : Nat) : Int) := ⟨_, rfl⟩
  rw [← hk]
  have e1 : (k / 8).toNat = q := by omega
  have e2 : k % 8 = (r : Int) := by omega
  have k0 : 0 ≤ k := by omega
  have k1 : k ≤ 1000000 := by omega
  have q0 : 0 ≤ k / 8 := by omega
  have q1 : k / 8 < (s.size : Int) := by omega
  have x0 : 0 ≤ x := by omega
  have x1 : x ≤ 255 := by omega
  clear hk
  obtain ⟨p, hpp⟩ : ∃ p : Int, p = 2 ^ r := ⟨_, rfl⟩
  rw [hp8.2.2] at hxor ⊢
  rw [← hpp] at hxor hp8 hpw hbt hfit ⊢
  obtain ⟨p1, p2, _⟩ := hp8
  have HPP := Lib.hid hpp
  have HX := Lib.hid hx
  have HPW := Lib.hid hpw
  clear hpw
  have HBT := Lib.hid hbt
  clear hbt
  have HBEL := Lib.hid hbel
  clear hbel
  clear hpp hx
  by_cases hb : x / p % 2 = 1
  · rw [if_pos hb] at hxor
    have hf := hfit.1 hb
    have hbb : (x / p % 2 == 1) = true := by simpa using hb
    have HXOR := Lib.hid hxor
    clear hxor hfit hb
    go_enter Try.func56, Try.ntmps56
    go_wp2_with (first | (go_at_call 80; refine (HPW.out _).mono ?_; rintro e w1 ⟨rfl, rfl⟩) | (go_at_call 81; refine (HBT.out _).mono ?_; rintro e w1 ⟨rfl, rfl⟩))
    go_ret2
    exact ⟨by rw [HXOR.out]; rfl, HBEL.out.setCell (Nat.le_refl _) _⟩
  · rw [if_neg hb] at hxor
    have hf := hfit.2 hb
    have hbb : (x / p % 2 == 1) = false := by simpa using hb
    have HXOR := Lib.hid hxor
    clear hxor hfit hb
    go_enter Try.func56, Try.ntmps56
    go_wp2_with (first | (go_at_call 80; refine (HPW.out _).mono ?_; rintro e w1 ⟨rfl, rfl⟩) | (go_at_call 81; refine (HBT.out _).mono ?_; rintro e w1 ⟨rfl, rfl⟩))
    go_ret2
    exact ⟨by rw [HXOR.out]; rfl, HBEL.out.setCell (Nat.le_refl _) _⟩

/-- A page with one bit turned. -/
def flipS (s : ByteArray) (a : Int) : ByteArray :=
  let k := (a % (8 * s.size : Int)).toNat
  if h : k / 8 < s.size then s.extract 0 (k / 8) ++ strOfNums [bits .xor .u8 ((s[k / 8]'h).toNat : Int) (2 ^ (k % 8) % 256)] ++ s.extract (k / 8 + 1) s.size else s
theorem flipS_of (s : ByteArray) (a : Int) (h0 : 0 < s.size) : ∃ q r : Nat, ∃ hq : q < s.size, r < 8 ∧ a % (8 * s.size : Int) = ((8 * q + r : Nat) : Int) ∧ flipS s a = s.extract 0 q ++ strOfNums [bits .xor .u8 ((s[q]'hq).toNat : Int) (2 ^ r % 256)] ++ s.extract (q + 1) s.size := by
  have h1 := Int.emod_nonneg a (show (8 * s.size : Int) ≠ 0 by omega)
  have h2 := Int.emod_lt_of_pos a (show (0 : Int) < 8 * s.size by omega)
  obtain ⟨k, hk⟩ := Int.eq_ofNat_of_zero_le h1
  have hq : k / 8 < s.size := by omega
  refine ⟨k / 8, k % 8, hq, by omega, by rw [hk]; omega, ?_⟩
  have e : (a % (8 * s.size : Int)).toNat = k := by rw [hk]; rfl
  unfold flipS
  simp only [e]
  rw [dif_pos hq]
theorem flipS_empty (s : ByteArray) (a : Int) (h0 : s.size = 0) : flipS s a = s := by
  unfold flipS
  simp only
  rw [dif_neg (by omega)]
theorem tmod_lo {x n : Int} (hn : 0 < n) : -n < x.tmod n ∧ x.tmod n < n := by
  have b1 := Int.tmod_lt_of_pos x hn
  have e := Int.tmod_eq_emod (a := x) (b := n)
  have h1 := Int.emod_nonneg x (by omega : n ≠ 0)
  split at e <;> omega
theorem tmod_twice {x n : Int} (hn : 0 < n) : (x.tmod n + n).tmod n = x % n := by
  have hb := tmod_lo (x := x) hn
  rw [Int.tmod_eq_emod_of_nonneg (by omega), Int.add_emod_right]
  have e := Int.tmod_eq_emod (a := x) (b := n)
  split at e
  · rw [e, Int.ofNat_zero, Int.sub_zero, Int.emod_emod_of_dvd _ (Int.dvd_refl n)]
  · rw [e]
    have : ((n.natAbs : Nat) : Int) = n := by omega
    rw [this, Int.sub_emod_right, Int.emod_emod_of_dvd _ (Int.dvd_refl n)]
theorem tmod_emod {x n : Int} (hn : 0 < n) : x.tmod n % n = x % n := by
  have e := Int.tmod_eq_emod (a := x) (b := n)
  split at e
  · rw [e, Int.ofNat_zero, Int.sub_zero, Int.emod_emod_of_dvd _ (Int.dvd_refl n)]
  · rw [e]
    have : ((n.natAbs : Nat) : Int) = n := by omega
    rw [this, Int.sub_emod_right, Int.emod_emod_of_dvd _ (Int.dvd_refl n)]
theorem tmod_fix {x n : Int} (hn : 0 < n) : (if x.tmod n < 0 then x.tmod n + n else x.tmod n) = x % n := by
  have e := Int.tmod_eq_emod (a := x) (b := n)
  have h1 := Int.emod_nonneg x (by omega : n ≠ 0)
  have h2 := Int.emod_lt_of_pos x hn
  split at e <;> split <;> omega

set_option maxHeartbeats 2000000 in
theorem flipped_any (s : ByteArray) (x : Ft) (hs : s.size ≤ 100000) (w : World) : Calls Try.prog 18 #[.string s, x.agg] w fun e w' => e = .returned (.string (flipS s x.a)) ∧ Below w.heap.size w w' := by
  obtain ⟨x0, x1, a, x3⟩ := x
  simp only [Ft.agg]
  by_cases h0 : s.size = 0
  · have hr := flipS_empty s a h0
    have h0' : (8 * (s.size : Int) == 0) = true := by simp; omega
    have HR := Lib.hid hr
    clear hr
    have H0 := Lib.hid h0
    clear h0
    go_enter Try.func18, Try.ntmps18
    go_wp2
    go_ret
    exact ⟨by rw [HR.out]; rfl, by ((try change Below _ _ _); (repeat (any_goals (first | (with_reducible exact Below.refl _ _) | (with_reducible exact Below.refl _ _) | (with_reducible apply Below.drew) | (with_reducible apply below_drewN) | (with_reducible refine Below.alloc ?_ ?_ _) | (with_reducible refine Below.setCell ?_ ?_ _)))); all_goals (first | exact Nat.le_refl _ | (simp; done) | (simp; omega) | omega | (dsimp only; omega)))⟩
  · obtain ⟨q, r, hq, hr, ha, hf⟩ := flipS_of s a (by omega)
    have hcall := fun W => flip_any s q r hs hq hr W
    rw [← hf, ← ha] at hcall
    have ht := tmod_twice (x := a) (n := 8 * s.size) (by omega)
    have hb := tmod_lo (x := a) (n := 8 * s.size) (by omega)
    obtain ⟨hb1, hb2⟩ := hb
    have h0' : (8 * (s.size : Int) == 0) = false := beq_eq_false_iff_ne.2 (by omega)
    have ht2 : a.tmod (8 * s.size) % (8 * s.size) = a % (8 * s.size) := tmod_emod (by omega)
    rw [← ht2] at hcall
    have HC := Lib.hid hcall
    clear hcall hf ha ht ht2
    have h0'' := Nat.pos_of_ne_zero h0
    clear h0
    go_enter Try.func18, Try.ntmps18
    go_wp2_with fail
    refine (HC.out _).mono ?_
    rintro e w1 ⟨rfl, hb⟩
    have hw := below_tr ((Below.refl _ w).alloc (Nat.le_refl _) _) hb
    have HW := Lib.hid hw
    clear hw
    clear hb
    go_wp2
    go_ret
    exact ⟨rfl, HW.out⟩

theorem rest_any (a n : Int) (hn : 0 < n) (hn' : n ≤ 1000000000) (ha : -9223372036854775808 ≤ a) (ha' : a ≤ 9223372036854775807) (w : World) : Calls Try.prog 57 #[.int .i64 a, .int .i64 n] w fun e w' => e = .returned (.int .i64 (a % n)) ∧ w = w' := by
  have hb := tmod_lo (x := a) hn
  obtain ⟨hb1, hb2⟩ := hb
  have hr := tmod_fix (x := a) hn
  by_cases h : a.tmod n < 0
  · rw [if_pos h] at hr
    have HR := Lib.hid hr
    clear hr
    go_enter Try.func57, Try.ntmps57
    go_wp2
    go_ret
    exact ⟨by rw [← HR.out]; rfl, rfl⟩
  · rw [if_neg h] at hr
    have HR := Lib.hid hr
    clear hr
    go_enter Try.func57, Try.ntmps57
    go_wp2
    go_ret
    exact ⟨by rw [← HR.out]; rfl, rfl⟩

set_option maxHeartbeats 2000000 in
theorem refFlipped_any (s : ByteArray) (x : Ft) (hs : s.size ≤ 100000) (hx : -9223372036854775808 ≤ x.a) (hx' : x.a ≤ 9223372036854775807) (w : World) : Calls Try.prog 19 #[.string s, x.agg] w fun e w' => e = .returned (.string (flipS s x.a)) ∧ Below w.heap.size w w' := by
  obtain ⟨x0, x1, a, x3⟩ := x
  simp only [Ft.agg] at hx hx' ⊢
  by_cases h0 : s.size = 0
  · have hr := flipS_empty s a h0
    obtain rfl : s = ⟨#[]⟩ := by apply ByteArray.ext; exact Array.eq_empty_of_size_eq_zero h0
    have HR := Lib.hid hr
    clear hr
    clear h0 hs
    go_enter Try.func19, Try.ntmps19
    go_wp2
    go_ret
    exact ⟨by rw [HR.out]; rfl, by ((try change Below _ _ _); (repeat (any_goals (first | (with_reducible exact Below.refl _ _) | (with_reducible exact Below.refl _ _) | (with_reducible apply Below.drew) | (with_reducible apply below_drewN) | (with_reducible refine Below.alloc ?_ ?_ _) | (with_reducible refine Below.setCell ?_ ?_ _)))); all_goals (first | exact Nat.le_refl _ | (simp; done) | (simp; omega) | omega | (dsimp only; omega)))⟩
  · obtain ⟨q, r, hq, hr, ha, hf⟩ := flipS_of s a (by omega)
    have hcall := fun W => refFlip_any s q r hs hq hr W
    rw [← hf, ← ha] at hcall
    have h0' : s.toList.isEmpty = false := by
      rw [ByteArray.toList_eq]
      cases hl : s.data.toList with
      | nil =>
        exfalso
        apply h0
        have : s.data.toList.length = s.size := by simp
        rw [hl] at this
        simpa using this.symm
      | cons => rfl
    have hre := fun W => rest_any a (8 * s.size) (by omega) (by omega) hx hx' W
    have HC := Lib.hid hcall
    have HRE := Lib.hid hre
    clear hcall hf ha hre
    have h0'' := Nat.pos_of_ne_zero h0
    clear h0
    go_enter Try.func19, Try.ntmps19
    go_wp2_with (first | (go_at_call 57; refine (HRE.out _).mono ?_; rintro e w1 ⟨rfl, rfl⟩) | fail)
    refine (HC.out _).mono ?_
    rintro e w1 ⟨rfl, hb⟩
    have hw := below_tr ((Below.refl _ w).alloc (Nat.le_refl _) _) hb
    have HW := Lib.hid hw
    clear hw
    clear hb
    go_wp2
    go_ret
    exact ⟨rfl, HW.out⟩
end Go.Proofs.Ytdjfkehbknbocaa

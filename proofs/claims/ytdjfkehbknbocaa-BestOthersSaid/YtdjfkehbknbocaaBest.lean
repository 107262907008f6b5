/- The small walks of packages best and scan, and of their references. -/
import Derived.Test.YtdjfkehbknbocaaProg
import Derived.Test.YtdjfkehbknbocaaLib
namespace Go.Proofs.Ytdjfkehbknbocaa
open Go.RowKit
set_option linter.unusedSimpArgs false
set_option linter.unusedVariables false

structure Tg where
  kind : Int
  lba : Int
  seq : Int
  epoch : Int
def Tg.agg (x : Tg) : Value := .agg #[.int .i64 x.kind, .int .i64 x.lba, .int .i64 x.seq, .int .i64 x.epoch]
structure Pg where
  what : Int
  tag : Tg
  data : ByteArray
def Pg.agg (x : Pg) : Value := .agg #[.int .i64 x.what, .int .i64 x.tag.kind, .int .i64 x.tag.lba, .int .i64 x.tag.seq, .int .i64 x.tag.epoch, .string x.data]
structure Ad where
  block : Int
  line : Int
  part : Int
  deriving DecidableEq
def Ad.agg (x : Ad) : Value := .agg #[.int .i64 x.block, .int .i64 x.line, .int .i64 x.part]
def ofF (xs : List Int) (i : Int) : Int := if i < 0 ∨ (xs.length : Int) ≤ i then 0 else xs[i.toNat]?.getD 0
def tellsF (x : Pg) : Bool := x.what == 2 || x.what == 3
def lessF (p q : Tg) : Bool := decide (p.seq < q.seq) || (p.seq == q.seq && decide (p.epoch < q.epoch))
def addrF (block mode i : Int) : Ad := if mode = 1 then ⟨block, i, 0⟩ else ⟨block, i / 3, i % 3⟩

theorem of_any (A : Option Addr) (n c : Nat) (xs : List Int) (i : Int) (w : World) (hA : Sl eInt 1 w A n xs) :
    Calls Try.prog 68 #[.slice A n c, .int .i64 i] w fun e w' => e = .returned (.int .i64 (ofF xs i)) ∧ w = w' := by
  have hlen := hA.len
  have hbig := hA.big
  by_cases c1 : i < 0
  · have hr : ofF xs i = 0 := by simp [ofF, c1]
    have HR := Lib.hid hr
    clear hr
    have HA := Lib.hid hA
    clear hA
    go_enter Try.func68, Try.ntmps68
    go_wp2
    go_ret
    exact ⟨by rw [HR.out]; rfl, rfl⟩
  by_cases c2 : (n : Int) ≤ i
  · have hr : ofF xs i = 0 := by simp [ofF, hlen, c2]
    have HR := Lib.hid hr
    clear hr
    have HA := Lib.hid hA
    clear hA
    go_enter Try.func68, Try.ntmps68
    go_wp2
    go_ret
    exact ⟨by rw [HR.out]; rfl, rfl⟩
  · obtain ⟨k, rfl⟩ : ∃ k : Nat, i = k := ⟨i.toNat, by omega⟩
    have hk : k < n := by omega
    obtain ⟨b, off, x, rfl, hb, hx, hc⟩ := hA.get_ hk
    have c0 := hc 0 _ rfl
    simp only [Nat.mul_one, Nat.add_zero] at c0
    have hr : ofF xs k = x := by
      unfold ofF
      rw [if_neg (by omega), Int.toNat_natCast, hx]
      rfl
    have HR := Lib.hid hr
    clear hr
    have HA := Lib.hid hA
    clear hA
    clear hc
    go_enter Try.func68, Try.ntmps68
    go_wp2
    go_ret
    exact ⟨by rw [HR.out]; rfl, rfl⟩


theorem tells_any (x : Pg) (w : World) :
    Calls Try.prog 67 #[x.agg] w fun e w' => e = .returned (.bool (tellsF x)) ∧ Below w.heap.size w w' := by
  obtain ⟨a, ⟨b, c, d, e⟩, s⟩ := x
  simp only [Pg.agg, tellsF]
  by_cases h : (a == 2) = true
  · go_enter Try.func67, Try.ntmps67
    go_wp2
    go_ret
    exact ⟨by rw [h]; rfl, by ((try change Below _ _ _); (repeat (any_goals (first | (with_reducible exact Below.refl _ _) | (with_reducible exact Below.refl _ _) | (with_reducible apply Below.drew) | (with_reducible apply below_drewN) | (with_reducible refine Below.alloc ?_ ?_ _) | (with_reducible refine Below.setCell ?_ ?_ _)))); all_goals (first | exact Nat.le_refl _ | (simp; done) | (simp; omega) | omega | (dsimp only; omega)))⟩
  · have h' : (a == 2) = false := by simpa using h
    clear h
    go_enter Try.func67, Try.ntmps67
    go_wp2
    go_ret
    exact ⟨by rw [h']; rfl, by ((try change Below _ _ _); (repeat (any_goals (first | (with_reducible exact Below.refl _ _) | (with_reducible exact Below.refl _ _) | (with_reducible apply Below.drew) | (with_reducible apply below_drewN) | (with_reducible refine Below.alloc ?_ ?_ _) | (with_reducible refine Below.setCell ?_ ?_ _)))); all_goals (first | exact Nat.le_refl _ | (simp; done) | (simp; omega) | omega | (dsimp only; omega)))⟩

theorem refTells_any (x : Pg) (w : World) :
    Calls Try.prog 69 #[x.agg] w fun e w' => e = .returned (.bool (tellsF x)) ∧ Below w.heap.size w w' := by
  obtain ⟨a, ⟨b, c, d, e⟩, s⟩ := x
  simp only [Pg.agg, tellsF]
  by_cases h : (a == 2) = true
  · go_enter Try.func69, Try.ntmps69
    go_wp2
    go_ret
    exact ⟨by rw [h]; rfl, by ((try change Below _ _ _); (repeat (any_goals (first | (with_reducible exact Below.refl _ _) | (with_reducible exact Below.refl _ _) | (with_reducible apply Below.drew) | (with_reducible apply below_drewN) | (with_reducible refine Below.alloc ?_ ?_ _) | (with_reducible refine Below.setCell ?_ ?_ _)))); all_goals (first | exact Nat.le_refl _ | (simp; done) | (simp; omega) | omega | (dsimp only; omega)))⟩
  · have h' : (a == 2) = false := by simpa using h
    clear h
    go_enter Try.func69, Try.ntmps69
    go_wp2
    go_ret
    exact ⟨by rw [h']; rfl, by ((try change Below _ _ _); (repeat (any_goals (first | (with_reducible exact Below.refl _ _) | (with_reducible exact Below.refl _ _) | (with_reducible apply Below.drew) | (with_reducible apply below_drewN) | (with_reducible refine Below.alloc ?_ ?_ _) | (with_reducible refine Below.setCell ?_ ?_ _)))); all_goals (first | exact Nat.le_refl _ | (simp; done) | (simp; omega) | omega | (dsimp only; omega)))⟩

theorem addr_any (b m i : Int) (hi : 0 ≤ i) (hib : i ≤ 9223372036854775807) (w : World) :
    Calls Try.prog 84 #[.int .i64 b, .int .i64 m, .int .i64 i] w fun e w' => e = .returned (addrF b m i).agg ∧ Below w.heap.size w w' := by
  by_cases h : (m == 1) = true
  · have hr : addrF b m i = ⟨b, i, 0⟩ := by
      have : m = 1 := by simpa using h
      simp [addrF, this]
    rw [hr]
    clear hr
    go_enter Try.func84, Try.ntmps84
    go_wp2
    refine bodyPost_ret (v := .agg #[.int .i64 b, .int .i64 i, .int .i64 0]) (by simp [results, Try.results84, go_sem, *]) rfl ⟨rfl, by ((try change Below _ _ _); (repeat (any_goals (first | (with_reducible exact Below.refl _ _) | (with_reducible exact Below.refl _ _) | (with_reducible apply Below.drew) | (with_reducible apply below_drewN) | (with_reducible refine Below.alloc ?_ ?_ _) | (with_reducible refine Below.setCell ?_ ?_ _)))); all_goals (first | exact Nat.le_refl _ | (simp; done) | (simp; omega) | omega | (dsimp only; omega)))⟩
  · have h' : (m == 1) = false := by simpa using h
    have hr : addrF b m i = ⟨b, i / 3, i % 3⟩ := by
      have : ¬ m = 1 := by simpa using h
      simp [addrF, this]
    rw [hr]
    clear hr h
    go_enter Try.func84, Try.ntmps84
    go_wp2
    refine bodyPost_ret (v := .agg #[.int .i64 b, .int .i64 (i / 3), .int .i64 (i % 3)]) (by simp [results, Try.results84, go_sem, *]) rfl ⟨rfl, by ((try change Below _ _ _); (repeat (any_goals (first | (with_reducible exact Below.refl _ _) | (with_reducible exact Below.refl _ _) | (with_reducible apply Below.drew) | (with_reducible apply below_drewN) | (with_reducible refine Below.alloc ?_ ?_ _) | (with_reducible refine Below.setCell ?_ ?_ _)))); all_goals (first | exact Nat.le_refl _ | (simp; done) | (simp; omega) | omega | (dsimp only; omega)))⟩

theorem refAt_any (b m i : Int) (hi : 0 ≤ i) (hib : i ≤ 9223372036854775807) (w : World) :
    Calls Try.prog 66 #[.int .i64 b, .int .i64 m, .int .i64 i] w fun e w' => e = .returned (addrF b m i).agg ∧ Below w.heap.size w w' := by
  by_cases h : (m == 1) = true
  · have hr : addrF b m i = ⟨b, i, 0⟩ := by
      have : m = 1 := by simpa using h
      simp [addrF, this]
    rw [hr]
    clear hr
    go_enter Try.func66, Try.ntmps66
    go_wp2
    refine bodyPost_ret (v := .agg #[.int .i64 b, .int .i64 i, .int .i64 0]) (by simp [results, Try.results66, go_sem, *]) rfl ⟨rfl, by ((try change Below _ _ _); (repeat (any_goals (first | (with_reducible exact Below.refl _ _) | (with_reducible exact Below.refl _ _) | (with_reducible apply Below.drew) | (with_reducible apply below_drewN) | (with_reducible refine Below.alloc ?_ ?_ _) | (with_reducible refine Below.setCell ?_ ?_ _)))); all_goals (first | exact Nat.le_refl _ | (simp; done) | (simp; omega) | omega | (dsimp only; omega)))⟩
  · have h' : (m == 1) = false := by simpa using h
    have hr : addrF b m i = ⟨b, i / 3, i % 3⟩ := by
      have : ¬ m = 1 := by simpa using h
      simp [addrF, this]
    rw [hr]
    clear hr h
    go_enter Try.func66, Try.ntmps66
    go_wp2
    refine bodyPost_ret (v := .agg #[.int .i64 b, .int .i64 (i / 3), .int .i64 (i % 3)]) (by simp [results, Try.results66, go_sem, *]) rfl ⟨rfl, by ((try change Below _ _ _); (repeat (any_goals (first | (with_reducible exact Below.refl _ _) | (with_reducible exact Below.refl _ _) | (with_reducible apply Below.drew) | (with_reducible apply below_drewN) | (with_reducible refine Below.alloc ?_ ?_ _) | (with_reducible refine Below.setCell ?_ ?_ _)))); all_goals (first | exact Nat.le_refl _ | (simp; done) | (simp; omega) | omega | (dsimp only; omega)))⟩

theorem refOf_any (A : Option Addr) (n c : Nat) (xs : List Int) (i : Int) (w : World) (hA : Sl eInt 1 w A n xs) :
    Calls Try.prog 70 #[.slice A n c, .int .i64 i] w fun e w' => e = .returned (.int .i64 (ofF xs i)) ∧ w = w' := by
  have hlen := hA.len
  have hbig := hA.big
  by_cases c1 : i < 0
  · have hr : ofF xs i = 0 := by simp [ofF, c1]
    have HR := Lib.hid hr
    clear hr
    have HA := Lib.hid hA
    clear hA
    go_enter Try.func70, Try.ntmps70
    go_wp2
    go_ret
    exact ⟨by rw [HR.out]; rfl, rfl⟩
  by_cases c2 : (n : Int) ≤ i
  · have hr : ofF xs i = 0 := by simp [ofF, hlen, c2]
    have HR := Lib.hid hr
    clear hr
    have HA := Lib.hid hA
    clear hA
    go_enter Try.func70, Try.ntmps70
    go_wp2
    go_ret
    exact ⟨by rw [HR.out]; rfl, rfl⟩
  · obtain ⟨k, rfl⟩ : ∃ k : Nat, i = k := ⟨i.toNat, by omega⟩
    have hk : k < n := by omega
    obtain ⟨b, off, x, rfl, hb, hx, hc⟩ := hA.get_ hk
    have c0 := hc 0 _ rfl
    simp only [Nat.mul_one, Nat.add_zero] at c0
    have hr : ofF xs k = x := by
      unfold ofF
      rw [if_neg (by omega), Int.toNat_natCast, hx]
      rfl
    have HR := Lib.hid hr
    clear hr
    have HA := Lib.hid hA
    clear hA
    clear hc
    go_enter Try.func70, Try.ntmps70
    go_wp2
    go_ret
    exact ⟨by rw [HR.out]; rfl, rfl⟩



theorem none_any (w : World) : Calls Try.prog 40 #[] w fun e w' => e = .returned (Ad.agg ⟨-1, 0, 0⟩) ∧ Below w.heap.size w w' := by
  go_enter Try.func40, Try.ntmps40
  go_wp2
  refine bodyPost_ret (v := .agg #[.int .i64 (-1), .int .i64 0, .int .i64 0]) (by simp [results, Try.results40, go_sem, *]) rfl ⟨rfl, by ((try change Below _ _ _); (repeat (any_goals (first | (with_reducible exact Below.refl _ _) | (with_reducible exact Below.refl _ _) | (with_reducible apply Below.drew) | (with_reducible apply below_drewN) | (with_reducible refine Below.alloc ?_ ?_ _) | (with_reducible refine Below.setCell ?_ ?_ _)))); all_goals (first | exact Nat.le_refl _ | (simp; done) | (simp; omega) | omega | (dsimp only; omega)))⟩
def cmpF (x y : Int) : Int := if x < y then -1 else if y < x then 1 else 0
theorem isNaN_int (x : Int) (w : World) : Calls Try.prog 85 #[.int .i64 x] w fun e w' => e = .returned (.bool false) ∧ w = w' := by
  go_enter Try.func85, Try.ntmps85
  go_wp2
  go_ret
  exact ⟨rfl, rfl⟩
theorem compare_int (x y : Int) (w : World) : Calls Try.prog 72 #[.int .i64 x, .int .i64 y] w fun e w' => e = .returned (.int .i64 (cmpF x y)) ∧ w = w' := by
  have h1 := isNaN_int x w
  have h2 := isNaN_int y w
  have H1 := Lib.hid h1
  clear h1
  have H2 := Lib.hid h2
  clear h2
  by_cases c1 : x < y
  · have hr : cmpF x y = -1 := by simp [cmpF, c1]
    have HR := Lib.hid hr
    clear hr
    go_enter Try.func72, Try.ntmps72
    go_wp2_with fail
    refine H1.out.mono ?_
    rintro e w1 ⟨rfl, rfl⟩
    go_wp2_with fail
    refine H2.out.mono ?_
    rintro e w1 ⟨rfl, rfl⟩
    go_wp2
    go_ret
    exact ⟨by rw [HR.out]; rfl, rfl⟩
  by_cases c2 : y < x
  · have hr : cmpF x y = 1 := by simp [cmpF, c1, c2]
    have HR := Lib.hid hr
    clear hr
    go_enter Try.func72, Try.ntmps72
    go_wp2_with fail
    refine H1.out.mono ?_
    rintro e w1 ⟨rfl, rfl⟩
    go_wp2_with fail
    refine H2.out.mono ?_
    rintro e w1 ⟨rfl, rfl⟩
    go_wp2
    go_ret
    exact ⟨by rw [HR.out]; rfl, rfl⟩
  · have hr : cmpF x y = 0 := by simp [cmpF, c1, c2]
    have HR := Lib.hid hr
    clear hr
    go_enter Try.func72, Try.ntmps72
    go_wp2_with fail
    refine H1.out.mono ?_
    rintro e w1 ⟨rfl, rfl⟩
    go_wp2_with fail
    refine H2.out.mono ?_
    rintro e w1 ⟨rfl, rfl⟩
    go_wp2
    go_ret
    exact ⟨by rw [HR.out]; rfl, rfl⟩
end Go.Proofs.Ytdjfkehbknbocaa

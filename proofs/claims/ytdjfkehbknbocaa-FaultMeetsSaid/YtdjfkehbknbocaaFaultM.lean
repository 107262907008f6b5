/- The walk of FaultMeets. -/
import Derived.Test.YtdjfkehbknbocaaFaultE
namespace Go.Proofs.Ytdjfkehbknbocaa
open Go.RowKit
set_option linter.unusedSimpArgs false
set_option linter.unusedVariables false

theorem met_form (o : Option Ft) : ∃ (x0 x1 x2 x3 : Int) (b : Bool), met o = .tuple #[.agg #[.int .i64 x0, .int .i64 x1, .int .i64 x2, .int .i64 x3], .bool b] := by
  cases o with
  | none => exact ⟨0, 0, 0, 0, false, rfl⟩
  | some x => exact ⟨x.at_, x.kind, x.a, x.b, true, rfl⟩
set_option maxRecDepth 100000 in
set_option maxHeartbeats 4000000 in
theorem meets_walk (A : Option Addr) (n c : Nat) (xs : List Ft) (at_ op : Int) (s : ByteArray) (w : World) (hA : Sl eFt 4 w A n xs) (hx : ∀ x ∈ xs, -9223372036854775808 ≤ x.a ∧ x.a ≤ 9223372036854775807) (hsz : s.size ≤ 9223372036854775807) :
    Calls Try.prog 3 #[.slice A n c, .agg #[.int .i64 at_, .int .i64 op], .string s] w fun e w' => e = .returned (.bool true) ∧ Below w.heap.size w w' := by
  have hbig := hA.big
  have HA := Lib.hid hA
  clear hA
  have HX := Lib.hid hx
  clear hx
  by_cases c1 : 300 < n
  · go_enter Try.func3, Try.ntmps3
    go_wp2_with fail
    refine (works09 _).mono ?_
    rintro e w1 ⟨rfl, hb1⟩
    have hw1 : Below w.heap.size w w1 := ((Below.refl _ w).alloc (Nat.le_refl _) _).trans (hb1.mono (by simp))
    have HW1 := Lib.hid hw1
    clear hw1
    clear hb1
    go_wp2
    go_ret
    exact ⟨rfl, HW1.out⟩
  by_cases c2 : 1000 < s.size
  · have c2' : (1000 : Int) < (s.size : Int) := by omega
    go_enter Try.func3, Try.ntmps3
    go_wp2_with fail
    refine (works09 _).mono ?_
    rintro e w1 ⟨rfl, hb1⟩
    have hw1 : Below w.heap.size w w1 := ((Below.refl _ w).alloc (Nat.le_refl _) _).trans (hb1.mono (by simp))
    have HW1 := Lib.hid hw1
    clear hw1
    clear hb1
    go_wp2
    go_ret
    exact ⟨rfl, HW1.out⟩
  have c2' : ¬ (1000 : Int) < (s.size : Int) := by omega
  obtain ⟨x0, x1, x2, x3, ok, hmet⟩ := met_form (xs.find? (hit at_ op))
  have m1 := fun W hW => meets_any A n c xs at_ op W (HA.out.below hW)
  have m2 := fun W hW => refMeets_any A n c xs at_ op W (HA.out.below hW)
  rw [hmet] at m1 m2
  have he := fun W => eqFault x0 x1 x2 x3 x0 x1 x2 x3 W
  simp only [beq_self_eq_true, Bool.and_self] at he
  have M1 := Lib.hid m1
  clear m1
  have M2 := Lib.hid m2
  clear m2
  clear hmet
  go_enter Try.func3, Try.ntmps3
  go_wp2_with fail
  have hw0 : Below w.heap.size w (w.alloc (.cells #[.int .i64 at_, .int .i64 op] 23)) := (Below.refl _ w).alloc (Nat.le_refl _) _
  refine (M1.out _ hw0).mono ?_
  rintro e w1 ⟨rfl, hb1⟩
  have hk1 : Blk w1 w.heap.size 23 #[.int .i64 at_, .int .i64 op] := (Blk.new w _ _).below_ hb1
  have hw1 := below_tr hw0 hb1
  have c0 := (hk1.cell 0).trans rfl
  have c1 := (hk1.cell 1).trans rfl
  have hlt1 := hk1.lt
  have HW1 := Lib.hid hw1
  clear hw1
  clear hb1 hw0 hk1
  go_wp2_with fail
  have hx1 := HW1.out.alloc HW1.out.size (.cells #[.int .i64 x0, .int .i64 x1, .int .i64 x2, .int .i64 x3] 26)
  refine (M2.out _ hx1).mono ?_
  rintro e w2 ⟨rfl, hb2⟩
  have hk2 : Blk w2 w1.heap.size 26 #[.int .i64 x0, .int .i64 x1, .int .i64 x2, .int .i64 x3] := (Blk.new w1 _ _).below_ hb2
  have hw2 := below_tr hx1 hb2
  have hw3 := hw2.alloc hw2.size (.cells #[.int .i64 x0, .int .i64 x1, .int .i64 x2, .int .i64 x3] 26)
  have HR : Hid (Below w.heap.size w (w2.alloc (.cells #[.int .i64 x0, .int .i64 x1, .int .i64 x2, .int .i64 x3] 26)) ∧ Blk (w2.alloc (.cells #[.int .i64 x0, .int .i64 x1, .int .i64 x2, .int .i64 x3] 26)) w1.heap.size 26 #[.int .i64 x0, .int .i64 x1, .int .i64 x2, .int .i64 x3] ∧ Blk (w2.alloc (.cells #[.int .i64 x0, .int .i64 x1, .int .i64 x2, .int .i64 x3] 26)) w2.heap.size 26 #[.int .i64 x0, .int .i64 x1, .int .i64 x2, .int .i64 x3]) :=
    ⟨hw3, hk2.alloc _, Blk.new _ _ _⟩
  clear hb2 hx1 hk2 hw2 hw3 c0 c1 hlt1 M1 M2 HW1
  go_wp2
  go_loopw [41] (fun i wr => ∃ k : Nat, k ≤ n ∧ i = .int .i64 k ∧ Hid (Below w.heap.size w wr ∧ Blk wr w1.heap.size 26 #[.int .i64 x0, .int .i64 x1, .int .i64 x2, .int .i64 x3] ∧ Blk wr w2.heap.size 26 #[.int .i64 x0, .int .i64 x1, .int .i64 x2, .int .i64 x3])) (fun i _ => n - (intOf i).toNat)
  case atStart => exact ⟨0, Nat.zero_le _, rfl, HR⟩
  case round =>
    clear HR
    obtain ⟨k, hk, rfl, H⟩ := hrel
    by_cases hlt : k < n
    · obtain ⟨b, off, x, rfl, hb, hxk, c0, c1, c2, c3⟩ := (HA.out.below H.out.1).ft_ hlt
      obtain ⟨hxa, hxb⟩ := HX.out x (List.mem_of_getElem? hxk)
      have hf1 := fun W => flipped_any s x (by omega) W
      have hf2 := fun W => refFlipped_any s x (by omega) hxa hxb W
      have hcells : ∀ W, Below wr.drew.heap.size wr.drew W → W.cell? ⟨b, off + k * 4, none⟩ = some (.int .i64 x.at_) ∧ W.cell? ⟨b, off + k * 4 + 1, none⟩ = some (.int .i64 x.kind) ∧ W.cell? ⟨b, off + k * 4 + 2, none⟩ = some (.int .i64 x.a) ∧ W.cell? ⟨b, off + k * 4 + 3, none⟩ = some (.int .i64 x.b) := fun W hW =>
        ⟨(hW.cell (p := ⟨b, _, none⟩) hb).trans c0, (hW.cell (p := ⟨b, _, none⟩) hb).trans c1, (hW.cell (p := ⟨b, _, none⟩) hb).trans c2, (hW.cell (p := ⟨b, _, none⟩) hb).trans c3⟩
      generalize flipS s x.a = t at hf1 hf2
      obtain ⟨y0, y1, y2, y3⟩ := x
      simp only [Ft.agg] at hf1 hf2 c0 c1 c2 c3 hcells
      have HF1 := Lib.hid hf1
      clear hf1
      have HF2 := Lib.hid hf2
      clear hf2
      have HCELLS := Lib.hid hcells
      clear hcells
      clear hxk hb hxa hxb HA HX
      go_wp2_with fail
      go_region_held3 (fun w' => w'.cell? ⟨b, off + k * 4, none⟩ = some (.int .i64 y0) ∧ w'.cell? ⟨b, off + k * 4 + 1, none⟩ = some (.int .i64 y1) ∧ w'.cell? ⟨b, off + k * 4 + 2, none⟩ = some (.int .i64 y2) ∧ w'.cell? ⟨b, off + k * 4 + 3, none⟩ = some (.int .i64 y3)) (first | go_keep | (exact k1) | (exact k2))
        (first | (go_at_call 18; refine (HF1.out _).mono ?_; rintro e w3 ⟨rfl, hb3⟩; have k1 := HCELLS.out _ hb3) | (go_at_call 19; refine (HF2.out _).mono ?_; rintro e w4 ⟨rfl, hb4⟩; have hb5 := below_tr hb3 hb4; have k2 := HCELLS.out _ hb5))
      have HF : Hid (Below w.heap.size w w4 ∧ Blk w4 w1.heap.size 26 #[.int .i64 x0, .int .i64 x1, .int .i64 x2, .int .i64 x3] ∧ Blk w4 w2.heap.size 26 #[.int .i64 x0, .int .i64 x1, .int .i64 x2, .int .i64 x3]) :=
        ⟨below_tr H.out.1.drew hb5, H.out.2.1.drew.below_ hb5, H.out.2.2.drew.below_ hb5⟩
      clear hb3 hb4 hb5 k1 k2 H HF1 HF2 HCELLS c0 c1 c2 c3
      go_wp2
      go_roundw
      case rel => exact ⟨k + 1, by omega, by go_num, HF⟩
      case measure => simp [intOf]; omega
    · have : k = n := by omega
      subst this
      obtain ⟨hb, hk1, hk2⟩ := H.out
      have c0 := (hk1.cell 0).trans rfl
      have c1 := (hk1.cell 1).trans rfl
      have c2 := (hk1.cell 2).trans rfl
      have c3 := (hk1.cell 3).trans rfl
      have d0 := (hk2.cell 0).trans rfl
      have d1 := (hk2.cell 1).trans rfl
      have d2 := (hk2.cell 2).trans rfl
      have d3 := (hk2.cell 3).trans rfl
      have HB := Lib.hid hb
      clear hb
      clear H hk1 hk2
      go_wp2_with fail
      refine (works09 _).mono ?_
      rintro e w3 ⟨rfl, hb3⟩
      have hw := below_tr HB.out hb3
      have HW := Lib.hid hw
      clear hw
      clear hb3
      go_wp2
      go_ret
      exact ⟨rfl, HW.out⟩
end Go.Proofs.Ytdjfkehbknbocaa

/- The walk of HealthTells. -/
import Derived.Test.YtdjfkehbknbocaaHealthW
namespace Go.Proofs.Ytdjfkehbknbocaa
open Go.RowKit
set_option linter.unusedSimpArgs false
set_option linter.unusedVariables false

def Hs.c7 (h : Hs) : Array Value := #[.int .i64 h.good, .int .i64 h.worn, .int .i64 h.left, .int .i64 h.least, .int .i64 h.most, .int .i64 h.mean, .int .i64 h.life]
theorem grades_same (h : Hs) : h.grade = h.grade := rfl
def Two (w : World) (g g' : Nat) (h : Hs) : Prop := Blk w g 35 h.c7 ∧ Blk w g' 35 h.c7
theorem Two.below {w w' : World} {g g' : Nat} {h : Hs} (t : Two w g g' h) (hb : Below w.heap.size w w') : Two w' g g' h := ⟨t.1.below_ hb, t.2.below_ hb⟩
theorem Two.drew {w : World} {g g' : Nat} {h : Hs} (t : Two w g g' h) : Two w.drew g g' h := t
theorem Two.cells {w : World} {g g' : Nat} {h : Hs} (t : Two w g g' h) :
    w.cell? ⟨g, 0, none⟩ = some (.int .i64 h.good) ∧ w.cell? ⟨g, 1, none⟩ = some (.int .i64 h.worn) ∧ w.cell? ⟨g, 2, none⟩ = some (.int .i64 h.left) ∧ w.cell? ⟨g, 3, none⟩ = some (.int .i64 h.least) ∧ w.cell? ⟨g, 4, none⟩ = some (.int .i64 h.most) ∧ w.cell? ⟨g, 5, none⟩ = some (.int .i64 h.mean) ∧ w.cell? ⟨g, 6, none⟩ = some (.int .i64 h.life) ∧
    w.cell? ⟨g', 0, none⟩ = some (.int .i64 h.good) ∧ w.cell? ⟨g', 1, none⟩ = some (.int .i64 h.worn) ∧ w.cell? ⟨g', 2, none⟩ = some (.int .i64 h.left) ∧ w.cell? ⟨g', 3, none⟩ = some (.int .i64 h.least) ∧ w.cell? ⟨g', 4, none⟩ = some (.int .i64 h.most) ∧ w.cell? ⟨g', 5, none⟩ = some (.int .i64 h.mean) ∧ w.cell? ⟨g', 6, none⟩ = some (.int .i64 h.life) :=
  ⟨(t.1.cell 0).trans rfl, (t.1.cell 1).trans rfl, (t.1.cell 2).trans rfl, (t.1.cell 3).trans rfl, (t.1.cell 4).trans rfl, (t.1.cell 5).trans rfl, (t.1.cell 6).trans rfl,
   (t.2.cell 0).trans rfl, (t.2.cell 1).trans rfl, (t.2.cell 2).trans rfl, (t.2.cell 3).trans rfl, (t.2.cell 4).trans rfl, (t.2.cell 5).trans rfl, (t.2.cell 6).trans rfl⟩

/-- What both calls of Of give, whatever the input. -/
theorem of_both (A B : Option Addr) (n m ca cb : Nat) (cs : List Int) (bs : List Bool) (spare limit : Int) (w : World) (hn : n ≤ 300) (hm : m ≤ 300) (hA : Sl eInt 1 w A n cs) (hB : Sl eBool 1 w B m bs) (hs : spare ≤ 9223372036854775807) :
    ∃ (h : Hs) (c : Int), (∀ W, Below w.heap.size w W → Calls Try.prog 21 #[.slice A n ca, .slice B m cb, .int .i64 spare, .int .i64 limit] W fun e w' => e = .returned (.tuple #[h.agg, .int .i64 c]) ∧ Below W.heap.size W w') ∧
      (∀ W, Below w.heap.size w W → Calls Try.prog 22 #[.slice A n ca, .slice B m cb, .int .i64 spare, .int .i64 limit] W fun e w' => e = .returned (.tuple #[h.agg, .int .i64 c]) ∧ Below W.heap.size W w') ∧
      ((c = 1 ∧ h = Hs.zero ∧ ofBad n m spare limit = true) ∨ (c = 0 ∧ ofBad n m spare limit = false ∧ h = (Hs.zero.fold cs bs).ends spare limit ∧ cs.length = n ∧ bs.length = n ∧ n = m ∧ 1 ≤ limit ∧ limit ≤ 16777215 ∧ 0 ≤ spare)) := by
  by_cases hbad : ofBad n m spare limit = true
  · exact ⟨Hs.zero, 1, fun W _ => of_bad A B n ca m cb spare limit W hbad, fun W _ => refOf_bad A B n ca m cb spare limit W hbad, .inl ⟨rfl, rfl, hbad⟩⟩
  · have hgood : ofBad n m spare limit = false := by simpa using hbad
    have hg : n = m ∧ 1 ≤ limit ∧ limit ≤ 16777215 ∧ 0 ≤ spare := by
      simp [ofBad] at hgood
      omega
    obtain ⟨rfl, h1, h2, h3⟩ := hg
    refine ⟨(Hs.zero.fold cs bs).ends spare limit, 0, fun W hW => of_ok A B n ca cb cs bs spare limit W (by omega) (hA.below hW) (hB.below hW) h3 hs h1 h2, fun W hW => ?_, .inr ⟨rfl, hgood, rfl, hA.len, hB.len, rfl, h1, h2, h3⟩⟩
    rw [of_same cs bs (by have := hA.len; have := hB.len; omega) spare limit h3 h1]
    exact refOf_ok A B n ca cb cs bs spare limit W (by omega) (hA.below hW) (hB.below hW) h3 hs h1 h2

set_option maxRecDepth 100000 in
set_option maxHeartbeats 4000000 in
theorem tells_walk (A B : Option Addr) (n m ca cb : Nat) (cs : List Int) (bs : List Bool) (spare limit : Int) (w : World) (hA : Sl eInt 1 w A n cs) (hB : Sl eBool 1 w B m bs) (hs : spare ≤ 9223372036854775807) :
    Calls Try.prog 5 #[.slice A n ca, .slice B m cb, .agg #[.int .i64 spare, .int .i64 limit]] w fun e w' => e = .returned (.bool true) ∧ Below w.heap.size w w' := by
  by_cases h1 : 300 < n
  · have HA := Lib.hid hA
    clear hA
    have HB := Lib.hid hB
    clear hB
    go_enter Try.func5, Try.ntmps5
    go_wp2_with fail
    refine (works40 _).mono ?_
    rintro e w1 ⟨rfl, hb1⟩
    have hw1 : Below w.heap.size w w1 := ((Below.refl _ w).alloc (Nat.le_refl _) _).trans (hb1.mono (by simp))
    have HW1 := Lib.hid hw1
    clear hw1
    clear hb1
    go_wp2
    go_ret
    exact ⟨rfl, HW1.out⟩
  · by_cases h2 : 300 < m
    · have HA := Lib.hid hA
      clear hA
      have HB := Lib.hid hB
      clear hB
      go_enter Try.func5, Try.ntmps5
      go_wp2_with fail
      refine (works40 _).mono ?_
      rintro e w1 ⟨rfl, hb1⟩
      have hw1 : Below w.heap.size w w1 := ((Below.refl _ w).alloc (Nat.le_refl _) _).trans (hb1.mono (by simp))
      have HW1 := Lib.hid hw1
      clear hw1
      clear hb1
      go_wp2
      go_ret
      exact ⟨rfl, HW1.out⟩
    · obtain ⟨h, c, o1, o2, _⟩ := of_both A B n m ca cb cs bs spare limit w (by omega) (by omega) hA hB hs
      have hg1 := grade_any h
      have hg2 := refGrade_any h
      obtain ⟨x0, x1, x2, x3, x4, x5, x6, x7⟩ := h
      have he := fun W => eqHealth x0 x1 x2 x3 x4 x5 x6 x0 x1 x2 x3 x4 x5 x6 W
      simp only [beq_self_eq_true, Bool.and_self] at he
      simp only [Hs.agg] at o1 o2 hg1 hg2
      have O1 := Lib.hid o1
      clear o1
      have O2 := Lib.hid o2
      clear o2
      have HG1 := Lib.hid hg1
      clear hg1
      have HG2 := Lib.hid hg2
      clear hg2
      clear hA hB
      go_enter Try.func5, Try.ntmps5
      go_wp2_with fail
      have hw0 : Below w.heap.size w (w.alloc (.cells #[.int .i64 spare, .int .i64 limit] 23)) := (Below.refl _ w).alloc (Nat.le_refl _) _
      refine (O1.out _ hw0).mono ?_
      rintro e w1 ⟨rfl, hb1⟩
      have hk1 : Blk w1 w.heap.size 23 #[.int .i64 spare, .int .i64 limit] := (Blk.new w _ _).below_ hb1
      have hw1 := below_tr hw0 hb1
      have c0 := (hk1.cell 0).trans rfl
      have c1 := (hk1.cell 1).trans rfl
      have hlt1 := hk1.lt
      have HK1 := Lib.hid hk1
      have HW1 := Lib.hid hw1
      clear hw1
      clear hb1 hw0 hk1
      go_wp2_with fail
      have hx := HW1.out.alloc HW1.out.size (.cells #[.int .i64 x0, .int .i64 x1, .int .i64 x2, .int .i64 x3, .int .i64 x4, .int .i64 x5, .int .i64 x6] 35)
      refine (O2.out _ hx).mono ?_
      rintro e w2 ⟨rfl, hb2⟩
      have hk2 : Blk w2 w1.heap.size 35 #[.int .i64 x0, .int .i64 x1, .int .i64 x2, .int .i64 x3, .int .i64 x4, .int .i64 x5, .int .i64 x6] := (Blk.new w1 _ _).below_ hb2
      have hw2 := below_tr hx hb2
      have hlt2 := hk2.lt
      have hw3 := hw2.alloc hw2.size (.cells #[.int .i64 x0, .int .i64 x1, .int .i64 x2, .int .i64 x3, .int .i64 x4, .int .i64 x5, .int .i64 x6] 35)
      have ht : Two (w2.alloc (.cells #[.int .i64 x0, .int .i64 x1, .int .i64 x2, .int .i64 x3, .int .i64 x4, .int .i64 x5, .int .i64 x6] 35)) w1.heap.size w2.heap.size ⟨x0, x1, x2, x3, x4, x5, x6, x7⟩ := ⟨hk2.alloc _, Blk.new w2 _ _⟩
      obtain ⟨t0, t1, t2, t3, t4, t5, t6, t7, t8, t9, t10, t11, t12, t13⟩ := ht.cells
      simp only at t0 t1 t2 t3 t4 t5 t6 t7 t8 t9 t10 t11 t12 t13
      have HW3 := Lib.hid hw3
      clear hw3
      have HT := Lib.hid ht
      clear ht
      clear hk2 hb2 hw2 hx
      go_wp2_with fail
      go_region_held3 (fun w' => w'.cell? ⟨w1.heap.size, 0, none⟩ = some (.int .i64 x0) ∧ w'.cell? ⟨w1.heap.size, 1, none⟩ = some (.int .i64 x1) ∧ w'.cell? ⟨w1.heap.size, 2, none⟩ = some (.int .i64 x2) ∧ w'.cell? ⟨w1.heap.size, 3, none⟩ = some (.int .i64 x3) ∧ w'.cell? ⟨w1.heap.size, 4, none⟩ = some (.int .i64 x4) ∧ w'.cell? ⟨w1.heap.size, 5, none⟩ = some (.int .i64 x5) ∧ w'.cell? ⟨w1.heap.size, 6, none⟩ = some (.int .i64 x6) ∧ w'.cell? ⟨w2.heap.size, 0, none⟩ = some (.int .i64 x0) ∧ w'.cell? ⟨w2.heap.size, 1, none⟩ = some (.int .i64 x1) ∧ w'.cell? ⟨w2.heap.size, 2, none⟩ = some (.int .i64 x2) ∧ w'.cell? ⟨w2.heap.size, 3, none⟩ = some (.int .i64 x3) ∧ w'.cell? ⟨w2.heap.size, 4, none⟩ = some (.int .i64 x4) ∧ w'.cell? ⟨w2.heap.size, 5, none⟩ = some (.int .i64 x5) ∧ w'.cell? ⟨w2.heap.size, 6, none⟩ = some (.int .i64 x6)) (first | go_keep | (exact k1) | (exact k2) | (exact k3))
        (first | (go_at_call 23; refine (HG1.out _).mono ?_; rintro e w3 ⟨rfl, hb3⟩; go_must (have T1 := HT.out.drew.below hb3); have k1 := T1.cells; simp only at k1) | (go_at_call 24; refine (HG2.out _).mono ?_; rintro e w4 ⟨rfl, hb4⟩; have T2 := T1.below hb4; have k2 := T2.cells; simp only at k2) | (go_at_call 20; refine (works40 _).mono ?_; rintro e w5 ⟨rfl, hb5⟩; have k3 := (T2.below hb5).cells; simp only at k3))
      go_wp2
      go_ret
      exact ⟨rfl, below_tr (below_tr (below_tr HW3.out.drew hb3) hb4) hb5⟩
end Go.Proofs.Ytdjfkehbknbocaa

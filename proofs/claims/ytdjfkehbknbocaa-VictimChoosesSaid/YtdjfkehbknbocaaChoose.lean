/- The walk of VictimChooses. -/
import Derived.Test.YtdjfkehbknbocaaVictT
import Derived.Test.YtdjfkehbknbocaaQuietIn
import Derived.Test.YtdjfkehbknbocaaEqs
namespace Go.Proofs.Ytdjfkehbknbocaa
open Go.RowKit Go.Shelf
set_option linter.unusedSimpArgs false
set_option linter.unusedVariables false
attribute [local go_sem] Oper.semAt_some

theorem ne_struct {P : Program} {xs ys : Array Value} {r : Bool} {w : World} {t : TypeId} {fs : Array Field} (hu : P.underlying t = some (.struct fs)) (hp : P.stoodInHeld t = false) (h : (Op.eqFields (9998 + 1) xs ys fs.toList).run P w = .ok r w) : (binOp .neq t (.agg xs) (.agg ys)).run P w = .ok (.bool (!r)) w := by
  have hf : P.fieldsOf t = fs := by simp [Program.fieldsOf, hu]
  have h1 : (Op.equalIn (9999 + 1) t (.agg xs) (.agg ys)).run P w = .ok r w := by
    rw [run_equalIn_struct (P := P) w 9999 t xs ys (by rw [hf]; exact hu) hp, hf]
    exact h
  simp only [binOp]
  simp [Op.equal, Op.maxDepth, h1]
set_option maxRecDepth 100000 in
theorem eq_nilFuncU (caps : Array Value) (w : World) : (binOp .eql 79 (.func (.func 75) #[] caps) .nilFunc).run Try.prog w = .ok (.bool false) w := rfl
theorem neUse (a0 a1 a2 b0 b1 b2 : Int) (w : World) :
    (binOp .neq 83 (.agg #[.int .i64 a0, .int .i64 a1, .int .i64 a2]) (.agg #[.int .i64 b0, .int .i64 b1, .int .i64 b2])).run Try.prog w
      = .ok (.bool (!(a0 == b0 && (a1 == b1 && (a2 == b2 && true))))) w :=
  ne_struct Try.underlying83 (by kernel_rfl) (eqf_int a0 b0 rfl (Try.isAgg3 _) Try.underlying3 rfl rfl (eqf_int a1 b1 rfl (Try.isAgg3 _) Try.underlying3 rfl rfl (eqf_int a2 b2 rfl (Try.isAgg3 _) Try.underlying3 rfl rfl eqf_nil)))
/-- Between two rounds: since the world w3 nothing has turned but block S, which counts. -/
structure CI (w3 : World) (S : Nat) (most : Int) (k : Nat) (W : World) : Prop where
  gr : w3.grownBy W (some S)
  box : Blk W S 3 #[.int .i64 (k : Int)]
  ne : ∀ j : Nat, j < k → (j : Int) ≠ most
theorem CI.kept {w3 W W' : World} {S : Nat} {most : Int} {k : Nat} {row : Option Nat} (h : CI w3 S most k W) (hS : S < w3.heap.size) (hg : W.grownBy W' row) (hr : ∀ r, row = some r → w3.heap.size ≤ r ∧ ∃ o : Obj, W.heap[r]? = some o ∧ o.isCells = false) : CI w3 S most k W' := by
  have hne : ∀ k, row = some k → w3.heap.size ≤ k := fun k e => (hr k e).1
  exact ⟨⟨hg.os.trans h.gr.os, hg.tape.trans h.gr.tape, hg.output.trans h.gr.output, Nat.le_trans h.gr.size hg.size, fun k hk hk2 => (hg.block k (Nat.lt_of_lt_of_le hk h.gr.size) (fun e => by have := hne _ e.symm; omega)).trans (h.gr.block k hk hk2)⟩, h.box.grown hg (fun e => by have := hne _ e.symm; omega), h.ne⟩
def CX (w3 : World) (S : Nat) (most : Int) (Z : List Us) (cd : Code) (pre : List Us) (W : World) : Prop :=
  (cd = Code.exit 0 ∧ ∃ pre' x, pre = pre' ++ [x] ∧ CI w3 S most pre'.length W ∧ (pre'.length : Int) = most) ∨ (cd = Code.ret ∧ ∃ pre' x, pre = pre' ++ [x] ∧ Z[pre'.length]? ≠ some x)
theorem CX.kept {w3 W W' : World} {S : Nat} {most : Int} {Z : List Us} {cd : Code} {pre : List Us} {row : Option Nat} (h : CX w3 S most Z cd pre W) (hS : S < w3.heap.size) (hg : W.grownBy W' row) (hr : ∀ r, row = some r → w3.heap.size ≤ r ∧ ∃ o : Obj, W.heap[r]? = some o ∧ o.isCells = false) : CX w3 S most Z cd pre W' := by
  rcases h with ⟨h1, p, x, h2, h3, h4⟩ | h
  · exact .inl ⟨h1, p, x, h2, h3.kept hS hg hr, h4⟩
  · exact .inr h
set_option maxRecDepth 100000 in
set_option maxHeartbeats 40000000 in
theorem choose_walk (lines : Int) (A : Option Addr) (n c : Nat) (xs : List Us) (most : Int) (w : World) (hA : Sl eUs 3 w A n xs) (hbd : ∀ x ∈ xs, x.valid ≤ 9223372036854775807) :
    Calls Try.prog 13 #[.int .i64 lines, .slice A n c, .int .i64 most] w fun e w' => e = .returned (.bool true) ∧ Below w.heap.size w w' := by
  have hbig := hA.big
  have hlen := hA.len
  have HLEN := Lib.hid hlen
  have HA := Lib.hid hA
  clear hA
  have HBD := Lib.hid hbd
  clear hbd
  clear hlen
  have kM := (Blk.new w 3 #[.int .i64 most]).alloc (.cells #[.bool false] 4)
  have kR := Blk.new1 w (.cells #[.int .i64 most] 3) 4 #[.bool false]
  have hw0 : Below w.heap.size w ((w.alloc (.cells #[.int .i64 most] 3)).alloc (.cells #[.bool false] 4)) := by ((try change Below _ _ _); (repeat (any_goals (first | (with_reducible exact Below.refl _ _) | (with_reducible exact Below.refl _ _) | (with_reducible apply Below.drew) | (with_reducible apply below_drewN) | (with_reducible refine Below.alloc ?_ ?_ _) | (with_reducible refine Below.setCell ?_ ?_ _)))); all_goals (first | exact Nat.le_refl _ | (simp; done) | (simp; omega) | omega | (dsimp only; omega)))
  have hs0 : ((w.alloc (.cells #[.int .i64 most] 3)).alloc (.cells #[.bool false] 4)).heap.size = w.heap.size + 2 := by simp
  have HK := Lib.hid (And.intro kM (And.intro kR (And.intro hw0 hs0)))
  clear kM kR hw0 hs0
  have henf := fun caps w => eq_nilFuncU caps w
  by_cases c1 : 200 < n ∨ 64 < lines
  · have hcase : (200 < n) ∨ (¬ 200 < n ∧ 64 < lines) := by omega
    clear c1
    have fin : ∀ w1, Below ((w.alloc (.cells #[.int .i64 most] 3)).alloc (.cells #[.bool false] 4)).heap.size ((w.alloc (.cells #[.int .i64 most] 3)).alloc (.cells #[.bool false] 4)) w1 → Blk w1 (w.heap.size + 1) 4 #[.bool false] ∧ Below w.heap.size w (w1.setCell ⟨w.heap.size + 1, 0, none⟩ (.bool true)) ∧ Blk (w1.setCell ⟨w.heap.size + 1, 0, none⟩ (.bool true)) (w.heap.size + 1) 4 #[.bool true] := fun w1 hb => by
      have h1 := HK.out.2.1.below_ hb
      exact ⟨h1, (below_tr HK.out.2.2.1 hb).setCell (p := ⟨w.heap.size + 1, 0, none⟩) (by show w.heap.size ≤ w.heap.size + 1; omega) _, (h1.set_ 0 _).of_eq (cs' := #[.bool true]) rfl⟩
    have HFIN := Lib.hid fin
    clear fin
    rcases hcase with h1 | ⟨h1, h2⟩
    · have h1' : (200 : Int) < (n : Int) := by omega
      go_enter Try.func13, Try.ntmps13
      go_wp2_with fail
      refine (works24 _).mono ?_
      rintro e w1 ⟨rfl, hb1⟩
      obtain ⟨f1, f2, f3⟩ := HFIN.out w1 hb1
      have r0 := (f1.cell 0).trans rfl
      have rf := f1.frozen 0
      have r1 := (f3.cell 0).trans rfl
      have F2 := Lib.hid f2
      clear f2
      have R1 := Lib.hid r1
      clear r1
      clear f1 f3 hb1
      go_wp2
      refine bodyPost_ret (v := .bool true) (by have r1 := R1.out; simp [results, Try.results13, go_sem, r1]) rfl ⟨rfl, F2.out⟩
    · have h1' : ¬ (200 : Int) < (n : Int) := by omega
      go_enter Try.func13, Try.ntmps13
      go_wp2_with fail
      refine (works24 _).mono ?_
      rintro e w1 ⟨rfl, hb1⟩
      obtain ⟨f1, f2, f3⟩ := HFIN.out w1 hb1
      have r0 := (f1.cell 0).trans rfl
      have rf := f1.frozen 0
      have r1 := (f3.cell 0).trans rfl
      have F2 := Lib.hid f2
      clear f2
      have R1 := Lib.hid r1
      clear r1
      clear f1 f3 hb1
      go_wp2
      refine bodyPost_ret (v := .bool true) (by have r1 := R1.out; simp [results, Try.results13, go_sem, r1]) rfl ⟨rfl, F2.out⟩
  have c2 : ¬ (200 : Int) < (n : Int) := by omega
  have c3 : ¬ (64 : Int) < lines := by omega
  have hl64 : lines ≤ 64 := by omega
  refine (callsIn_wide (n := 3)).1 ?_
  refine callsIn_of_wp_marks Try.func13 rfl trivial ?_ rfl
  refine wpIn_wide.2 ?_
  simp only [Try.ntmps13, List.size_toArray, List.length_cons, List.length_nil, Nat.reduceAdd, Nat.reduceSub, Array.replicate_succ, Array.replicate_zero, List.push_toArray, List.append_toArray, List.nil_append, List.cons_append]
  go_wp2_with fail
  refine (ranked_any lines A n c xs _ (by omega) (HA.out.below HK.out.2.2.1) HBD.out).mono ?_
  rintro e w1 ⟨B, A1, c1', M, rfl, hBw, hBb, hR, hown, hb1⟩
  rw [HK.out.2.2.2] at hBw
  have kM1 := HK.out.1.below_ hb1
  have kR1 := HK.out.2.1.below_ hb1
  have hw1 := below_tr HK.out.2.2.1 hb1
  have hs1 : w.heap.size + 2 ≤ w1.heap.size := by have := hb1.size; rw [HK.out.2.2.2] at this; exact this
  have H1 := Lib.hid (And.intro hBb (And.intro hR (And.intro hown (And.intro kM1 (And.intro kR1 hw1)))))
  clear hBb hR hown kM1 kR1 hw1 hb1
  go_wp2_with fail
  refine (refRanked_any lines A n c xs M _ (by omega) (HA.out.below H1.out.2.2.2.2.2) HBD.out H1.out.2.1).mono ?_
  rintro e w2 ⟨A2, c2', rfl, hown2, hb2⟩
  obtain ⟨Z, hZ⟩ : ∃ Z, zOf lines xs M = Z := ⟨_, rfl⟩
  have hZl : (zOf lines xs M).length = M.length := by simp [zOf]
  obtain ⟨N, hNN⟩ : ∃ N, M.length = N := ⟨_, rfl⟩
  have hMl := H1.out.2.1.len
  have hfl := List.length_filter_le (mayU lines) xs
  have hlN : N ≤ 200 := by have := HLEN.out; omega
  have hB1 := H1.out.1
  have hown1 := H1.out.2.2.1
  have hR := H1.out.2.1
  rw [hZ, hNN] at hown2 hown1
  rw [hNN] at hB1
  rw [hZ, hNN] at hZl
  have hb23 : Below w2.heap.size w2 ((w2.alloc (.cells #[.slice A2 N c2'] 77)).alloc (.cells #[.int .i64 0] 3)) := ((Below.refl _ w2).alloc (Nat.le_refl _) _).alloc (by simp) _
  have kW := (Blk.new w2 77 #[.slice A2 N c2']).alloc (.cells #[.int .i64 0] 3)
  have kS := Blk.new1 w2 (.cells #[.slice A2 N c2'] 77) 3 #[.int .i64 0]
  have hb13 := below_tr hb2 hb23
  have hs3 : ((w2.alloc (.cells #[.slice A2 N c2'] 77)).alloc (.cells #[.int .i64 0] 3)).heap.size = w2.heap.size + 2 := by simp
  rw [hNN]
  go_wp2_with fail
  obtain ⟨w3, hw3⟩ : ∃ w3, (w2.alloc (.cells #[.slice A2 N c2'] 77)).alloc (.cells #[.int .i64 0] 3) = w3 := ⟨_, rfl⟩
  rw [hw3] at hb23 kW kS hb13 hs3 ⊢
  have hSd : w2.heap.size + 1 < w3.heap.size := by omega
  have hs12 := hb2.size
  have hw3b := below_tr H1.out.2.2.2.2.2 hb13
  have hBX := And.intro kW (And.intro (H1.out.2.2.2.1.below_ hb13) (H1.out.2.2.2.2.1.below_ hb13))
  have hown3 := own_below hown1 hb13
  have hB3 := hB1.below_ hb13
  have hrow : ∀ q, (Value.slice A1 N c1').ownBlock = some q → B + 1 ≤ q ∧ q < w1.heap.size := fun q e => ⟨own_base hown1 q e, own_lt hown1 q e⟩
  have hBl := hB1.lt
  have hST := iterU_stops2 2 B (B + 1) A1 N c1' 77 id Z w3 (by rw [List.map_id]; exact hown3) hB3 (by omega)
  obtain ⟨S, hS⟩ : ∃ S, w2.heap.size + 1 = S := ⟨_, rfl⟩
  rw [hS] at kS hSd
  have hCI0 : CI w3 S most 0 w3 := ⟨grown_of_below (Below.refl _ _) _, kS, fun j h => absurd h (Nat.not_lt_zero j)⟩
  obtain ⟨R, hRr⟩ : ∃ R, (Value.slice A1 N c1').ownBlock = R := ⟨_, rfl⟩
  rw [hRr] at hST hrow
  have HZ := Lib.hid hZ
  have HR := Lib.hid hR
  have HNN := Lib.hid hNN
  have HZL := Lib.hid hZl
  have HW3 := Lib.hid hw3b
  have HBX := Lib.hid hBX
  have HST := Lib.hid hST
  have HCI0 := Lib.hid hCI0
  have HROW := Lib.hid hrow
  have HOWN2 := Lib.hid (own_below hown2 hb23)
  have HS3 := Lib.hid hs3
  have HSQ := Lib.hid hS
  have HSI := Lib.hid (show S = w2.heap.size + 1 from hS.symm)
  have hs2S : w2.heap.size < S := by omega
  have hs123 : w1.heap.size ≤ w3.heap.size := by omega
  clear hb2 hb23 hb13 kW kS hw3b hBX hown3 hB3 hown1 hB1 hown2 hR hZ hZl hNN hMl hfl hST hCI0 hrow hRr hw3 hs3 H1
  rw [hS]
  clear hS
  refine (wpIn_wide (n := 3)).1 ?_
  refine wpIn_rangeFunc_ownH (F := Fence.wide) (n := 3) rfl (by omega) (gf := 75) (lb := #[.pointer (some ⟨B, 0, none⟩)]) rfl trivial (enters_of Try.func75 (by kernel_rfl) rfl) HST.out kpR_t (kpR_b (by omega) (fun q e => by have := (HROW.out q e).2; omega)) (Below.refl _ _) (fun _ => rfl)
    (fun pre W => CI w3 S most pre.length W) (fun cd pre W => CX w3 S most Z cd pre W)
    (fun pre X Y row h hg hr => h.kept hSd hg hr) (fun cd pre X Y row h hg hr => h.kept hSd hg hr) HCI0.out
    (fun x a' W => ∃ Bx, AxU w3.heap.size x ((fun (x : Us) Bx => #[.int .i64 lines, .slice A n c, .int .i64 most, undef, undef, .pointer (some ⟨w.heap.size, 0, none⟩), .pointer (some ⟨w.heap.size + 1, 0, none⟩), .func (.func 75) #[] #[.pointer (some ⟨B, 0, none⟩)], .pointer (some ⟨w2.heap.size, 0, none⟩), .pointer (some ⟨S, 0, none⟩), .pointer (some ⟨Bx, 0, none⟩), undef, undef, undef, .slice A n c, .int .i64 n, .bool false, .bool false, .int .i64 lines, .bool false, .bool false, undef, .int .i64 lines, .slice A n c, .func (.func 75) #[] #[.pointer (some ⟨B, 0, none⟩)], .func (.func 75) #[] #[.pointer (some ⟨B, 0, none⟩)], .bool false, .int .i64 lines, .slice A n c, .slice A2 N c2', .func (.func 75) #[] #[.pointer (some ⟨B, 0, none⟩)], x.agg, undef, undef, undef, undef, undef, undef, undef, undef, undef, undef, undef, undef, undef, undef, undef, undef, undef, undef, undef, undef, undef, undef, undef, undef, undef, undef, undef, undef, undef, undef, undef, undef, undef, undef, undef, undef, undef, undef, undef, undef, undef, undef, undef, undef, undef, undef, undef, undef, undef, undef, undef, undef, undef, undef]) x) a' Bx W) (fun x a' => AxU.own x _ a') ?assign ?body ?done ?stop
  case assign =>
    rintro l pre ⟨x0, x1, x2⟩ W K hic hK
    simp only [id, Us.agg]
    gi_wp2
    have hsz2 := hic.gr.size
    exact hK _ _ ((KeepsOthers.alloc _ _).from _) (kpR_alloc (kpR_refl _ _ _) (by omega) (fun q e => by have := (HROW.out q e).2; omega) _) (hic.kept hSd (World.grownBy_alloc W _ none) (fun r e => by cases e)) ⟨W.heap.size, hsz2, Blk.new W _ _, rfl⟩
  case body =>
    rintro l pre ⟨x0, x1, x2⟩ a' W hll _ hic ⟨Bx, lx, bx, rfl⟩ hlen2
    obtain ⟨m, hm⟩ : ∃ m, pre.length = m := ⟨_, rfl⟩
    have hCk : ∀ Y, CI w3 S most (m + 1) Y → CI w3 S most (pre ++ [(⟨x0, x1, x2⟩ : Us)]).length Y := fun Y h => by rw [List.length_append, hm]; exact h
    have hCX := fun (h : (m : Int) = most) (Y : World) (hc : CI w3 S most m Y) => (show CX w3 S most Z (Code.exit 0) (pre ++ [(⟨x0, x1, x2⟩ : Us)]) Y from .inl ⟨rfl, pre, _, rfl, by rw [hm]; exact hc, by rw [hm]; exact h⟩)
    have hCR := fun (h : Z[m]? ≠ some (⟨x0, x1, x2⟩ : Us)) (Y : World) => (show CX w3 S most Z Code.ret (pre ++ [(⟨x0, x1, x2⟩ : Us)]) Y from .inr ⟨rfl, pre, _, rfl, by rw [hm]; exact h⟩)
    rw [hm] at hic hlen2
    have HCK := Lib.hid hCk
    have HCX := Lib.hid hCX
    have HCR := Lib.hid hCR
    clear hCk hCX hCR hm
    have hgr := hic.gr
    have kM := HBX.out.2.1.grown hgr (fun e => by injection e with e; omega)
    have kR := HBX.out.2.2.grown hgr (fun e => by injection e with e; omega)
    have kW := HBX.out.1.grown hgr (fun e => by injection e with e; omega)
    have hm200 : m ≤ 200 := by have := HZL.out; omega
    have s0 := (hic.box.cell 0).trans rfl
    have sf := hic.box.frozen 0
    have mo := (kM.cell 0).trans rfl
    have r0 := (kR.cell 0).trans rfl
    have rf := kR.frozen 0
    have wo := (kW.cell 0).trans rfl
    have hgsz := hgr.size
    have c0 := (bx.cell 0).trans rfl
    have c1 := (bx.cell 1).trans rfl
    have c2 := (bx.cell 2).trans rfl
    by_cases hbr : ((m : Int) == most) = true
    · have hbr' : (m : Int) = most := by simpa using hbr
      have HX := Lib.hid (HCX.out hbr' W hic)
      clear hbr' hic hgr kM kR kW bx
      gi_wp2
      exact ⟨KeepsFrom.refl _ _, HX.out⟩
    · have hbf : ((m : Int) == most) = false := by simpa using hbr
      have hbr' : (m : Int) ≠ most := by simpa using hbr
      have HIC := Lib.hid hic
      have HBR := Lib.hid hbr'
      -- where it goes on
      have go : KeepsFrom w3.heap.size W (W.setCell ⟨S, 0, none⟩ (.int .i64 ((m : Int) + 1))) ∧ KpR B R W (W.setCell ⟨S, 0, none⟩ (.int .i64 ((m : Int) + 1))) ∧ CI w3 S most (m + 1) (W.setCell ⟨S, 0, none⟩ (.int .i64 ((m : Int) + 1))) := by
        refine ⟨(KeepsOthers.setCell _ _ _).from _, kpR_set (kpR_refl _ _ _) _ _ (by show B ≠ S; omega) (fun q e => by have := (HROW.out q e).2; show q ≠ S; omega), grown_set hgr 0 _, (hic.box.set_ 0 _).of_eq (by simp), fun j hj => ?_⟩
        rcases Nat.lt_or_ge j m with h | h
        · exact hic.ne j h
        · have : j = m := by omega
          rw [this]
          exact hbr'
      have hlW : ∀ (p : Past W), (p.w.cell? ⟨S, 0, none⟩ = some (.int .i64 (m : Int)) ∧ p.w.cell? ⟨w2.heap.size, 0, none⟩ = some (.slice A2 N c2')) ∧ p.w.cell? ⟨Bx, 0, none⟩ = some (.int .i64 x0) ∧ p.w.cell? ⟨Bx, 1, none⟩ = some (.int .i64 x1) ∧ p.w.cell? ⟨Bx, 2, none⟩ = some (.int .i64 x2) := fun p =>
        ⟨⟨((hic.box.below_ p.h).cell 0).trans rfl, ((kW.below_ p.h).cell 0).trans rfl⟩, ((bx.below_ p.h).cell 0).trans rfl, ((bx.below_ p.h).cell 1).trans rfl, ((bx.below_ p.h).cell 2).trans rfl⟩
      have p1 := fun p => (hlW p).1.1
      have p2 := fun p => (hlW p).1.2
      have p3 := fun p => (hlW p).2.1
      have p4 := fun p => (hlW p).2.2.1
      have p5 := fun p => (hlW p).2.2.2
      have hret : ∀ W5, Below W.heap.size W W5 → Blk W5 S 3 #[.int .i64 (m : Int)] ∧ Blk W5 (w.heap.size + 1) 4 #[.bool false] ∧ KeepsFrom w3.heap.size W (W5.setCell ⟨w.heap.size + 1, 0, none⟩ (.bool false)) ∧
          KeepsFrom w3.heap.size W (W5.setCell ⟨S, 0, none⟩ (.int .i64 ((m : Int) + 1))) ∧ KpR B R W (W5.setCell ⟨S, 0, none⟩ (.int .i64 ((m : Int) + 1))) ∧ CI w3 S most (m + 1) (W5.setCell ⟨S, 0, none⟩ (.int .i64 ((m : Int) + 1))) := fun W5 hb5 => by
        have hk5 : KeepsFrom w3.heap.size W W5 := (KeepsOthers.of_grownBy (grown_of_below hb5 none) (fun j o e _ => by cases e)).from _
        have hkp : KpR B R W W5 := kpR_grown (grown_of_below hb5 none) (by omega) (fun q e => by have := (HROW.out q e).2; omega) (by simp) (by simp)
        refine ⟨hic.box.below_ hb5, kR.below_ hb5, hk5.trans ((KeepsOthers.setCell _ _ _).from _), hk5.trans ((KeepsOthers.setCell _ _ _).from _), kpR_set hkp _ _ (by show B ≠ S; omega) (fun q e => by have := (HROW.out q e).2; show q ≠ S; omega), grown_set (grown_tr hgr (grown_of_below hb5 _)) 0 _, ((hic.box.below_ hb5).set_ 0 _).of_eq (by simp), fun j hj => ?_⟩
        rcases Nat.lt_or_ge j m with h | h
        · exact hic.ne j h
        · have : j = m := by omega
          rw [this]
          exact hbr'
      have HRET := Lib.hid hret
      have hwant : m < N → ∃ b off y, A2 = some ⟨b, off, none⟩ ∧ Z[m]? = some y ∧ ∀ p : Past W, p.w.cell? ⟨b, off + m * 3, none⟩ = some (.int .i64 y.block) ∧ p.w.cell? ⟨b, off + m * 3 + 1, none⟩ = some (.int .i64 y.mode) ∧ p.w.cell? ⟨b, off + m * 3 + 2, none⟩ = some (.int .i64 y.valid) := fun hmN => by
        have ho := HOWN2.out.kept hgr (Or.inr (fun e => by have := own_lt HOWN2.out S e; have h2 := HOWN2.out; rcases h2.2 with ⟨h3, _⟩ | ⟨g, cap, cur, h3, _, hh, _⟩; · rw [h3] at e; cases e
                                                           · rw [h3] at e
                                                             have e' : some g = some S := e
                                                             injection e' with e'
                                                             subst e'
                                                             have hk := HCI0.out.box
                                                             unfold Blk at hk
                                                             rw [hk] at hh
                                                             injection hh with hh
                                                             injection hh with _ hh
                                                             exact absurd hh (by decide)))
        have hsl := Sl.own (k := 3) (fun _ => rfl) (by omega) ho
        obtain ⟨b, off, y, e, _, hy, _⟩ := hsl.us_ hmN
        refine ⟨b, off, y, e, hy, fun p => ?_⟩
        obtain ⟨b', off', y', e', _, hy', h0, h1, h2⟩ := (hsl.below p.h).us_ hmN
        rw [e] at e'
        injection e' with e'
        injection e' with e1 e2 _
        subst e1 e2
        rw [hy] at hy'
        injection hy' with hy'
        subst hy'
        exact ⟨h0, h1, h2⟩
      have HWANT := Lib.hid hwant
      clear go hbr hbr' hic hgr kM kR kW bx hlW hret hwant
      by_cases hmN : m < N
      · obtain ⟨b, off, y, hAe, hy, hcy⟩ := HWANT.out hmN
        obtain ⟨y0, y1, y2⟩ := y
        subst hAe
        simp only at hcy
        have z0 := fun p => (hcy p).1
        have z1 := fun p => (hcy p).2.1
        have z2 := fun p => (hcy p).2.2
        have hmN' : ¬ (N : Int) ≤ (m : Int) := by omega
        have hmd : decide ((N : Int) ≤ (m : Int)) = false := by simpa using hmN'
        have hne := fun W => neUse x0 x1 x2 y0 y1 y2 W
        have HY := Lib.hid hy
        clear hy hcy
        cases hB : (x0 == y0 && (x1 == y1 && (x2 == y2 && true))) with
        | true =>
          rw [hB] at hne
          simp only [Bool.not_true] at hne
          clear hB
          gi_wp2_with fail
          refine wpIn_region_quiet_past (by kernel_rfl) (by kernel_rfl) (by kernel_rfl) ?_
          repeat (refine qw_step (fun K_ hK_ => ?_); go_simp; first | (refine hK_ _ ?_; clear hK_ K_) | (apply Exists.intro; refine ⟨fun _ => ?_, hK_ _ ?_⟩; (fail); clear hK_ K_) | (rw [if_pos (by first | assumption | omega)]; first | (refine hK_ _ ?_; clear hK_ K_) | (apply Exists.intro; refine ⟨fun _ => ?_, hK_ _ ?_⟩; (fail); clear hK_ K_)) | (rw [if_neg (by first | assumption | omega)]; first | (refine hK_ _ ?_; clear hK_ K_) | (apply Exists.intro; refine ⟨fun _ => ?_, hK_ _ ?_⟩; (fail); clear hK_ K_)))
          refine qw_nil ?_
          intro WQ hw_
          obtain ⟨p_, hp_⟩ := hw_
          have HQ := p_.h
          rw [← hp_] at HQ
          clear hp_ p_
          obtain ⟨f1, f2, f3, f4, f5, f6⟩ := HRET.out WQ HQ
          have s1 := (f1.cell 0).trans rfl
          have s1f := f1.frozen 0
          have HF := Lib.hid (And.intro f4 (And.intro f5 (HCK.out _ f6)))
          clear f1 f2 f3 f4 f5 f6 HQ p1 p2 p3 p4 p5 z0 z1 z2
          gi_wp2
          exact HF.out
        | false =>
          rw [hB] at hne
          simp only [Bool.not_false] at hne
          have hneq : Z[m]? ≠ some (⟨x0, x1, x2⟩ : Us) := by
            rw [HY.out]
            intro e
            injection e with e
            injection e with e1 e2 e3
            rw [e1, e2, e3] at hB
            simp at hB
          have HX := Lib.hid (HCR.out hneq)
          clear hB hneq
          gi_wp2_with fail
          refine wpIn_region_quiet_past (by kernel_rfl) (by kernel_rfl) (by kernel_rfl) ?_
          repeat (refine qw_step (fun K_ hK_ => ?_); go_simp; first | (refine hK_ _ ?_; clear hK_ K_) | (apply Exists.intro; refine ⟨fun _ => ?_, hK_ _ ?_⟩; (fail); clear hK_ K_) | (rw [if_pos (by first | assumption | omega)]; first | (refine hK_ _ ?_; clear hK_ K_) | (apply Exists.intro; refine ⟨fun _ => ?_, hK_ _ ?_⟩; (fail); clear hK_ K_)) | (rw [if_neg (by first | assumption | omega)]; first | (refine hK_ _ ?_; clear hK_ K_) | (apply Exists.intro; refine ⟨fun _ => ?_, hK_ _ ?_⟩; (fail); clear hK_ K_)))
          refine qw_nil ?_
          intro WQ hw_
          obtain ⟨p_, hp_⟩ := hw_
          have HQ := p_.h
          rw [← hp_] at HQ
          clear hp_ p_
          obtain ⟨f1, f2, f3, f4, f5, f6⟩ := HRET.out WQ HQ
          have r1 := (f2.cell 0).trans rfl
          have r1f := f2.frozen 0
          have HF := Lib.hid f3
          clear f1 f2 f3 f4 f5 f6 HQ p1 p2 p3 p4 p5 z0 z1 z2
          gi_wp2
          exact ⟨HF.out, HX.out _⟩
      · have hmN' : (N : Int) ≤ (m : Int) := by omega
        have hmd : decide ((N : Int) ≤ (m : Int)) = true := by simpa using hmN'
        have hneq : Z[m]? ≠ some (⟨x0, x1, x2⟩ : Us) := by
          rw [List.getElem?_eq_none (by have := HZL.out; omega)]
          intro e
          cases e
        have HX := Lib.hid (HCR.out hneq)
        clear hneq
        gi_wp2_with fail
        refine wpIn_region_quiet_past (by kernel_rfl) (by kernel_rfl) (by kernel_rfl) ?_
        repeat (refine qw_step (fun K_ hK_ => ?_); go_simp; first | (refine hK_ _ ?_; clear hK_ K_) | (apply Exists.intro; refine ⟨fun _ => ?_, hK_ _ ?_⟩; (fail); clear hK_ K_) | (rw [if_pos (by first | assumption | omega)]; first | (refine hK_ _ ?_; clear hK_ K_) | (apply Exists.intro; refine ⟨fun _ => ?_, hK_ _ ?_⟩; (fail); clear hK_ K_)) | (rw [if_neg (by first | assumption | omega)]; first | (refine hK_ _ ?_; clear hK_ K_) | (apply Exists.intro; refine ⟨fun _ => ?_, hK_ _ ?_⟩; (fail); clear hK_ K_)))
        refine qw_nil ?_
        intro WQ hw_
        obtain ⟨p_, hp_⟩ := hw_
        have HQ := p_.h
        rw [← hp_] at HQ
        clear hp_ p_
        obtain ⟨f1, f2, f3, f4, f5, f6⟩ := HRET.out WQ HQ
        have r1 := (f2.cell 0).trans rfl
        have r1f := f2.frozen 0
        have HF := Lib.hid f3
        clear f1 f2 f3 f4 f5 f6 HQ p1 p2 p3 p4 p5
        gi_wp2
        exact ⟨HF.out, HX.out _⟩
  case done =>
    rintro D ys W hD hys hic hK
    have hyN : ys.length = N := by rw [hys]; exact HZL.out
    rw [hyN] at hic
    have hgr := hic.gr
    have hbw : Below w.heap.size w W := HW3.out.grown hgr HW3.out.size (fun q e => by injection e with e; omega)
    have HT : Hid (Blk W S 3 #[.int .i64 (N : Int)] ∧ Blk W w2.heap.size 77 #[.slice A2 N c2'] ∧ Blk W w.heap.size 3 #[.int .i64 most] ∧ Blk W (w.heap.size + 1) 4 #[.bool false] ∧ True) :=
      ⟨hic.box, HBX.out.1.grown hgr (fun e => by injection e with e; omega), HBX.out.2.1.grown hgr (fun e => by injection e with e; omega), HBX.out.2.2.grown hgr (fun e => by injection e with e; omega), trivial⟩
    have HKD := Lib.hid hK
    have hDW := (Array.getElem?_eq_some_iff.1 hK).1
    have hgsz := hgr.size
    clear hK HST HCI0
    clear hic hyN hys
    dsimp only
    go_wp2_with fail
    have hxs := HA.out.below hbw
    refine (triple_any lines A n c xs W (by omega) hl64 hxs HBD.out).mono ?_
    rintro e w4 ⟨A4, n4, c4, M4, hR4, rfl, ho4, hb4⟩
    obtain rfl := HR.out.unique hR4
    rw [HZ.out] at ho4
    have H4 := Lib.hid (And.intro ho4 hb4)
    clear hR4 ho4 hb4
    go_wp2_with fail
    refine (gather_any lines A n c xs w4 (by omega) hl64 (hxs.below H4.out.2) HBD.out).mono ?_
    rintro e w5 ⟨A5, n5, c5, M5, T5, hR5, hG5, rfl, ho5, hb5⟩
    have hM5 := HR.out.unique hR5
    subst hM5
    rw [HZ.out] at hG5
    have hb05 := below_tr H4.out.2 hb5
    have s5 := ((HT.out.1.below_ hb05).cell 0).trans rfl
    have x5 := ((HT.out.2.1.below_ hb05).cell 0).trans rfl
    have m5 := ((HT.out.2.2.1.below_ hb05).cell 0).trans rfl
    have ho4' := own_below H4.out.1 hb5
    have H5 := Lib.hid (And.intro hG5 (And.intro ho5 (And.intro hb05 ho4')))
    clear hR5 hG5 ho5 hb5 hb05 ho4'
    go_wp2_with fail
    refine (refTriple_any lines A n c xs M w5 (by omega) hl64 (hxs.below H5.out.2.2.1) HBD.out HR.out).mono ?_
    rintro e w6 ⟨A6, n6, c6, rfl, ho6, hb6⟩
    rw [HZ.out] at ho6
    have hsm := sameInts_any A4 A6 n4 c4 n6 c6 _ _ w6 (Sl.own (k := 1) (fun _ => rfl) (by omega) (own_below H5.out.2.2.2 hb6)) (Sl.own (k := 1) (fun _ => rfl) (by omega) ho6)
    simp only [decide_true] at hsm
    have hb06 := below_tr H5.out.2.2.1 hb6
    have H6 := Lib.hid (And.intro (own_below H5.out.2.2.2 hb6) (And.intro (own_below H5.out.2.1 hb6) hb06))
    have HSM := Lib.hid hsm
    clear hsm
    clear ho6 hb6 hb06 s5 x5 m5
    go_wp2_with fail
    refine HSM.out.mono ?_
    rintro e w7 ⟨rfl, hb7⟩
    have hb07 := below_tr H6.out.2.2 hb7
    have H7 := Lib.hid (And.intro (own_below H6.out.1 hb7) (And.intro (own_below H6.out.2.1 hb7) hb07))
    clear hb7 hb07 HSM
    go_wp2_with fail
    refine (refGather_any lines A n c xs M w7 (by omega) hl64 (hxs.below H7.out.2.2) HBD.out HR.out).mono ?_
    rintro e w8 ⟨A8, n8, c8, T8, hG8, rfl, ho8, hb8⟩
    rw [HZ.out] at hG8
    have hTT : T8 = T5 := hG8.eq.trans H5.out.1.eq.symm
    subst hTT
    have hsm := sameInts_any A5 A8 n5 c5 n8 c8 _ _ w8 (Sl.own (k := 1) (fun _ => rfl) (by omega) (own_below H7.out.2.1 hb8)) (Sl.own (k := 1) (fun _ => rfl) (by omega) ho8)
    simp only [decide_true] at hsm
    have hb08 := below_tr H7.out.2.2 hb8
    have H8 := Lib.hid (And.intro (own_below H7.out.1 hb8) (And.intro (own_below H7.out.2.1 hb8) hb08))
    have HSM := Lib.hid hsm
    clear hsm
    clear hG8 ho8 hb8 hb08
    go_wp2_with fail
    refine HSM.out.mono ?_
    rintro e w9 ⟨rfl, hb9⟩
    have hb09 := below_tr H8.out.2.2 hb9
    have hoA := own_below H8.out.1 hb9
    have hoB := own_below H8.out.2.1 hb9
    have hba := Sl.big (Sl.own (enc := eInt) (k := 1) (fun _ => rfl) (by omega) hoA)
    have hbb := Sl.big (Sl.own (enc := eInt) (k := 1) (fun _ => rfl) (by omega) hoB)
    have hAB : ∀ q, (Value.slice A4 n4 c4).ownBlock = some q → q < w4.heap.size := fun q e => own_lt H4.out.1 q e
    have HAB := Lib.hid hAB
    have H9 := Lib.hid (And.intro hoA (And.intro hoB hb09))
    clear hb9 hb09 hoA hoB HSM hAB
    go_wp2_with fail
    refine (spoilInts_any A4 n4 c4 W.heap.size _ w9 hba H9.out.1).mono ?_
    rintro e w10 ⟨⟨v10, rfl⟩, hg10⟩
    have hoB := H9.out.2.1.kept hg10 (by
      rcases hq : (Value.slice A5 n5 c5).ownBlock with _ | q
      · exact Or.inl rfl
      · refine Or.inr (fun e => ?_)
        have h1 := HAB.out q e.symm
        have h2 := own_base H9.out.2.1 q hq
        omega)
    have hb010 : Below W.heap.size W w10 := H9.out.2.2.grown hg10 H9.out.2.2.size (own_base H9.out.1)
    have H10 := Lib.hid (And.intro hoB hb010)
    clear hg10 hoB hb010
    go_wp2_with fail
    refine (spoilInts_any A5 n5 c5 w4.heap.size _ w10 hbb H10.out.1).mono ?_
    rintro e w11 ⟨⟨v11, rfl⟩, hg11⟩
    have hw4s := H4.out.2.size
    have hb011 : Below W.heap.size W w11 := H10.out.2.grown hg11 H10.out.2.size (fun q e => by have := own_base H10.out.1 q e; omega)
    have H11 := Lib.hid hb011
    clear hg11 hb011
    go_wp2_with fail
    refine (works24 _).mono ?_
    rintro e w12 ⟨rfl, hb12⟩
    have hb012 := below_tr H11.out hb12
    have kr := HT.out.2.2.2.1.below_ hb012
    have r0 := (kr.cell 0).trans rfl
    have rf := kr.frozen 0
    have hKD : (w12.setCell ⟨w.heap.size + 1, 0, none⟩ (.bool true)).heap[D]? = some (.deferred (some [])) := (Below.heap_setCell w12 ⟨w.heap.size + 1, 0, none⟩ _ D (by show D ≠ w.heap.size + 1; omega)).trans ((hb012.block D hDW).trans HKD.out)
    have kF : Blk ((w12.setCell ⟨w.heap.size + 1, 0, none⟩ (.bool true)).putObj D (.deferred none)) (w.heap.size + 1) 4 #[.bool true] := (World.putObj_heap_other (by omega)).trans ((kr.set_ 0 (.bool true)).of_eq (cs' := #[.bool true]) rfl)
    have cF := (kF.cell 0).trans rfl
    have hbl : Below w.heap.size w ((w12.setCell ⟨w.heap.size + 1, 0, none⟩ (.bool true)).putObj D (.deferred none)) := ((hbw.trans (hb012.mono hbw.size)).setCell (p := ⟨w.heap.size + 1, 0, none⟩) (by show w.heap.size ≤ w.heap.size + 1; omega) _).trans (belowK_b (w := w) (Nat.le_refl _) _ D _ _ (by omega) hKD rfl rfl)
    have HE := Lib.hid (And.intro hKD (And.intro cF hbl))
    clear hb12 hb012 kr hKD kF cF hbl
    go_wp2_with fail
    refine ⟨by simp, .inl ⟨D, _, rfl, run_takeDeferred HE.out.1, ?_⟩⟩
    exact ⟨.bool true, by have cF := HE.out.2.1; simp [results, Try.results13, go_sem, cF], rfl, HE.out.2.2⟩
  case stop =>
    rintro D cd pre W hD hpre hx hK
    have hx2 : cd = Code.exit 0 ∧ ∃ m : Nat, m < N ∧ CI w3 S most m W ∧ (m : Int) = most := by
      rcases hx with ⟨h1, pre', x, h2, h3, h4⟩ | ⟨h1, pre', x, h2, h3⟩
      · refine ⟨h1, pre'.length, ?_, h3, h4⟩
        have hl := hpre.length_le
        rw [h2, List.length_append, HZL.out] at hl
        simp at hl
        omega
      · exfalso
        obtain ⟨rest, hr⟩ := hpre
        rw [h2] at hr
        apply h3
        rw [← hr, List.append_assoc, List.getElem?_append_right (Nat.le_refl _)]
        simp
    obtain ⟨rfl, m, hmN, hic, hmo⟩ := hx2
    subst hmo
    have hgr := hic.gr
    have hbw : Below w.heap.size w W := HW3.out.grown hgr HW3.out.size (fun q e => by injection e with e; omega)
    have HT : Hid (Blk W S 3 #[.int .i64 (m : Int)] ∧ Blk W w2.heap.size 77 #[.slice A2 N c2'] ∧ Blk W w.heap.size 3 #[.int .i64 (m : Int)] ∧ Blk W (w.heap.size + 1) 4 #[.bool false] ∧ True) :=
      ⟨hic.box, HBX.out.1.grown hgr (fun e => by injection e with e; omega), HBX.out.2.1.grown hgr (fun e => by injection e with e; omega), HBX.out.2.2.grown hgr (fun e => by injection e with e; omega), trivial⟩
    have HKD := Lib.hid hK
    have hDW := (Array.getElem?_eq_some_iff.1 hK).1
    have hgsz := hgr.size
    clear hK HST HCI0
    clear hic hx hpre
    refine wpIn_wide.2 ?_
    go_wp2_with fail
    have hxs := HA.out.below hbw
    refine (triple_any lines A n c xs W (by omega) hl64 hxs HBD.out).mono ?_
    rintro e w4 ⟨A4, n4, c4, M4, hR4, rfl, ho4, hb4⟩
    obtain rfl := HR.out.unique hR4
    rw [HZ.out] at ho4
    have H4 := Lib.hid (And.intro ho4 hb4)
    clear hR4 ho4 hb4
    go_wp2_with fail
    refine (gather_any lines A n c xs w4 (by omega) hl64 (hxs.below H4.out.2) HBD.out).mono ?_
    rintro e w5 ⟨A5, n5, c5, M5, T5, hR5, hG5, rfl, ho5, hb5⟩
    have hM5 := HR.out.unique hR5
    subst hM5
    rw [HZ.out] at hG5
    have hb05 := below_tr H4.out.2 hb5
    have s5 := ((HT.out.1.below_ hb05).cell 0).trans rfl
    have x5 := ((HT.out.2.1.below_ hb05).cell 0).trans rfl
    have m5 := ((HT.out.2.2.1.below_ hb05).cell 0).trans rfl
    have ho4' := own_below H4.out.1 hb5
    have H5 := Lib.hid (And.intro hG5 (And.intro ho5 (And.intro hb05 ho4')))
    clear hR5 hG5 ho5 hb5 hb05 ho4'
    have hmb : ((m : Int) == (N : Int)) = false := by simp; omega
    go_wp2_with fail
    refine (refTriple_any lines A n c xs M w5 (by omega) hl64 (hxs.below H5.out.2.2.1) HBD.out HR.out).mono ?_
    rintro e w6 ⟨A6, n6, c6, rfl, ho6, hb6⟩
    rw [HZ.out] at ho6
    have hsm := sameInts_any A4 A6 n4 c4 n6 c6 _ _ w6 (Sl.own (k := 1) (fun _ => rfl) (by omega) (own_below H5.out.2.2.2 hb6)) (Sl.own (k := 1) (fun _ => rfl) (by omega) ho6)
    simp only [decide_true] at hsm
    have hb06 := below_tr H5.out.2.2.1 hb6
    have H6 := Lib.hid (And.intro (own_below H5.out.2.2.2 hb6) (And.intro (own_below H5.out.2.1 hb6) hb06))
    have HSM := Lib.hid hsm
    clear hsm
    clear ho6 hb6 hb06 s5 x5 m5
    go_wp2_with fail
    refine HSM.out.mono ?_
    rintro e w7 ⟨rfl, hb7⟩
    have hb07 := below_tr H6.out.2.2 hb7
    have H7 := Lib.hid (And.intro (own_below H6.out.1 hb7) (And.intro (own_below H6.out.2.1 hb7) hb07))
    clear hb7 hb07 HSM
    go_wp2_with fail
    refine (refGather_any lines A n c xs M w7 (by omega) hl64 (hxs.below H7.out.2.2) HBD.out HR.out).mono ?_
    rintro e w8 ⟨A8, n8, c8, T8, hG8, rfl, ho8, hb8⟩
    rw [HZ.out] at hG8
    have hTT : T8 = T5 := hG8.eq.trans H5.out.1.eq.symm
    subst hTT
    have hsm := sameInts_any A5 A8 n5 c5 n8 c8 _ _ w8 (Sl.own (k := 1) (fun _ => rfl) (by omega) (own_below H7.out.2.1 hb8)) (Sl.own (k := 1) (fun _ => rfl) (by omega) ho8)
    simp only [decide_true] at hsm
    have hb08 := below_tr H7.out.2.2 hb8
    have H8 := Lib.hid (And.intro (own_below H7.out.1 hb8) (And.intro (own_below H7.out.2.1 hb8) hb08))
    have HSM := Lib.hid hsm
    clear hsm
    clear hG8 ho8 hb8 hb08
    go_wp2_with fail
    refine HSM.out.mono ?_
    rintro e w9 ⟨rfl, hb9⟩
    have hb09 := below_tr H8.out.2.2 hb9
    have hoA := own_below H8.out.1 hb9
    have hoB := own_below H8.out.2.1 hb9
    have hba := Sl.big (Sl.own (enc := eInt) (k := 1) (fun _ => rfl) (by omega) hoA)
    have hbb := Sl.big (Sl.own (enc := eInt) (k := 1) (fun _ => rfl) (by omega) hoB)
    have hAB : ∀ q, (Value.slice A4 n4 c4).ownBlock = some q → q < w4.heap.size := fun q e => own_lt H4.out.1 q e
    have HAB := Lib.hid hAB
    have H9 := Lib.hid (And.intro hoA (And.intro hoB hb09))
    clear hb9 hb09 hoA hoB HSM hAB
    go_wp2_with fail
    refine (spoilInts_any A4 n4 c4 W.heap.size _ w9 hba H9.out.1).mono ?_
    rintro e w10 ⟨⟨v10, rfl⟩, hg10⟩
    have hoB := H9.out.2.1.kept hg10 (by
      rcases hq : (Value.slice A5 n5 c5).ownBlock with _ | q
      · exact Or.inl rfl
      · refine Or.inr (fun e => ?_)
        have h1 := HAB.out q e.symm
        have h2 := own_base H9.out.2.1 q hq
        omega)
    have hb010 : Below W.heap.size W w10 := H9.out.2.2.grown hg10 H9.out.2.2.size (own_base H9.out.1)
    have H10 := Lib.hid (And.intro hoB hb010)
    clear hg10 hoB hb010
    go_wp2_with fail
    refine (spoilInts_any A5 n5 c5 w4.heap.size _ w10 hbb H10.out.1).mono ?_
    rintro e w11 ⟨⟨v11, rfl⟩, hg11⟩
    have hw4s := H4.out.2.size
    have hb011 : Below W.heap.size W w11 := H10.out.2.grown hg11 H10.out.2.size (fun q e => by have := own_base H10.out.1 q e; omega)
    have H11 := Lib.hid hb011
    clear hg11 hb011
    go_wp2_with fail
    refine (works24 _).mono ?_
    rintro e w12 ⟨rfl, hb12⟩
    have hb012 := below_tr H11.out hb12
    have kr := HT.out.2.2.2.1.below_ hb012
    have r0 := (kr.cell 0).trans rfl
    have rf := kr.frozen 0
    have hKD : (w12.setCell ⟨w.heap.size + 1, 0, none⟩ (.bool true)).heap[D]? = some (.deferred (some [])) := (Below.heap_setCell w12 ⟨w.heap.size + 1, 0, none⟩ _ D (by show D ≠ w.heap.size + 1; omega)).trans ((hb012.block D hDW).trans HKD.out)
    have kF : Blk ((w12.setCell ⟨w.heap.size + 1, 0, none⟩ (.bool true)).putObj D (.deferred none)) (w.heap.size + 1) 4 #[.bool true] := (World.putObj_heap_other (by omega)).trans ((kr.set_ 0 (.bool true)).of_eq (cs' := #[.bool true]) rfl)
    have cF := (kF.cell 0).trans rfl
    have hbl : Below w.heap.size w ((w12.setCell ⟨w.heap.size + 1, 0, none⟩ (.bool true)).putObj D (.deferred none)) := ((hbw.trans (hb012.mono hbw.size)).setCell (p := ⟨w.heap.size + 1, 0, none⟩) (by show w.heap.size ≤ w.heap.size + 1; omega) _).trans (belowK_b (w := w) (Nat.le_refl _) _ D _ _ (by omega) hKD rfl rfl)
    have HE := Lib.hid (And.intro hKD (And.intro cF hbl))
    clear hb12 hb012 kr hKD kF cF hbl
    go_wp2_with fail
    refine ⟨by simp, .inl ⟨D, _, rfl, run_takeDeferred HE.out.1, ?_⟩⟩
    exact ⟨.bool true, by have cF := HE.out.2.1; simp [results, Try.results13, go_sem, cF], rfl, HE.out.2.2⟩
#print axioms choose_walk
end Go.Proofs.Ytdjfkehbknbocaa

/- The walk of FaultCounts. -/
import Derived.Test.YtdjfkehbknbocabAppIn
import Derived.Test.YtdjfkehbknbocabSortIF
import Derived.Test.YtdjfkehbknbocabAheadS
namespace Go.Proofs.Ytdjfkehbknbocab
open Go.RowKit Go.Shelf
set_option linter.unusedSimpArgs false
set_option linter.unusedVariables false
attribute [local go_sem] Oper.semAt_some

abbrev ftC (x : Ft) : Array Value := #[.int .i64 x.at_, .int .i64 x.kind, .int .i64 x.a, .int .i64 x.b]
/-- Between two rounds: since the world w3 nothing has turned but block S, which holds what has come so far. -/
structure IC (w3 : World) (S : Nat) (below : Int) (pre : List Ft) (W : World) : Prop where
  gr : w3.grownBy W (some S)
  box : ∃ A c, Blk W S 31 #[.slice A pre.length c] ∧ W.ownsRow w3.heap.size 37 4 (.slice A pre.length c) pre.length (eList eFt pre)
  ne : ∀ j : Nat, j < pre.length → (j : Int) ≠ below
theorem IC.kept {w3 W W' : World} {S : Nat} {below : Int} {pre : List Ft} {row : Option Nat} (h : IC w3 S below pre W) (hS : S < w3.heap.size) (hg : W.grownBy W' row) (hr : ∀ r, row = some r → w3.heap.size ≤ r ∧ ∃ o : Obj, W.heap[r]? = some o ∧ o.isCells = false) : IC w3 S below pre W' := by
  have hne : ∀ k, row = some k → w3.heap.size ≤ k := fun k e => (hr k e).1
  refine ⟨⟨hg.os.trans h.gr.os, hg.tape.trans h.gr.tape, hg.output.trans h.gr.output, Nat.le_trans h.gr.size hg.size, fun k hk hk2 => (hg.block k (Nat.lt_of_lt_of_le hk h.gr.size) (fun e => by have := hne _ e.symm; omega)).trans (h.gr.block k hk hk2)⟩, ?_, h.ne⟩
  obtain ⟨A, c, hb, ho⟩ := h.box
  exact ⟨A, c, hb.grown hg (fun e => by have := hne _ e.symm; omega), own_from ho hg (fun r e => (hr r e).2)⟩
theorem IC.alloc {w3 W : World} {S : Nat} {below : Int} {pre : List Ft} (h : IC w3 S below pre W) (hS : S < w3.heap.size) (o : Obj) : IC w3 S below pre (W.alloc o) := h.kept hS (World.grownBy_alloc W o none) (fun r e => by cases e)
/-- Behind a break. -/
def IXC (w3 : World) (S : Nat) (below : Int) (cd : Code) (pre : List Ft) (W : World) : Prop := cd = Code.exit 0 ∧ ∃ pre' x, pre = pre' ++ [x] ∧ IC w3 S below pre' W ∧ (pre'.length : Int) = below
theorem grown_far {a b c : World} {row row2 : Option Nat} (h : a.grownBy b row) (k : b.grownBy c row2) (hr : ∀ q, row2 = some q → a.heap.size ≤ q) : a.grownBy c row :=
  ⟨k.os.trans h.os, k.tape.trans h.tape, k.output.trans h.output, Nat.le_trans h.size k.size, fun q hq hne => (k.block q (Nat.lt_of_lt_of_le hq h.size) (fun e => by have := hr _ e.symm; omega)).trans (h.block q hq hne)⟩
theorem own_isCells {W : World} {base : Nat} {e : TypeId} {size n : Nat} {v : Value} {xs : List Value} (h : W.ownsRow base e size v n xs) (j : Nat) (o : Obj) (hj : v.ownBlock = some j) (ho : W.heap[j]? = some o) : o.isCells = true := by
  rcases h.2 with ⟨rfl, _⟩ | ⟨g, cap, cur, rfl, _, hh, _⟩
  · cases hj
  · have : g = j := by simpa [Value.ownBlock] using hj
    subst this
    rw [hh] at ho
    injection ho with ho
    subst ho
    rfl
theorem Sl.take_ {α : Type} {enc : α → List Value} {k : Nat} {w : World} {A : Option Addr} {n m : Nat} {xs : List α} (h : Sl enc k w A n xs) (hm : m ≤ n) : Sl enc k w A m (xs.take m) := by
  have hl := h.len
  have hb := h.big
  refine ⟨by rw [List.length_take]; omega, by omega, fun hp => ?_⟩
  obtain ⟨b, off, e, hbl, hc⟩ := h.2.2 (by omega)
  refine ⟨b, off, e, hbl, fun j x hx i v hv => hc j x ?_ i v hv⟩
  rw [List.getElem?_take] at hx
  split at hx
  · exact hx
  · cases hx
structure AxC (hi : Nat) (x : Ft) (mk : Nat → Array Value) (a' : Act) (Bx : Nat) (W : World) : Prop where
  lx : hi ≤ Bx
  bx : Blk W Bx 37 (ftC x)
  act : a' = { tmps := mk Bx, defers := [] }
theorem AxC.own {hi : Nat} (x : Ft) (mk : Nat → Array Value) (a' : Act) : OwnFrom hi (fun (_ : Unit) W => ∃ Bx, AxC hi x mk a' Bx W) := fun _ A B row h hg hr => by
  obtain ⟨Bx, h⟩ := h
  refine ⟨Bx, h.lx, h.bx.grown hg (fun e => ?_), h.act⟩
  obtain ⟨_, o, ho, hc⟩ := hr Bx e.symm
  have hb := h.bx
  unfold Blk at hb
  rw [hb] at ho
  cases ho
  cases hc
theorem eq_nilFunc (caps : Array Value) (w : World) : (binOp .eql 33 (.func (.func 26) #[] caps) .nilFunc).run Try.prog w = .ok (.bool false) w := by
  first
    | rfl
    | (have := Try.underlying33; simp [binOp, go_sem, this])
set_option maxRecDepth 100000 in
set_option maxHeartbeats 40000000 in
theorem counts_walk (A : Option Addr) (n c : Nat) (xs : List Ft) (kind below : Int) (w : World) (hA : Sl eFt 4 w A n xs) :
    Calls Try.prog 4 #[.slice A n c, .int .i64 kind, .int .i64 below] w fun e w' => e = .returned (.bool true) ∧ Below w.heap.size w w' := by
  have hbig := hA.big
  have hlen := hA.len
  have HA := Lib.hid hA
  clear hA
  by_cases c1 : 100 < n
  · have c2 : (100 : Int) < (n : Int) := by omega
    go_enter Try.func4, Try.ntmps4
    go_wp2_with fail
    refine (works09 _).mono ?_
    rintro e w1 ⟨rfl, hb1⟩
    have hw1 := below_tr ((Below.refl _ w).alloc (Nat.le_refl _) _) hb1
    have HW1 := Lib.hid hw1
    clear hw1
    clear hb1
    go_wp2
    go_ret
    exact ⟨rfl, HW1.out⟩
  have c2 : ¬ (100 : Int) < (n : Int) := by omega
  have HLEN := Lib.hid hlen
  clear hlen
  have henf := fun caps w => eq_nilFunc caps w
  refine (callsIn_wide (n := 3)).1 ?_
  refine callsIn_of_wp_marks Try.func4 rfl trivial ?_ rfl
  refine wpIn_wide.2 ?_
  simp only [Try.ntmps4, List.size_toArray, List.length_cons, List.length_nil, Nat.reduceAdd, Nat.reduceSub, Array.replicate_succ, Array.replicate_zero, List.push_toArray, List.append_toArray, List.nil_append, List.cons_append]
  go_wp2_with fail
  have hw0 : Below w.heap.size w (w.alloc (.cells #[.int .i64 below] 3)) := (Below.refl _ w).alloc (Nat.le_refl _) _
  have kb := Blk.new w 3 #[.int .i64 below]
  refine (ahead_any A n c xs _ (by omega) (HA.out.below hw0)).mono ?_
  rintro e w1 ⟨B, A1, c1', M, rfl, hBl, hB0, hM, hS1, hb1⟩
  have kb1 := kb.below_ hb1
  have hw1 := below_tr hw0 hb1
  have H1 := Lib.hid (And.intro hBl (And.intro hB0 (And.intro hM (And.intro hS1 (And.intro kb1 hw1)))))
  clear hBl hB0 hM hS1 kb1 hw1 hb1 kb hw0
  go_wp2_with fail
  have kS := Blk.new w1 31 #[.slice none 0 0]
  have hw2 := H1.out.2.2.2.2.2.alloc H1.out.2.2.2.2.2.size (.cells #[.slice none 0 0] 31)
  refine (refAhead_any A n c xs M _ (by omega) (HA.out.below hw2) H1.out.2.2.1).mono ?_
  rintro e w3 ⟨A2, c2', rfl, hc2, hS2, hb3⟩
  have hw3 := below_tr hw2 hb3
  have kB := (H1.out.2.2.2.2.1.alloc (.cells #[.slice none 0 0] 31)).below_ hb3
  have kS3 := kS.below_ hb3
  have hb13 : Below w1.heap.size w1 w3 := ((Below.refl _ w1).alloc (Nat.le_refl _) (.cells #[.slice none 0 0] 31)).trans (hb3.mono (by simp))
  have hSlt := kS3.lt
  have hST := iterF_stops 2 B A1 n c1' (M.map (xOf xs)) w1 w3 H1.out.2.2.2.1 H1.out.2.1 H1.out.1 hb13
  have hlS0 := H1.out.2.2.2.2.1.lt
  obtain ⟨S, hS⟩ : ∃ S, w1.heap.size = S := ⟨_, rfl⟩
  rw [hS] at kS3 hSlt hST hlS0 ⊢
  have hIC0 : IC w3 S below [] w3 := ⟨grown_of_below (Below.refl _ _) _, ⟨none, 0, kS3, World.ownsRow_nil _ _ _ _⟩, fun j h => absurd h (Nat.not_lt_zero j)⟩
  have hMl := H1.out.2.2.1.len
  have hlS : w.heap.size < S := hlS0
  have HM := Lib.hid H1.out.2.2.1
  have HC2 := Lib.hid hc2
  have HS2 := Lib.hid hS2
  have HW3 := Lib.hid hw3
  have HKB := Lib.hid kB
  have HST := Lib.hid hST
  have HIC0 := Lib.hid hIC0
  have HML := Lib.hid hMl
  have HSQ := Lib.hid hS
  clear hb3 hb13 kB kS3 hlS0 hST hIC0 hMl hc2 hS2 hw3 hw2 kS H1 hS
  go_wp2_with fail
  refine (wpIn_wide (n := 3)).1 ?_
  refine wpIn_rangeFunc_ownH (F := Fence.wide) (n := 3) rfl (by omega) (gf := 26) (lb := #[.pointer (some ⟨B, 0, none⟩)]) rfl trivial (enters_of Try.func26 (by kernel_rfl) rfl) HST.out belowK_t (belowK_b (by omega)) (Below.refl _ _) (fun _ => rfl)
    (fun pre W => IC w3 S below pre W) (fun cd pre W => IXC w3 S below cd pre W)
    (fun pre A B row h hg hr => h.kept hSlt hg hr) (fun cd pre A B row h hg hr => by
      obtain ⟨h1, pre', x, h2, h3, h4⟩ := h
      exact ⟨h1, pre', x, h2, h3.kept hSlt hg hr, h4⟩) HIC0.out
    (fun x a' W => ∃ Bx, AxC w3.heap.size x ((fun (x : Ft) Bx => #[.slice A n c, .int .i64 kind, .int .i64 below, undef, undef, .pointer (some ⟨w.heap.size, 0, none⟩), .bool false, .func (.func 26) #[] #[.pointer (some ⟨B, 0, none⟩)], .pointer (some ⟨S, 0, none⟩), .slice A2 n c2', .pointer (some ⟨Bx, 0, none⟩), .slice A n c, .int .i64 n, .bool false, undef, .slice A n c, .func (.func 26) #[] #[.pointer (some ⟨B, 0, none⟩)], .func (.func 26) #[] #[.pointer (some ⟨B, 0, none⟩)], .bool false, .slice A n c, .slice A2 n c2', .func (.func 26) #[] #[.pointer (some ⟨B, 0, none⟩)], x.agg, undef, undef, undef, undef, undef, undef, undef, undef, undef, undef, undef, undef, undef, undef, undef, undef, undef, undef, undef, undef, undef, undef, undef, undef, undef, undef, undef, undef, undef, undef, undef, undef, undef, undef, undef, undef, undef, undef, undef, undef, undef, undef, undef, undef, undef]) x) a' Bx W) (fun x a' => AxC.own x _ a') ?assign ?body ?done ?stop
  case assign =>
    rintro l pre ⟨x0, x1, x2, x3⟩ W K hic hK
    simp only [Ft.agg]
    gi_wp2
    have hsz := hic.gr.size
    exact hK _ _ ((KeepsOthers.alloc _ _).from _) ((Below.refl S W).alloc (by omega) _) (hic.alloc hSlt _) ⟨W.heap.size, hsz, Blk.new W _ _, rfl⟩
  case body =>
    rintro l pre ⟨x0, x1, x2, x3⟩ a' W hll _ hic ⟨Bx, lx, bx, rfl⟩ hlen2
    obtain ⟨A3, c3, hbS, hown⟩ := hic.box
    have kb5 : Blk W w.heap.size 3 #[.int .i64 below] := HKB.out.grown hic.gr (fun e => by injection e with e; omega)
    have s0 := (hbS.cell 0).trans rfl
    have sf := hbS.frozen 0
    have b0 := (kb5.cell 0).trans rfl
    have c0 := (bx.cell 0).trans rfl
    have c1 := (bx.cell 1).trans rfl
    have c2 := (bx.cell 2).trans rfl
    have c3 := (bx.cell 3).trans rfl
    have hlm : pre.length < n := by simpa [HML.out] using hlen2
    have hsz := hic.gr.size
    have HIC := Lib.hid hic
    have HOWN := Lib.hid (And.intro hown (And.intro hbS (And.intro bx kb5)))
    clear hic hown hbS bx kb5 hlen2
    by_cases hbr : ((pre.length : Int) == below) = true
    · have hbr' : (pre.length : Int) = below := by simpa using hbr
      have HBR := Lib.hid hbr'
      subst hbr'
      gi_wp2
      exact ⟨KeepsFrom.refl _ _, rfl, pre, ⟨x0, x1, x2, x3⟩, rfl, HIC.out, rfl⟩
    · have hbr2 : ((pre.length : Int) == below) = false := by simpa using hbr
      have hbr3 : (pre.length : Int) ≠ below := by simpa using hbr
      have HBR := Lib.hid hbr3
      clear hbr hbr3
      have hownA := HOWN.out.1.alloc (.cells #[.int .i64 x0, .int .i64 x1, .int .i64 x2, .int .i64 x3] 37)
      have hbSA := HOWN.out.2.1.alloc (.cells #[.int .i64 x0, .int .i64 x1, .int .i64 x2, .int .i64 x3] 37)
      gi_wp2_with (first | (gi_at_builtin; refine wpListIn_app rfl (.tmp 27) (.tmp 29) 31 rfl Try.underlying31 info_fault rfl (by omega) (by omega) rfl hownA rfl (heap_alloc_new W _) rfl (by simp [Value.oneCell']) (by omega) (by simp; omega) ?_; intro g cap w4 hown4 hg4 hor4 hlt4; have hbS4 := hbSA.grown hg4 (fun e => by have := own_base hownA S e.symm; omega); have s4 := (hbS4.cell 0).trans rfl; have sf4 := hbS4.frozen 0))
      have hba4 := fun q e => own_base hownA q e
      have hk4 : KeepsFrom w3.heap.size W (w4.setCell ⟨S, 0, none⟩ (.slice (some ⟨g, 0, none⟩) (pre.length + 1) cap)) :=
        (((KeepsOthers.alloc W _).trans (KeepsOthers.of_grownBy hg4 (own_isCells hownA))).trans (KeepsOthers.setCell _ _ _)).from _
      have hbe4 : Below S W (w4.setCell ⟨S, 0, none⟩ (.slice (some ⟨g, 0, none⟩) (pre.length + 1) cap)) :=
        (((Below.refl S W).alloc (by omega) _).grown hg4 (by simp; omega) (fun q e => by have := hba4 q e; omega)).setCell (p := ⟨S, 0, none⟩) (Nat.le_refl _) _
      have hgr4 : w3.grownBy (w4.setCell ⟨S, 0, none⟩ (.slice (some ⟨g, 0, none⟩) (pre.length + 1) cap)) (some S) :=
        grown_set (grown_far (grown_alloc HIC.out.gr _) hg4 hba4) 0 _
      have hgS : some g ≠ some S := fun e => by
        injection e with e
        have := own_base hown4 g rfl
        omega
      have hown5 := hown4.kept (row := some S) (grown_set (g := S) (grown_of_below (Below.refl _ w4) _) 0 (.slice (some ⟨g, 0, none⟩) (pre.length + 1) cap)) (Or.inr hgS)
      have hb5 := (hbS4.set_ 0 (.slice (some ⟨g, 0, none⟩) (pre.length + 1) cap)).of_eq (cs' := #[.slice (some ⟨g, 0, none⟩) (pre.length + 1) cap]) rfl
      refine ⟨hk4, hbe4, hgr4, ⟨some ⟨g, 0, none⟩, cap, ?_, ?_⟩, ?_⟩
      · simpa using hb5
      · rw [eList_snoc]
        simpa [eFt] using hown5
      · intro j hj
        rcases Nat.lt_or_ge j pre.length with h | h
        · exact HIC.out.ne j h
        · have : j = pre.length := by simp at hj; omega
          subst this
          exact HBR.out
  case done =>
    rintro D ys W hD rfl hic hK
    obtain ⟨A3, c3, hbS, hown⟩ := hic.box
    have hzl : (M.map (xOf xs)).length = n := by simp [HML.out]
    rw [hzl] at hbS hown
    have hbw : Below w.heap.size w W := HW3.out.grown hic.gr HW3.out.size (fun q e => by injection e with e; omega)
    have kb5 : Blk W w.heap.size 3 #[.int .i64 below] := HKB.out.grown hic.gr (fun e => by injection e with e; omega)
    have hs2 : Sl eFt 4 W A2 n (M.map (xOf xs)) := Sl.own (k := 4) (fun _ => rfl) (by omega) (HS2.out.kept hic.gr (Or.inr (fun e => by
      have := own_base HS2.out S e
      rw [World.size_alloc] at this
      have := HSQ.out
      omega)))
    have HT : Hid (Sl eFt 4 W A3 n (M.map (xOf xs)) ∧ Sl eFt 4 W A2 n (M.map (xOf xs)) ∧ Blk W S 31 #[.slice A3 n c3] ∧ Blk W w.heap.size 3 #[.int .i64 below] ∧ Below w.heap.size w W) := ⟨Sl.own (k := 4) (fun _ => rfl) (by omega) hown, hs2, hbS, kb5, hbw⟩
    have hne := hic.ne
    rw [hzl] at hne
    have hout : below < 0 ∨ (n : Int) ≤ below := by
      rcases Int.lt_or_le below 0 with h | h
      · exact Or.inl h
      · rcases Int.lt_or_le below n with h2 | h2
        · exact absurd (by omega) (hne below.toNat (by omega))
        · exact Or.inr h2
    have HKD := Lib.hid hK
    have hDW := (Array.getElem?_eq_some_iff.1 hK).1
    have hgsz := hic.gr.size
    obtain ⟨zs, hzs⟩ : ∃ zs, M.map (xOf xs) = zs := ⟨_, rfl⟩
    rw [hzs] at HT
    have b0 := (kb5.cell 0).trans rfl
    dsimp only
    clear hic hbS hown hs2 kb5 hbw hK hne hzl HST HIC0
    rcases hout with ho | ho
    · have ho2 : ¬ (0 : Int) ≤ below := by omega
      go_wp2_with fail
      clear b0
      have hcc : ∀ W', Below W.heap.size W W' → W'.cell? ⟨S, 0, none⟩ = some (.slice A3 n c3) ∧ W'.cell? ⟨w.heap.size, 0, none⟩ = some (.int .i64 below) := fun W' hb => ⟨((HT.out.2.2.1.below_ hb).cell 0).trans rfl, ((HT.out.2.2.2.1.below_ hb).cell 0).trans rfl⟩
      have hxs := HA.out.below HT.out.2.2.2.2
      have hsm := fun W' (hb : Below W.heap.size W W') => same09_any A3 A2 n c3 c2' zs W' (HT.out.1.below hb) (HT.out.2.1.below hb)
      have hct := fun W' (hb : Below W.heap.size W W') => count_any A n c xs kind below W' (hxs.below hb)
      have hrc := fun W' (hb : Below W.heap.size W W') => refCount_any A n c xs kind below W' (hxs.below hb)
      have hwo := fun W' (hb : Below W.heap.size W W') => without_any A n c xs kind W' (by omega) (hxs.below hb)
      have hrw := fun W' (hb : Below W.heap.size W W') => refWithout_any A n c xs kind W' (by omega) (hxs.below hb)
      have hs2 := fun W' A5 A6 m5 c5 c6 (h5 : Sl eFt 4 W' A5 m5 (xs.filter (keepK kind))) (h6 : Sl eFt 4 W' A6 m5 (xs.filter (keepK kind))) => same09_any A5 A6 m5 c5 c6 (xs.filter (keepK kind)) W' h5 h6
      have HCC := Lib.hid hcc
      generalize ((countF kind below xs : Nat) : Int) = cnt at hct hrc
      have HSM := Lib.hid hsm
      clear hsm
      have HCT := Lib.hid hct
      clear hct
      have HRC := Lib.hid hrc
      clear hrc
      have HWO := Lib.hid hwo
      clear hwo
      have HRW := Lib.hid hrw
      clear hrw
      have HS2 := Lib.hid hs2
      clear hs2
      obtain ⟨k0, k1⟩ := HCC.out W (Below.refl _ _)
      clear hcc hxs
      go_wp2_with fail
      go_region_held3 (fun w' => w'.cell? ⟨S, 0, none⟩ = some (.slice A3 n c3) ∧ w'.cell? ⟨w.heap.size, 0, none⟩ = some (.int .i64 below)) (first | go_keep | exact kk_bg | exact kk_bf | exact kk_be | exact kk_bd | exact kk_bc | exact kk_bb | exact kk_ba)
        (first
          | (go_at_call 12; ((with_reducible refine (HSM.out _ (by (first | exact bg | exact bg.drew | exact bf | exact bf.drew | exact be | exact be.drew | exact bd | exact bd.drew | exact bc | exact bc.drew | exact bb | exact bb.drew | exact ba | exact ba.drew | exact Below.refl _ _ | exact (Below.refl _ _).drew))).mono ?_); rintro e wa_ ⟨rfl, hb_⟩; have ba := below_tr (w := W) (by (first | exact bg | exact bg.drew | exact bf | exact bf.drew | exact be | exact be.drew | exact bd | exact bd.drew | exact bc | exact bc.drew | exact bb | exact bb.drew | exact ba | exact ba.drew | exact Below.refl _ _ | exact (Below.refl _ _).drew)) hb_; clear hb_; have kk_ba := HCC.out _ ba))
          | (go_at_call 13; ((with_reducible refine (HCT.out _ (by (first | exact bg | exact bg.drew | exact bf | exact bf.drew | exact be | exact be.drew | exact bd | exact bd.drew | exact bc | exact bc.drew | exact bb | exact bb.drew | exact ba | exact ba.drew | exact Below.refl _ _ | exact (Below.refl _ _).drew))).mono ?_); rintro e wb_ ⟨rfl, hb_⟩; have bb := below_tr (w := W) (by (first | exact bg | exact bg.drew | exact bf | exact bf.drew | exact be | exact be.drew | exact bd | exact bd.drew | exact bc | exact bc.drew | exact bb | exact bb.drew | exact ba | exact ba.drew | exact Below.refl _ _ | exact (Below.refl _ _).drew)) hb_; clear hb_; have kk_bb := HCC.out _ bb))
          | (go_at_call 14; ((with_reducible refine (HRC.out _ (by (first | exact bg | exact bg.drew | exact bf | exact bf.drew | exact be | exact be.drew | exact bd | exact bd.drew | exact bc | exact bc.drew | exact bb | exact bb.drew | exact ba | exact ba.drew | exact Below.refl _ _ | exact (Below.refl _ _).drew))).mono ?_); rintro e wc_ ⟨rfl, hb_⟩; have bc := below_tr (w := W) (by (first | exact bg | exact bg.drew | exact bf | exact bf.drew | exact be | exact be.drew | exact bd | exact bd.drew | exact bc | exact bc.drew | exact bb | exact bb.drew | exact ba | exact ba.drew | exact Below.refl _ _ | exact (Below.refl _ _).drew)) hb_; clear hb_; have kk_bc := HCC.out _ bc))
          | (go_at_call 15; ((with_reducible refine (HWO.out _ (by (first | exact bg | exact bg.drew | exact bf | exact bf.drew | exact be | exact be.drew | exact bd | exact bd.drew | exact bc | exact bc.drew | exact bb | exact bb.drew | exact ba | exact ba.drew | exact Below.refl _ _ | exact (Below.refl _ _).drew))).mono ?_); rintro e wd_ ⟨A5, m5, c5, rfl, hs5, hb_⟩; have bd := below_tr (w := W) (by (first | exact bg | exact bg.drew | exact bf | exact bf.drew | exact be | exact be.drew | exact bd | exact bd.drew | exact bc | exact bc.drew | exact bb | exact bb.drew | exact ba | exact ba.drew | exact Below.refl _ _ | exact (Below.refl _ _).drew)) hb_; have hm5 := hs5.len; subst hm5; have kk_bd := HCC.out _ bd; (try have hs6' := hs6.below hb_); (try have hs6'' := hs6.below (below_tr ((Below.refl _ _).drew) hb_)); have hs5' := hs5; clear hb_))
          | (go_at_call 16; ((with_reducible refine (HRW.out _ (by (first | exact bg | exact bg.drew | exact bf | exact bf.drew | exact be | exact be.drew | exact bd | exact bd.drew | exact bc | exact bc.drew | exact bb | exact bb.drew | exact ba | exact ba.drew | exact Below.refl _ _ | exact (Below.refl _ _).drew))).mono ?_); rintro e we_ ⟨A6, m6, c6, rfl, hs6, hb_⟩; have be := below_tr (w := W) (by (first | exact bg | exact bg.drew | exact bf | exact bf.drew | exact be | exact be.drew | exact bd | exact bd.drew | exact bc | exact bc.drew | exact bb | exact bb.drew | exact ba | exact ba.drew | exact Below.refl _ _ | exact (Below.refl _ _).drew)) hb_; have hm6 := hs6.len; subst hm6; have kk_be := HCC.out _ be; (try have hs5' := hs5.below hb_); (try have hs5'' := hs5.below (below_tr ((Below.refl _ _).drew) hb_)); have hs6' := hs6; clear hb_))
          | (go_at_call 12; ((with_reducible refine (HS2.out _ _ _ _ _ _ hs5' hs6').mono ?_); rintro e wf_ ⟨rfl, hb_⟩; have bf := below_tr (w := W) (by (first | exact bg | exact bg.drew | exact bf | exact bf.drew | exact be | exact be.drew | exact bd | exact bd.drew | exact bc | exact bc.drew | exact bb | exact bb.drew | exact ba | exact ba.drew | exact Below.refl _ _ | exact (Below.refl _ _).drew)) hb_; clear hb_; have kk_bf := HCC.out _ bf))
          | (go_at_call 9; ((with_reducible refine (works09 _).mono ?_); rintro e wg_ ⟨rfl, hb_⟩; have bg := below_tr (w := W) (by (first | exact bg | exact bg.drew | exact bf | exact bf.drew | exact be | exact be.drew | exact bd | exact bd.drew | exact bc | exact bc.drew | exact bb | exact bb.drew | exact ba | exact ba.drew | exact Below.refl _ _ | exact (Below.refl _ _).drew)) hb_; clear hb_; have kk_bg := HCC.out _ bg)))
      all_goals
        go_wp2
        refine ⟨by simp, .inl ⟨D, _, rfl, run_takeDeferred ((bg.block D (by omega)).trans HKD.out), ?_⟩⟩
        refine ⟨_, results_tmp rfl _ _ _, rfl, ?_⟩
        have hbw := HT.out.2.2.2.2.trans (bg.mono HT.out.2.2.2.2.size)
        exact hbw.trans (belowK_b (w := w) (Nat.le_refl _) _ D _ _ (by omega) ((bg.block D (by omega)).trans HKD.out) rfl rfl)
    · have ho2 : ¬ below < (n : Int) := by omega
      have ho3 : (0 : Int) ≤ below := by omega
      go_wp2_with fail
      clear b0
      have hcc : ∀ W', Below W.heap.size W W' → W'.cell? ⟨S, 0, none⟩ = some (.slice A3 n c3) ∧ W'.cell? ⟨w.heap.size, 0, none⟩ = some (.int .i64 below) := fun W' hb => ⟨((HT.out.2.2.1.below_ hb).cell 0).trans rfl, ((HT.out.2.2.2.1.below_ hb).cell 0).trans rfl⟩
      have hxs := HA.out.below HT.out.2.2.2.2
      have hsm := fun W' (hb : Below W.heap.size W W') => same09_any A3 A2 n c3 c2' zs W' (HT.out.1.below hb) (HT.out.2.1.below hb)
      have hct := fun W' (hb : Below W.heap.size W W') => count_any A n c xs kind below W' (hxs.below hb)
      have hrc := fun W' (hb : Below W.heap.size W W') => refCount_any A n c xs kind below W' (hxs.below hb)
      have hwo := fun W' (hb : Below W.heap.size W W') => without_any A n c xs kind W' (by omega) (hxs.below hb)
      have hrw := fun W' (hb : Below W.heap.size W W') => refWithout_any A n c xs kind W' (by omega) (hxs.below hb)
      have hs2 := fun W' A5 A6 m5 c5 c6 (h5 : Sl eFt 4 W' A5 m5 (xs.filter (keepK kind))) (h6 : Sl eFt 4 W' A6 m5 (xs.filter (keepK kind))) => same09_any A5 A6 m5 c5 c6 (xs.filter (keepK kind)) W' h5 h6
      have HCC := Lib.hid hcc
      generalize ((countF kind below xs : Nat) : Int) = cnt at hct hrc
      have HSM := Lib.hid hsm
      clear hsm
      have HCT := Lib.hid hct
      clear hct
      have HRC := Lib.hid hrc
      clear hrc
      have HWO := Lib.hid hwo
      clear hwo
      have HRW := Lib.hid hrw
      clear hrw
      have HS2 := Lib.hid hs2
      clear hs2
      obtain ⟨k0, k1⟩ := HCC.out W (Below.refl _ _)
      clear hcc hxs
      go_wp2_with fail
      go_region_held3 (fun w' => w'.cell? ⟨S, 0, none⟩ = some (.slice A3 n c3) ∧ w'.cell? ⟨w.heap.size, 0, none⟩ = some (.int .i64 below)) (first | go_keep | exact kk_bg | exact kk_bf | exact kk_be | exact kk_bd | exact kk_bc | exact kk_bb | exact kk_ba)
        (first
          | (go_at_call 12; ((with_reducible refine (HSM.out _ (by (first | exact bg | exact bg.drew | exact bf | exact bf.drew | exact be | exact be.drew | exact bd | exact bd.drew | exact bc | exact bc.drew | exact bb | exact bb.drew | exact ba | exact ba.drew | exact Below.refl _ _ | exact (Below.refl _ _).drew))).mono ?_); rintro e wa_ ⟨rfl, hb_⟩; have ba := below_tr (w := W) (by (first | exact bg | exact bg.drew | exact bf | exact bf.drew | exact be | exact be.drew | exact bd | exact bd.drew | exact bc | exact bc.drew | exact bb | exact bb.drew | exact ba | exact ba.drew | exact Below.refl _ _ | exact (Below.refl _ _).drew)) hb_; clear hb_; have kk_ba := HCC.out _ ba))
          | (go_at_call 13; ((with_reducible refine (HCT.out _ (by (first | exact bg | exact bg.drew | exact bf | exact bf.drew | exact be | exact be.drew | exact bd | exact bd.drew | exact bc | exact bc.drew | exact bb | exact bb.drew | exact ba | exact ba.drew | exact Below.refl _ _ | exact (Below.refl _ _).drew))).mono ?_); rintro e wb_ ⟨rfl, hb_⟩; have bb := below_tr (w := W) (by (first | exact bg | exact bg.drew | exact bf | exact bf.drew | exact be | exact be.drew | exact bd | exact bd.drew | exact bc | exact bc.drew | exact bb | exact bb.drew | exact ba | exact ba.drew | exact Below.refl _ _ | exact (Below.refl _ _).drew)) hb_; clear hb_; have kk_bb := HCC.out _ bb))
          | (go_at_call 14; ((with_reducible refine (HRC.out _ (by (first | exact bg | exact bg.drew | exact bf | exact bf.drew | exact be | exact be.drew | exact bd | exact bd.drew | exact bc | exact bc.drew | exact bb | exact bb.drew | exact ba | exact ba.drew | exact Below.refl _ _ | exact (Below.refl _ _).drew))).mono ?_); rintro e wc_ ⟨rfl, hb_⟩; have bc := below_tr (w := W) (by (first | exact bg | exact bg.drew | exact bf | exact bf.drew | exact be | exact be.drew | exact bd | exact bd.drew | exact bc | exact bc.drew | exact bb | exact bb.drew | exact ba | exact ba.drew | exact Below.refl _ _ | exact (Below.refl _ _).drew)) hb_; clear hb_; have kk_bc := HCC.out _ bc))
          | (go_at_call 15; ((with_reducible refine (HWO.out _ (by (first | exact bg | exact bg.drew | exact bf | exact bf.drew | exact be | exact be.drew | exact bd | exact bd.drew | exact bc | exact bc.drew | exact bb | exact bb.drew | exact ba | exact ba.drew | exact Below.refl _ _ | exact (Below.refl _ _).drew))).mono ?_); rintro e wd_ ⟨A5, m5, c5, rfl, hs5, hb_⟩; have bd := below_tr (w := W) (by (first | exact bg | exact bg.drew | exact bf | exact bf.drew | exact be | exact be.drew | exact bd | exact bd.drew | exact bc | exact bc.drew | exact bb | exact bb.drew | exact ba | exact ba.drew | exact Below.refl _ _ | exact (Below.refl _ _).drew)) hb_; have hm5 := hs5.len; subst hm5; have kk_bd := HCC.out _ bd; (try have hs6' := hs6.below hb_); (try have hs6'' := hs6.below (below_tr ((Below.refl _ _).drew) hb_)); have hs5' := hs5; clear hb_))
          | (go_at_call 16; ((with_reducible refine (HRW.out _ (by (first | exact bg | exact bg.drew | exact bf | exact bf.drew | exact be | exact be.drew | exact bd | exact bd.drew | exact bc | exact bc.drew | exact bb | exact bb.drew | exact ba | exact ba.drew | exact Below.refl _ _ | exact (Below.refl _ _).drew))).mono ?_); rintro e we_ ⟨A6, m6, c6, rfl, hs6, hb_⟩; have be := below_tr (w := W) (by (first | exact bg | exact bg.drew | exact bf | exact bf.drew | exact be | exact be.drew | exact bd | exact bd.drew | exact bc | exact bc.drew | exact bb | exact bb.drew | exact ba | exact ba.drew | exact Below.refl _ _ | exact (Below.refl _ _).drew)) hb_; have hm6 := hs6.len; subst hm6; have kk_be := HCC.out _ be; (try have hs5' := hs5.below hb_); (try have hs5'' := hs5.below (below_tr ((Below.refl _ _).drew) hb_)); have hs6' := hs6; clear hb_))
          | (go_at_call 12; ((with_reducible refine (HS2.out _ _ _ _ _ _ hs5' hs6').mono ?_); rintro e wf_ ⟨rfl, hb_⟩; have bf := below_tr (w := W) (by (first | exact bg | exact bg.drew | exact bf | exact bf.drew | exact be | exact be.drew | exact bd | exact bd.drew | exact bc | exact bc.drew | exact bb | exact bb.drew | exact ba | exact ba.drew | exact Below.refl _ _ | exact (Below.refl _ _).drew)) hb_; clear hb_; have kk_bf := HCC.out _ bf))
          | (go_at_call 9; ((with_reducible refine (works09 _).mono ?_); rintro e wg_ ⟨rfl, hb_⟩; have bg := below_tr (w := W) (by (first | exact bg | exact bg.drew | exact bf | exact bf.drew | exact be | exact be.drew | exact bd | exact bd.drew | exact bc | exact bc.drew | exact bb | exact bb.drew | exact ba | exact ba.drew | exact Below.refl _ _ | exact (Below.refl _ _).drew)) hb_; clear hb_; have kk_bg := HCC.out _ bg)))
      all_goals
        go_wp2
        refine ⟨by simp, .inl ⟨D, _, rfl, run_takeDeferred ((bg.block D (by omega)).trans HKD.out), ?_⟩⟩
        refine ⟨_, results_tmp rfl _ _ _, rfl, ?_⟩
        have hbw := HT.out.2.2.2.2.trans (bg.mono HT.out.2.2.2.2.size)
        exact hbw.trans (belowK_b (w := w) (Nat.le_refl _) _ D _ _ (by omega) ((bg.block D (by omega)).trans HKD.out) rfl rfl)
  case stop =>
    rintro D cd pre W hD hpre ⟨rfl, pre', x, rfl, hic, hbe⟩ hK
    obtain ⟨A3, c3, hbS, hown⟩ := hic.box
    have hzl : (M.map (xOf xs)).length = n := by simp [HML.out]
    obtain ⟨rest, hrest⟩ := hpre
    have hkn : pre'.length < n := by
      rw [← hzl, ← hrest]
      simp
    have hbw : Below w.heap.size w W := HW3.out.grown hic.gr HW3.out.size (fun q e => by injection e with e; omega)
    have kb5 : Blk W w.heap.size 3 #[.int .i64 below] := HKB.out.grown hic.gr (fun e => by injection e with e; omega)
    have hs2 : Sl eFt 4 W A2 n (M.map (xOf xs)) := Sl.own (k := 4) (fun _ => rfl) (by omega) (HS2.out.kept hic.gr (Or.inr (fun e => by
      have := own_base HS2.out S e
      rw [World.size_alloc] at this
      have := HSQ.out
      omega)))
    obtain ⟨b2, o2, hA2, _⟩ := hs2.2.2 (by omega)
    subst hA2
    have hs3 := hs2.take_ (m := pre'.length) (by omega)
    rw [← hrest, List.append_assoc, List.take_left] at hs3
    subst hbe
    have HT : Hid (Sl eFt 4 W A3 pre'.length pre' ∧ Sl eFt 4 W (some ⟨b2, o2, none⟩) pre'.length pre' ∧ Blk W S 31 #[.slice A3 pre'.length c3] ∧ Blk W w.heap.size 3 #[.int .i64 (pre'.length : Int)] ∧ Below w.heap.size w W) := ⟨Sl.own (k := 4) (fun _ => rfl) (by omega) hown, hs3, hbS, kb5, hbw⟩
    have HKD := Lib.hid hK
    have hDW := (Array.getElem?_eq_some_iff.1 hK).1
    have hgsz := hic.gr.size
    have b0 := (kb5.cell 0).trans rfl
    have hc2' := HC2.out
    have ho2 : (0 : Int) ≤ (pre'.length : Int) := by omega
    have ho3 : (pre'.length : Int) < (n : Int) := by omega
    have hcc2 : pre'.length ≤ c2' := by omega
    clear hic hbS hown hs2 hs3 kb5 hbw hK hzl hrest HST HIC0 HS2
    refine wpIn_wide.2 ?_
    go_wp2_with fail
    clear b0
    have hcc : ∀ W', Below W.heap.size W W' → W'.cell? ⟨S, 0, none⟩ = some (.slice A3 pre'.length c3) ∧ W'.cell? ⟨w.heap.size, 0, none⟩ = some (.int .i64 (pre'.length : Int)) := fun W' hb => ⟨((HT.out.2.2.1.below_ hb).cell 0).trans rfl, ((HT.out.2.2.2.1.below_ hb).cell 0).trans rfl⟩
    have hxs := HA.out.below HT.out.2.2.2.2
    have hsm := fun W' (hb : Below W.heap.size W W') => same09_any A3 (some ⟨b2, o2, none⟩) pre'.length c3 c2' pre' W' (HT.out.1.below hb) (HT.out.2.1.below hb)
    have hct := fun W' (hb : Below W.heap.size W W') => count_any A n c xs kind (pre'.length : Int) W' (hxs.below hb)
    have hrc := fun W' (hb : Below W.heap.size W W') => refCount_any A n c xs kind (pre'.length : Int) W' (hxs.below hb)
    have hwo := fun W' (hb : Below W.heap.size W W') => without_any A n c xs kind W' (by omega) (hxs.below hb)
    have hrw := fun W' (hb : Below W.heap.size W W') => refWithout_any A n c xs kind W' (by omega) (hxs.below hb)
    have hs2 := fun W' A5 A6 m5 c5 c6 (h5 : Sl eFt 4 W' A5 m5 (xs.filter (keepK kind))) (h6 : Sl eFt 4 W' A6 m5 (xs.filter (keepK kind))) => same09_any A5 A6 m5 c5 c6 (xs.filter (keepK kind)) W' h5 h6
    have HCC := Lib.hid hcc
    generalize ((countF kind (pre'.length : Int) xs : Nat) : Int) = cnt at hct hrc
    have HSM := Lib.hid hsm
    clear hsm
    have HCT := Lib.hid hct
    clear hct
    have HRC := Lib.hid hrc
    clear hrc
    have HWO := Lib.hid hwo
    clear hwo
    have HRW := Lib.hid hrw
    clear hrw
    have HS2 := Lib.hid hs2
    clear hs2
    obtain ⟨k0, k1⟩ := HCC.out W (Below.refl _ _)
    clear hcc hxs
    go_wp2_with fail
    go_region_held3 (fun w' => w'.cell? ⟨S, 0, none⟩ = some (.slice A3 pre'.length c3) ∧ w'.cell? ⟨w.heap.size, 0, none⟩ = some (.int .i64 (pre'.length : Int))) (first | go_keep | exact kk_bg | exact kk_bf | exact kk_be | exact kk_bd | exact kk_bc | exact kk_bb | exact kk_ba)
      (first
        | (go_at_call 12; ((with_reducible refine (HSM.out _ (by (first | exact bg | exact bg.drew | exact bf | exact bf.drew | exact be | exact be.drew | exact bd | exact bd.drew | exact bc | exact bc.drew | exact bb | exact bb.drew | exact ba | exact ba.drew | exact Below.refl _ _ | exact (Below.refl _ _).drew))).mono ?_); rintro e wa_ ⟨rfl, hb_⟩; have ba := below_tr (w := W) (by (first | exact bg | exact bg.drew | exact bf | exact bf.drew | exact be | exact be.drew | exact bd | exact bd.drew | exact bc | exact bc.drew | exact bb | exact bb.drew | exact ba | exact ba.drew | exact Below.refl _ _ | exact (Below.refl _ _).drew)) hb_; clear hb_; have kk_ba := HCC.out _ ba))
        | (go_at_call 13; ((with_reducible refine (HCT.out _ (by (first | exact bg | exact bg.drew | exact bf | exact bf.drew | exact be | exact be.drew | exact bd | exact bd.drew | exact bc | exact bc.drew | exact bb | exact bb.drew | exact ba | exact ba.drew | exact Below.refl _ _ | exact (Below.refl _ _).drew))).mono ?_); rintro e wb_ ⟨rfl, hb_⟩; have bb := below_tr (w := W) (by (first | exact bg | exact bg.drew | exact bf | exact bf.drew | exact be | exact be.drew | exact bd | exact bd.drew | exact bc | exact bc.drew | exact bb | exact bb.drew | exact ba | exact ba.drew | exact Below.refl _ _ | exact (Below.refl _ _).drew)) hb_; clear hb_; have kk_bb := HCC.out _ bb))
        | (go_at_call 14; ((with_reducible refine (HRC.out _ (by (first | exact bg | exact bg.drew | exact bf | exact bf.drew | exact be | exact be.drew | exact bd | exact bd.drew | exact bc | exact bc.drew | exact bb | exact bb.drew | exact ba | exact ba.drew | exact Below.refl _ _ | exact (Below.refl _ _).drew))).mono ?_); rintro e wc_ ⟨rfl, hb_⟩; have bc := below_tr (w := W) (by (first | exact bg | exact bg.drew | exact bf | exact bf.drew | exact be | exact be.drew | exact bd | exact bd.drew | exact bc | exact bc.drew | exact bb | exact bb.drew | exact ba | exact ba.drew | exact Below.refl _ _ | exact (Below.refl _ _).drew)) hb_; clear hb_; have kk_bc := HCC.out _ bc))
        | (go_at_call 15; ((with_reducible refine (HWO.out _ (by (first | exact bg | exact bg.drew | exact bf | exact bf.drew | exact be | exact be.drew | exact bd | exact bd.drew | exact bc | exact bc.drew | exact bb | exact bb.drew | exact ba | exact ba.drew | exact Below.refl _ _ | exact (Below.refl _ _).drew))).mono ?_); rintro e wd_ ⟨A5, m5, c5, rfl, hs5, hb_⟩; have bd := below_tr (w := W) (by (first | exact bg | exact bg.drew | exact bf | exact bf.drew | exact be | exact be.drew | exact bd | exact bd.drew | exact bc | exact bc.drew | exact bb | exact bb.drew | exact ba | exact ba.drew | exact Below.refl _ _ | exact (Below.refl _ _).drew)) hb_; have hm5 := hs5.len; subst hm5; have kk_bd := HCC.out _ bd; (try have hs6' := hs6.below hb_); (try have hs6'' := hs6.below (below_tr ((Below.refl _ _).drew) hb_)); have hs5' := hs5; clear hb_))
        | (go_at_call 16; ((with_reducible refine (HRW.out _ (by (first | exact bg | exact bg.drew | exact bf | exact bf.drew | exact be | exact be.drew | exact bd | exact bd.drew | exact bc | exact bc.drew | exact bb | exact bb.drew | exact ba | exact ba.drew | exact Below.refl _ _ | exact (Below.refl _ _).drew))).mono ?_); rintro e we_ ⟨A6, m6, c6, rfl, hs6, hb_⟩; have be := below_tr (w := W) (by (first | exact bg | exact bg.drew | exact bf | exact bf.drew | exact be | exact be.drew | exact bd | exact bd.drew | exact bc | exact bc.drew | exact bb | exact bb.drew | exact ba | exact ba.drew | exact Below.refl _ _ | exact (Below.refl _ _).drew)) hb_; have hm6 := hs6.len; subst hm6; have kk_be := HCC.out _ be; (try have hs5' := hs5.below hb_); (try have hs5'' := hs5.below (below_tr ((Below.refl _ _).drew) hb_)); have hs6' := hs6; clear hb_))
        | (go_at_call 12; ((with_reducible refine (HS2.out _ _ _ _ _ _ hs5' hs6').mono ?_); rintro e wf_ ⟨rfl, hb_⟩; have bf := below_tr (w := W) (by (first | exact bg | exact bg.drew | exact bf | exact bf.drew | exact be | exact be.drew | exact bd | exact bd.drew | exact bc | exact bc.drew | exact bb | exact bb.drew | exact ba | exact ba.drew | exact Below.refl _ _ | exact (Below.refl _ _).drew)) hb_; clear hb_; have kk_bf := HCC.out _ bf))
        | (go_at_call 9; ((with_reducible refine (works09 _).mono ?_); rintro e wg_ ⟨rfl, hb_⟩; have bg := below_tr (w := W) (by (first | exact bg | exact bg.drew | exact bf | exact bf.drew | exact be | exact be.drew | exact bd | exact bd.drew | exact bc | exact bc.drew | exact bb | exact bb.drew | exact ba | exact ba.drew | exact Below.refl _ _ | exact (Below.refl _ _).drew)) hb_; clear hb_; have kk_bg := HCC.out _ bg)))
    all_goals
      go_wp2
      refine ⟨by simp, .inl ⟨D, _, rfl, run_takeDeferred ((bg.block D (by omega)).trans HKD.out), ?_⟩⟩
      refine ⟨_, results_tmp rfl _ _ _, rfl, ?_⟩
      have hbw := HT.out.2.2.2.2.trans (bg.mono HT.out.2.2.2.2.size)
      exact hbw.trans (belowK_b (w := w) (Nat.le_refl _) _ D _ _ (by omega) ((bg.block D (by omega)).trans HKD.out) rfl rfl)
#print axioms counts_walk
end Go.Proofs.Ytdjfkehbknbocab

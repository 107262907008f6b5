/- The walk of greatest (decklelaw17): a range over scan.Where that marks which sectors' pages were there. -/
import Derived.Test.YtdjfkehbknbocaaWhereG
import Derived.Test.YtdjfkehbknbocaaQuietLast
import Derived.Test.YtdjfkehbknbocaaMapB
import Derived.Test.YtdjfkehbknbocaaBestP
import Derived.Test.YtdjfkehbknbocaaSame
namespace Go.Proofs.Ytdjfkehbknbocaa
open Go.RowKit Go.Shelf
set_option linter.unusedSimpArgs false
set_option linter.unusedVariables false
attribute [local go_sem] Oper.semAt_some

def Good17 (fl co : List Int) (i : Nat) (m : Int) (ads : List Ad) (ns : List Int) (x : Ad × Pg) : Prop :=
  mayF 4 fl co i m x.2 = true → ∃ (l : Nat) (ad : Ad) (sq : Int), l < 4 ∧ x.2.tag.lba = l ∧ ads[l]? = some ad ∧ ns[l]? = some sq ∧ ¬ ad.block < 0 ∧ x.2.tag.seq ≤ sq ∧ (x.1 = ad → x.2.tag.seq = sq)
def snStep (fl co : List Int) (i : Nat) (m : Int) (ads : List Ad) (sn : List Bool) (x : Ad × Pg) : List Bool := if mayF 4 fl co i m x.2 = true ∧ ads[x.2.tag.lba.toNat]? = some x.1 then sn.set x.2.tag.lba.toNat true else sn
def snFold (fl co : List Int) (i : Nat) (m : Int) (ads : List Ad) (sn : List Bool) (xs : List (Ad × Pg)) : List Bool := xs.foldl (snStep fl co i m ads) sn
theorem snFold_snoc (fl co : List Int) (i : Nat) (m : Int) (ads : List Ad) (sn : List Bool) (xs : List (Ad × Pg)) (x : Ad × Pg) : snFold fl co i m ads sn (xs ++ [x]) = snStep fl co i m ads (snFold fl co i m ads sn xs) x := by simp [snFold]
theorem eList_len_ {α : Type} {en : α → List Value} {k : Nat} (hk : ∀ x, (en x).length = k) (xs : List α) : (eList en xs).length = xs.length * k := by
  induction xs with
  | nil => simp [eList]
  | cons y ys ih => simp only [eList, List.map_cons, List.flatten_cons, List.length_append, List.length_cons, hk, Nat.add_mul] at ih ⊢; omega
/-- Between two rounds: since the world w5 nothing has turned but block gs, which holds the marks. -/
structure IG (base : Nat) (w5 : World) (gs cs : Nat) (xs : List Bool) (W : World) : Prop where
  gr : w5.grownBy W (some gs)
  own : W.ownsRow base 4 1 (.slice (some ⟨gs, 0, none⟩) 4 cs) 4 (eList eBool xs)
theorem IG.own_ {base : Nat} {w5 : World} {gs cs : Nat} {β : Type} {f : β → List Bool} (h : gs < w5.heap.size) : OwnFrom w5.heap.size (fun pre W => IG base w5 gs cs (f pre) W) := fun pre A B row hs hg hr => by
  have hne : ∀ k, row = some k → w5.heap.size ≤ k := fun k e => (hr k e).1
  refine ⟨⟨hg.os.trans hs.gr.os, hg.tape.trans hs.gr.tape, hg.output.trans hs.gr.output, Nat.le_trans hs.gr.size hg.size, fun k hk hk2 => (hg.block k (Nat.lt_of_lt_of_le hk hs.gr.size) (fun e => by have := hne _ e.symm; omega)).trans (hs.gr.block k hk hk2)⟩, hs.own.kept hg (Or.inr (fun e => ?_))⟩
  have e' : some gs = row := e
  have := hne _ e'.symm
  omega
set_option maxRecDepth 100000 in
set_option maxHeartbeats 40000000 in
theorem greatest_any (s : St) (fl co : List Int) (i : Nat) (x : Bl) (ga ca gi ci gs cs base : Nat) (ads : List Ad) (ns : List Int) (sn : List Bool) (w0 w : World) (hf : Sl eInt 1 w0 s.f.A s.f.n fl) (hc : Sl eInt 1 w0 s.c.A s.c.n co) (hps : Sl ePg 6 w0 x.b.p.A x.b.p.n x.pages) (hw : Below w0.heap.size w0 w)
    (hads : w.ownsRow base 70 3 (.slice (some ⟨ga, 0, none⟩) 4 ca) 4 (eList eAd ads)) (hns : w.ownsRow base 3 1 (.slice (some ⟨gi, 0, none⟩) 4 ci) 4 (eList eInt ns)) (hsn : w.ownsRow base 4 1 (.slice (some ⟨gs, 0, none⟩) 4 cs) 4 (eList eBool sn)) (hbase : w0.heap.size ≤ base) (n1 : ga ≠ gs) (n2 : gi ≠ gs)
    (hi : i ≤ 9223372036854775807) (hgood : ∀ (k : Nat) p, x.pages[k]? = some p → Good17 fl co i x.b.mode ads ns (addrF i x.b.mode k, p)) :
    Calls Try.prog 42 #[s.agg, .int .i64 i, x.b.agg, .slice (some ⟨ga, 0, none⟩) 4 ca, .slice (some ⟨gi, 0, none⟩) 4 ci, .slice (some ⟨gs, 0, none⟩) 4 cs] w fun e w' => e = .returned (.bool true) ∧
      ∃ ys, PreF i x.b.mode x.pages x.pages.length ys ∧ w'.ownsRow base 4 1 (.slice (some ⟨gs, 0, none⟩) 4 cs) 4 (eList eBool (snFold fl co i x.b.mode ads sn ys)) ∧ w.grownBy w' (some gs) := by
  have hmay := fun W (hW : Below w0.heap.size w0 W) p => may_any ⟨8, 6, 64, 4, 0, 4⟩ s fl co i x.b p W (hf.below hW) (hc.below hW)
  obtain ⟨⟨fA, fn, fc⟩, ⟨cA, cn, cc⟩, ⟨sA, sn_, sc⟩, ⟨tA, tn, tc⟩⟩ := s
  obtain ⟨⟨bm, bb, ⟨pA, pn, pcc⟩⟩, pages⟩ := x
  simp only [Geo.agg, St.agg, Bk.agg, Sv.v] at hmay hps hgood ⊢
  have lta := own_lt hads ga rfl
  have lti := own_lt hns gi rfl
  have lts := own_lt hsn gs rfl
  have lbs := own_base hsn gs rfl
  have hw0s := hw.size
  have HMAY := Lib.hid hmay
  have HROWS := Lib.hid (And.intro hads (And.intro hns hsn))
  have HPS := Lib.hid hps
  have HW := Lib.hid hw
  have HGOOD := Lib.hid hgood
  clear hf hc hmay hads hns hsn hps hw hgood
  refine (callsIn_wide (n := 3)).1 ?_
  refine callsIn_of_wp_marks Try.func42 rfl trivial ?_ rfl
  refine wpIn_wide.2 ?_
  simp only [Try.ntmps42, List.size_toArray, List.length_cons, List.length_nil, Nat.reduceAdd, Nat.reduceSub, Array.replicate_succ, Array.replicate_zero, List.push_toArray, List.append_toArray, List.nil_append, List.cons_append]
  go_wp2_with fail
  have k0 := Blk.new w 50 #[.slice fA fn fc, .slice cA cn cc, .slice sA sn_ sc, .slice tA tn tc]
  replace k0 := ((((((k0.alloc (.cells #[.int .i64 i] 3)).alloc (.cells #[.int .i64 bm, .bool bb, .slice pA pn pcc] 60)).alloc (.cells #[.slice (some ⟨ga, 0, none⟩) 4 ca] 53)).alloc (.cells #[.slice (some ⟨gi, 0, none⟩) 4 ci] 32)).alloc (.cells #[.slice (some ⟨gs, 0, none⟩) 4 cs] 33)).alloc (.cells #[.bool false] 4))
  have k1 := Blk.new (w.alloc (.cells #[.slice fA fn fc, .slice cA cn cc, .slice sA sn_ sc, .slice tA tn tc] 50)) 3 #[.int .i64 i]
  simp only [World.size_alloc] at k1
  replace k1 := (((((k1.alloc (.cells #[.int .i64 bm, .bool bb, .slice pA pn pcc] 60)).alloc (.cells #[.slice (some ⟨ga, 0, none⟩) 4 ca] 53)).alloc (.cells #[.slice (some ⟨gi, 0, none⟩) 4 ci] 32)).alloc (.cells #[.slice (some ⟨gs, 0, none⟩) 4 cs] 33)).alloc (.cells #[.bool false] 4))
  have k2 := Blk.new ((w.alloc (.cells #[.slice fA fn fc, .slice cA cn cc, .slice sA sn_ sc, .slice tA tn tc] 50)).alloc (.cells #[.int .i64 i] 3)) 60 #[.int .i64 bm, .bool bb, .slice pA pn pcc]
  simp only [World.size_alloc] at k2
  replace k2 := ((((k2.alloc (.cells #[.slice (some ⟨ga, 0, none⟩) 4 ca] 53)).alloc (.cells #[.slice (some ⟨gi, 0, none⟩) 4 ci] 32)).alloc (.cells #[.slice (some ⟨gs, 0, none⟩) 4 cs] 33)).alloc (.cells #[.bool false] 4))
  have k3 := Blk.new (((w.alloc (.cells #[.slice fA fn fc, .slice cA cn cc, .slice sA sn_ sc, .slice tA tn tc] 50)).alloc (.cells #[.int .i64 i] 3)).alloc (.cells #[.int .i64 bm, .bool bb, .slice pA pn pcc] 60)) 53 #[.slice (some ⟨ga, 0, none⟩) 4 ca]
  simp only [World.size_alloc] at k3
  replace k3 := (((k3.alloc (.cells #[.slice (some ⟨gi, 0, none⟩) 4 ci] 32)).alloc (.cells #[.slice (some ⟨gs, 0, none⟩) 4 cs] 33)).alloc (.cells #[.bool false] 4))
  have k4 := Blk.new ((((w.alloc (.cells #[.slice fA fn fc, .slice cA cn cc, .slice sA sn_ sc, .slice tA tn tc] 50)).alloc (.cells #[.int .i64 i] 3)).alloc (.cells #[.int .i64 bm, .bool bb, .slice pA pn pcc] 60)).alloc (.cells #[.slice (some ⟨ga, 0, none⟩) 4 ca] 53)) 32 #[.slice (some ⟨gi, 0, none⟩) 4 ci]
  simp only [World.size_alloc] at k4
  replace k4 := ((k4.alloc (.cells #[.slice (some ⟨gs, 0, none⟩) 4 cs] 33)).alloc (.cells #[.bool false] 4))
  have k5 := Blk.new (((((w.alloc (.cells #[.slice fA fn fc, .slice cA cn cc, .slice sA sn_ sc, .slice tA tn tc] 50)).alloc (.cells #[.int .i64 i] 3)).alloc (.cells #[.int .i64 bm, .bool bb, .slice pA pn pcc] 60)).alloc (.cells #[.slice (some ⟨ga, 0, none⟩) 4 ca] 53)).alloc (.cells #[.slice (some ⟨gi, 0, none⟩) 4 ci] 32)) 33 #[.slice (some ⟨gs, 0, none⟩) 4 cs]
  simp only [World.size_alloc] at k5
  replace k5 := (k5.alloc (.cells #[.bool false] 4))
  have k6 := Blk.new ((((((w.alloc (.cells #[.slice fA fn fc, .slice cA cn cc, .slice sA sn_ sc, .slice tA tn tc] 50)).alloc (.cells #[.int .i64 i] 3)).alloc (.cells #[.int .i64 bm, .bool bb, .slice pA pn pcc] 60)).alloc (.cells #[.slice (some ⟨ga, 0, none⟩) 4 ca] 53)).alloc (.cells #[.slice (some ⟨gi, 0, none⟩) 4 ci] 32)).alloc (.cells #[.slice (some ⟨gs, 0, none⟩) 4 cs] 33)) 4 #[.bool false]
  simp only [World.size_alloc] at k6
  replace k6 := k6
  have hb1 : Below w.heap.size w (((((((w.alloc (.cells #[.slice fA fn fc, .slice cA cn cc, .slice sA sn_ sc, .slice tA tn tc] 50)).alloc (.cells #[.int .i64 i] 3)).alloc (.cells #[.int .i64 bm, .bool bb, .slice pA pn pcc] 60)).alloc (.cells #[.slice (some ⟨ga, 0, none⟩) 4 ca] 53)).alloc (.cells #[.slice (some ⟨gi, 0, none⟩) 4 ci] 32)).alloc (.cells #[.slice (some ⟨gs, 0, none⟩) 4 cs] 33)).alloc (.cells #[.bool false] 4)) := by ((try change Below _ _ _); (repeat (any_goals (first | (with_reducible exact Below.refl _ _) | (with_reducible exact Below.refl _ _) | (with_reducible apply Below.drew) | (with_reducible apply below_drewN) | (with_reducible refine Below.alloc ?_ ?_ _) | (with_reducible refine Below.setCell ?_ ?_ _)))); all_goals (first | exact Nat.le_refl _ | (simp; done) | (simp; omega) | omega | (dsimp only; omega)))
  have hs1 : (((((((w.alloc (.cells #[.slice fA fn fc, .slice cA cn cc, .slice sA sn_ sc, .slice tA tn tc] 50)).alloc (.cells #[.int .i64 i] 3)).alloc (.cells #[.int .i64 bm, .bool bb, .slice pA pn pcc] 60)).alloc (.cells #[.slice (some ⟨ga, 0, none⟩) 4 ca] 53)).alloc (.cells #[.slice (some ⟨gi, 0, none⟩) 4 ci] 32)).alloc (.cells #[.slice (some ⟨gs, 0, none⟩) 4 cs] 33)).alloc (.cells #[.bool false] 4)).heap.size = w.heap.size + 7 := by simp
  obtain ⟨w1, hw1⟩ : ∃ w1, (((((((w.alloc (.cells #[.slice fA fn fc, .slice cA cn cc, .slice sA sn_ sc, .slice tA tn tc] 50)).alloc (.cells #[.int .i64 i] 3)).alloc (.cells #[.int .i64 bm, .bool bb, .slice pA pn pcc] 60)).alloc (.cells #[.slice (some ⟨ga, 0, none⟩) 4 ca] 53)).alloc (.cells #[.slice (some ⟨gi, 0, none⟩) 4 ci] 32)).alloc (.cells #[.slice (some ⟨gs, 0, none⟩) 4 cs] 33)).alloc (.cells #[.bool false] 4)) = w1 := ⟨_, rfl⟩
  rw [hw1] at k0 k1 k2 k3 k4 k5 k6 hb1 hs1 ⊢
  clear hw1
  have HQ1 : Hid (∀ W, Below w1.heap.size w1 W → W.cell? ⟨w.heap.size + 1, 0, none⟩ = some (.int .i64 i) ∧ W.cell? ⟨w.heap.size + 2, 0, none⟩ = some (.int .i64 bm) ∧ W.cell? ⟨w.heap.size + 2, 1, none⟩ = some (.bool bb) ∧ W.cell? ⟨w.heap.size + 2, 2, none⟩ = some (.slice pA pn pcc)) := fun W hW =>
    ⟨((k1.below_ hW).cell 0).trans rfl, ((k2.below_ hW).cell 0).trans rfl, ((k2.below_ hW).cell 1).trans rfl, ((k2.below_ hW).cell 2).trans rfl⟩
  have HK := Lib.hid (And.intro k0 (And.intro k1 (And.intro k2 (And.intro k3 (And.intro k4 (And.intro k5 k6))))))
  have HB1 := Lib.hid hb1
  clear k0 k1 k2 k3 k4 k5 k6 hb1
  refine wp_mono (Q := fun e a' w' => e = .normal ∧ ∃ B1 B2, a' = ({ tmps := #[.agg #[.slice fA fn fc, .slice cA cn cc, .slice sA sn_ sc, .slice tA tn tc], .int .i64 i, .agg #[.int .i64 bm, .bool bb, .slice pA pn pcc], .slice (some ⟨ga, 0, none⟩) 4 ca, .slice (some ⟨gi, 0, none⟩) 4 ci, .slice (some ⟨gs, 0, none⟩) 4 cs, .pointer (some ⟨w.heap.size, 0, none⟩), .pointer (some ⟨w.heap.size + 1, 0, none⟩), .pointer (some ⟨w.heap.size + 2, 0, none⟩), .pointer (some ⟨w.heap.size + 3, 0, none⟩), .pointer (some ⟨w.heap.size + 4, 0, none⟩), .pointer (some ⟨w.heap.size + 5, 0, none⟩), .pointer (some ⟨w.heap.size + 6, 0, none⟩), undef, undef, undef, .agg #[.int .i64 8, .int .i64 6, .int .i64 64, .int .i64 4, .int .i64 0, .int .i64 4], .int .i64 i, .agg #[.int .i64 bm, .bool bb, .slice pA pn pcc], .func (.func 83) #[] #[.pointer (some ⟨B2, 0, none⟩), .pointer (some ⟨B1, 0, none⟩)], undef, undef, undef, undef, undef, undef, undef, undef, undef, undef, undef, undef, undef, undef, undef, undef, undef, undef, undef, undef, undef, undef, undef, undef, undef, undef, undef, undef, undef, undef, undef, undef, undef, undef, undef, undef, undef, undef, undef, undef, undef, undef, undef, undef, undef, undef, undef, undef, undef, undef, undef, undef, undef], defers := [] } : Act) ∧ WherePost B1 B2 (i : Int) ⟨bm, bb, ⟨pA, pn, pcc⟩⟩ w1 w' ∧ w1.heap.size ≤ B1 ∧ w1.heap.size ≤ B2) ?cut ?rest
  case cut =>
    have hb2 : Below w1.heap.size w1 w1 := Below.refl _ _
    obtain ⟨i0, b0, b1, b2⟩ := HQ1.out w1 hb2
    refine wp_region_any (by kernel_rfl) ?_
    change wpAny _ _ _ _ _ _ _ (World.drew _)
    refine wpAny_ready (rs := [0, 1, 2]) (by kernel_rfl) (by simp) ?_
    refine AllReady.cons rfl (fun K hK => ?_) ?_
    ·
      go_simp
      refine (geo17_any _).mono ?_
      rintro e w2 ⟨rfl, hb2⟩
      replace hb2 : Below w1.heap.size w1 w2 := ((Below.refl w1.heap.size w1).drew).trans hb2
      obtain ⟨i0, b0, b1, b2⟩ := HQ1.out w2 hb2
      simp only [Geo.agg] at *
      refine hK _ _ ?_; clear hK K
      refine wpAny_ready (rs := [1, 2]) (by kernel_rfl) (by simp) ?_
      refine AllReady.cons rfl (fun K hK => ?_) ?_
      ·
        go_simp
        refine hK _ _ ?_; clear hK K
        refine wpAny_ready (rs := [2]) (by kernel_rfl) (by simp) ?_
        refine AllReady.cons rfl (fun K hK => ?_) ?_
        ·
          go_simp
          refine hK _ _ ?_; clear hK K
          refine wpAny_ready (rs := [3]) (by kernel_rfl) (by simp) ?_
          refine AllReady.cons rfl (fun K hK => ?_) ?_
          ·
            go_simp
            refine (where_any ⟨8, 6, 64, 4, 0, 4⟩ (i : Int) ⟨bm, bb, ⟨pA, pn, pcc⟩⟩ _).mono ?_
            rintro e w3 ⟨rfl, hWP⟩
            have hWQ : WherePost _ _ (i : Int) ⟨bm, bb, ⟨pA, pn, pcc⟩⟩ w1 w3 := ⟨hWP.b1, hWP.b2, below_tr hb2 hWP.below⟩
            refine hK _ _ ?_; clear hK K
            refine wpAny_done (by kernel_rfl) ?_ _
            exact ⟨rfl, _, _, rfl, hWQ, by have := hb2.size; omega, by have := hb2.size; omega⟩
          exact AllReady.nil
        exact AllReady.nil
      refine AllReady.cons rfl (fun K hK => ?_) ?_
      ·
        go_simp
        refine hK _ _ ?_; clear hK K
        refine wpAny_ready (rs := [1]) (by kernel_rfl) (by simp) ?_
        refine AllReady.cons rfl (fun K hK => ?_) ?_
        ·
          go_simp
          refine hK _ _ ?_; clear hK K
          refine wpAny_ready (rs := [3]) (by kernel_rfl) (by simp) ?_
          refine AllReady.cons rfl (fun K hK => ?_) ?_
          ·
            go_simp
            refine (where_any ⟨8, 6, 64, 4, 0, 4⟩ (i : Int) ⟨bm, bb, ⟨pA, pn, pcc⟩⟩ _).mono ?_
            rintro e w3 ⟨rfl, hWP⟩
            have hWQ : WherePost _ _ (i : Int) ⟨bm, bb, ⟨pA, pn, pcc⟩⟩ w1 w3 := ⟨hWP.b1, hWP.b2, below_tr hb2 hWP.below⟩
            refine hK _ _ ?_; clear hK K
            refine wpAny_done (by kernel_rfl) ?_ _
            exact ⟨rfl, _, _, rfl, hWQ, by have := hb2.size; omega, by have := hb2.size; omega⟩
          exact AllReady.nil
        exact AllReady.nil
      exact AllReady.nil
    refine AllReady.cons rfl (fun K hK => ?_) ?_
    ·
      go_simp
      refine hK _ _ ?_; clear hK K
      refine wpAny_ready (rs := [0, 2]) (by kernel_rfl) (by simp) ?_
      refine AllReady.cons rfl (fun K hK => ?_) ?_
      ·
        go_simp
        refine (geo17_any _).mono ?_
        rintro e w2 ⟨rfl, hb2⟩
        replace hb2 : Below w1.heap.size w1 w2 := ((Below.refl w1.heap.size w1).drew).trans hb2
        obtain ⟨i0, b0, b1, b2⟩ := HQ1.out w2 hb2
        simp only [Geo.agg] at *
        refine hK _ _ ?_; clear hK K
        refine wpAny_ready (rs := [2]) (by kernel_rfl) (by simp) ?_
        refine AllReady.cons rfl (fun K hK => ?_) ?_
        ·
          go_simp
          refine hK _ _ ?_; clear hK K
          refine wpAny_ready (rs := [3]) (by kernel_rfl) (by simp) ?_
          refine AllReady.cons rfl (fun K hK => ?_) ?_
          ·
            go_simp
            refine (where_any ⟨8, 6, 64, 4, 0, 4⟩ (i : Int) ⟨bm, bb, ⟨pA, pn, pcc⟩⟩ _).mono ?_
            rintro e w3 ⟨rfl, hWP⟩
            have hWQ : WherePost _ _ (i : Int) ⟨bm, bb, ⟨pA, pn, pcc⟩⟩ w1 w3 := ⟨hWP.b1, hWP.b2, below_tr hb2 hWP.below⟩
            refine hK _ _ ?_; clear hK K
            refine wpAny_done (by kernel_rfl) ?_ _
            exact ⟨rfl, _, _, rfl, hWQ, by have := hb2.size; omega, by have := hb2.size; omega⟩
          exact AllReady.nil
        exact AllReady.nil
      refine AllReady.cons rfl (fun K hK => ?_) ?_
      ·
        go_simp
        refine hK _ _ ?_; clear hK K
        refine wpAny_ready (rs := [0]) (by kernel_rfl) (by simp) ?_
        refine AllReady.cons rfl (fun K hK => ?_) ?_
        ·
          go_simp
          refine (geo17_any _).mono ?_
          rintro e w2 ⟨rfl, hb2⟩
          replace hb2 : Below w1.heap.size w1 w2 := ((Below.refl w1.heap.size w1).drew).trans hb2
          obtain ⟨i0, b0, b1, b2⟩ := HQ1.out w2 hb2
          simp only [Geo.agg] at *
          refine hK _ _ ?_; clear hK K
          refine wpAny_ready (rs := [3]) (by kernel_rfl) (by simp) ?_
          refine AllReady.cons rfl (fun K hK => ?_) ?_
          ·
            go_simp
            refine (where_any ⟨8, 6, 64, 4, 0, 4⟩ (i : Int) ⟨bm, bb, ⟨pA, pn, pcc⟩⟩ _).mono ?_
            rintro e w3 ⟨rfl, hWP⟩
            have hWQ : WherePost _ _ (i : Int) ⟨bm, bb, ⟨pA, pn, pcc⟩⟩ w1 w3 := ⟨hWP.b1, hWP.b2, below_tr hb2 hWP.below⟩
            refine hK _ _ ?_; clear hK K
            refine wpAny_done (by kernel_rfl) ?_ _
            exact ⟨rfl, _, _, rfl, hWQ, by have := hb2.size; omega, by have := hb2.size; omega⟩
          exact AllReady.nil
        exact AllReady.nil
      exact AllReady.nil
    refine AllReady.cons rfl (fun K hK => ?_) ?_
    ·
      go_simp
      refine hK _ _ ?_; clear hK K
      refine wpAny_ready (rs := [0, 1]) (by kernel_rfl) (by simp) ?_
      refine AllReady.cons rfl (fun K hK => ?_) ?_
      ·
        go_simp
        refine (geo17_any _).mono ?_
        rintro e w2 ⟨rfl, hb2⟩
        replace hb2 : Below w1.heap.size w1 w2 := ((Below.refl w1.heap.size w1).drew).trans hb2
        obtain ⟨i0, b0, b1, b2⟩ := HQ1.out w2 hb2
        simp only [Geo.agg] at *
        refine hK _ _ ?_; clear hK K
        refine wpAny_ready (rs := [1]) (by kernel_rfl) (by simp) ?_
        refine AllReady.cons rfl (fun K hK => ?_) ?_
        ·
          go_simp
          refine hK _ _ ?_; clear hK K
          refine wpAny_ready (rs := [3]) (by kernel_rfl) (by simp) ?_
          refine AllReady.cons rfl (fun K hK => ?_) ?_
          ·
            go_simp
            refine (where_any ⟨8, 6, 64, 4, 0, 4⟩ (i : Int) ⟨bm, bb, ⟨pA, pn, pcc⟩⟩ _).mono ?_
            rintro e w3 ⟨rfl, hWP⟩
            have hWQ : WherePost _ _ (i : Int) ⟨bm, bb, ⟨pA, pn, pcc⟩⟩ w1 w3 := ⟨hWP.b1, hWP.b2, below_tr hb2 hWP.below⟩
            refine hK _ _ ?_; clear hK K
            refine wpAny_done (by kernel_rfl) ?_ _
            exact ⟨rfl, _, _, rfl, hWQ, by have := hb2.size; omega, by have := hb2.size; omega⟩
          exact AllReady.nil
        exact AllReady.nil
      refine AllReady.cons rfl (fun K hK => ?_) ?_
      ·
        go_simp
        refine hK _ _ ?_; clear hK K
        refine wpAny_ready (rs := [0]) (by kernel_rfl) (by simp) ?_
        refine AllReady.cons rfl (fun K hK => ?_) ?_
        ·
          go_simp
          refine (geo17_any _).mono ?_
          rintro e w2 ⟨rfl, hb2⟩
          replace hb2 : Below w1.heap.size w1 w2 := ((Below.refl w1.heap.size w1).drew).trans hb2
          obtain ⟨i0, b0, b1, b2⟩ := HQ1.out w2 hb2
          simp only [Geo.agg] at *
          refine hK _ _ ?_; clear hK K
          refine wpAny_ready (rs := [3]) (by kernel_rfl) (by simp) ?_
          refine AllReady.cons rfl (fun K hK => ?_) ?_
          ·
            go_simp
            refine (where_any ⟨8, 6, 64, 4, 0, 4⟩ (i : Int) ⟨bm, bb, ⟨pA, pn, pcc⟩⟩ _).mono ?_
            rintro e w3 ⟨rfl, hWP⟩
            have hWQ : WherePost _ _ (i : Int) ⟨bm, bb, ⟨pA, pn, pcc⟩⟩ w1 w3 := ⟨hWP.b1, hWP.b2, below_tr hb2 hWP.below⟩
            refine hK _ _ ?_; clear hK K
            refine wpAny_done (by kernel_rfl) ?_ _
            exact ⟨rfl, _, _, rfl, hWQ, by have := hb2.size; omega, by have := hb2.size; omega⟩
          exact AllReady.nil
        exact AllReady.nil
      exact AllReady.nil
    exact AllReady.nil
  case rest =>
    rintro e a' w5 ⟨rfl, B1, B2, rfl, hWP, hB1, hB2⟩
    dsimp only
    go_wp2_with fail
    have hszW := hWP.below.size
    have hw15 := hWP.below
    have hl1 := hWP.b1.lt
    have hl2 := hWP.b2.lt
    have hB05 : Below w0.heap.size w0 w5 := HW.out.trans ((HB1.out.mono hw0s).trans (hw15.mono (by omega)))
    have HST := Lib.hid (whereG_stops 2 B1 B2 i ⟨bm, bb, ⟨pA, pn, pcc⟩⟩ pages w0 w5 hi (Good17 fl co i bm ads ns) HGOOD.out HPS.out hB05 hWP.b1 hWP.b2 (by omega) (by omega))
    have hrows : w5.ownsRow base 70 3 (.slice (some ⟨ga, 0, none⟩) 4 ca) 4 (eList eAd ads) ∧ w5.ownsRow base 3 1 (.slice (some ⟨gi, 0, none⟩) 4 ci) 4 (eList eInt ns) ∧ w5.ownsRow base 4 1 (.slice (some ⟨gs, 0, none⟩) 4 cs) 4 (eList eBool sn) :=
      ⟨own_below HROWS.out.1 (below_tr HB1.out hw15), own_below HROWS.out.2.1 (below_tr HB1.out hw15), own_below HROWS.out.2.2 (below_tr HB1.out hw15)⟩
    have HR5 := Lib.hid hrows
    have HB05 := Lib.hid hB05
    have HW15 := Lib.hid hw15
    clear hWP hB05 hrows hw15
    refine (wpIn_wide (n := 3)).1 ?_
    refine wpIn_rangeFunc_ownH (F := Fence.wide) (n := 3) rfl (by omega) (gf := 83) (lb := #[.pointer (some ⟨B2, 0, none⟩), .pointer (some ⟨B1, 0, none⟩)]) rfl trivial (enters_of Try.func83 (by kernel_rfl) rfl) HST.out kpW_t (kpW_b (by omega) hl1 hl2) (Below.refl _ _) (fun _ => rfl)
      (fun pre W => IG base w5 gs cs (snFold fl co i bm ads sn (pre.map (·.1))) W) (fun _ _ _ => False) (IG.own_ (by omega)) (fun _ _ _ _ _ hs _ _ => hs) ⟨grown_of_below (Below.refl _ _) _, HR5.out.2.2⟩
      (fun x a' W => ∃ Bx By, AxB w5.heap.size x.1 ((fun (x : Ad × Pg) Bx By => #[.agg #[.slice fA fn fc, .slice cA cn cc, .slice sA sn_ sc, .slice tA tn tc], .int .i64 i, .agg #[.int .i64 bm, .bool bb, .slice pA pn pcc], .slice (some ⟨ga, 0, none⟩) 4 ca, .slice (some ⟨gi, 0, none⟩) 4 ci, .slice (some ⟨gs, 0, none⟩) 4 cs, .pointer (some ⟨w.heap.size, 0, none⟩), .pointer (some ⟨w.heap.size + 1, 0, none⟩), .pointer (some ⟨w.heap.size + 2, 0, none⟩), .pointer (some ⟨w.heap.size + 3, 0, none⟩), .pointer (some ⟨w.heap.size + 4, 0, none⟩), .pointer (some ⟨w.heap.size + 5, 0, none⟩), .pointer (some ⟨w.heap.size + 6, 0, none⟩), .pointer (some ⟨Bx, 0, none⟩), .pointer (some ⟨By, 0, none⟩), undef, .agg #[.int .i64 8, .int .i64 6, .int .i64 64, .int .i64 4, .int .i64 0, .int .i64 4], .int .i64 i, .agg #[.int .i64 bm, .bool bb, .slice pA pn pcc], .func (.func 83) #[] #[.pointer (some ⟨B2, 0, none⟩), .pointer (some ⟨B1, 0, none⟩)], x.1.agg, x.2.agg, undef, undef, undef, undef, undef, undef, undef, undef, undef, undef, undef, undef, undef, undef, undef, undef, undef, undef, undef, undef, undef, undef, undef, undef, undef, undef, undef, undef, undef, undef, undef, undef, undef, undef, undef, undef, undef, undef, undef, undef, undef, undef, undef, undef, undef, undef, undef, undef, undef, undef, undef]) x.1) a' Bx By W) (fun x a' => AxB.own x.1 _ a') ?assign ?body ?done ?stop
    case assign =>
      rintro l pre ⟨⟨⟨a0, a1, a2⟩, ⟨p0, ⟨p1, p2, p3, p4⟩, p5⟩⟩, hgx⟩ W K hib hK
      simp only [apE, Ad.agg, Pg.agg]
      gi_wp2
      have hgr : W.grownBy ((W.alloc (.cells #[.int .i64 a0, .int .i64 a1, .int .i64 a2] 70)).alloc (.cells #[.int .i64 p0, .int .i64 p1, .int .i64 p2, .int .i64 p3, .int .i64 p4, .string p5] 64)) (some gs) := grown_alloc (grown_alloc (grown_of_below (Below.refl _ W) _) _) _
      have hszW2 := hib.gr.size
      exact hK _ _ (KeepsFrom.of_grownBy hgr (fun j e => by injection e with e; omega)) (kpW_of_grown hgr (by omega) (by omega) (by omega) (by omega) (by omega) (by omega)) ⟨grown_tr hib.gr hgr, (hib.own.alloc _).alloc _⟩
        ⟨W.heap.size, W.heap.size + 1, hszW2, by omega, (Blk.new W _ _).alloc _, Blk.new1 W _ _ _, rfl⟩
    case stop =>
      rintro D cc pre W _ _ h _
      exact h.elim
    case done =>
      rintro D xs W hD hxs hib hK
      dsimp only
      have hszW2 := hib.gr.size
      have k6 : Blk W (w.heap.size + 6) 4 #[.bool false] := (HK.out.2.2.2.2.2.2.below_ HW15.out).grown hib.gr (fun e => by injection e with e; omega)
      have c6 := (k6.cell 0).trans rfl
      have z6 := k6.frozen 0
      have hgw : w.grownBy W (some gs) := grown_tr (grown_of_below (below_tr HB1.out HW15.out) _) hib.gr
      have HO := Lib.hid hib.own
      have HGW := Lib.hid hgw
      have HD := Lib.hid hK
      clear hK hib hgw
      go_wp2
      have hKD : (W.setCell ⟨w.heap.size + 6, 0, none⟩ (.bool true)).heap[D]? = some (.deferred (some [])) := (Below.heap_setCell W ⟨w.heap.size + 6, 0, none⟩ _ D (by show D ≠ w.heap.size + 6; omega)).trans HD.out
      have kE := (k6.set_ 0 (.bool true)).of_eq (cs' := #[.bool true]) rfl
      have kF : Blk ((W.setCell ⟨w.heap.size + 6, 0, none⟩ (.bool true)).putObj D (.deferred none)) (w.heap.size + 6) 4 #[.bool true] := (World.putObj_heap_other (by omega)).trans kE
      have cF := (kF.cell 0).trans rfl
      have hoE : ((W.setCell ⟨w.heap.size + 6, 0, none⟩ (.bool true)).putObj D (.deferred none)).ownsRow base 4 1 (.slice (some ⟨gs, 0, none⟩) 4 cs) 4 (eList eBool (snFold fl co i bm ads sn (xs.map (·.1)))) :=
        own_put_ (HO.out.kept (row := some (w.heap.size + 6)) (grown_set (grown_of_below (Below.refl _ W) _) 0 _) (Or.inr (fun e => by have e' : some gs = some (w.heap.size + 6) := e; injection e' with e'; omega))) _ hKD rfl
      have hgE : w.grownBy ((W.setCell ⟨w.heap.size + 6, 0, none⟩ (.bool true)).putObj D (.deferred none)) (some gs) := by
        have h1 := grown_put HGW.out (g := w.heap.size + 6) (by omega) 0 (.bool true)
        exact ⟨h1.os, h1.tape, h1.output, by simpa using h1.size, fun k hk hne => (World.putObj_heap_other (by omega)).trans (h1.block k hk hne)⟩
      refine ⟨by simp, .inl ⟨D, _, rfl, run_takeDeferred hKD, ?_⟩⟩
      refine ⟨.bool true, by simp [results, Try.results42, go_sem, cF], rfl, xs.map (·.1), hxs, hoE, hgE⟩
    case body =>
      rintro l pre ⟨⟨⟨a0, a1, a2⟩, ⟨p0, ⟨p1, p2, p3, p4⟩, p5⟩⟩, hgx⟩ a' W hll _ hib ⟨Bx, By, lx, ly, bx, bp, rfl⟩ hlen2
      dsimp only [Ad.agg, Pg.agg, adC, pgC] at bx bp ⊢
      have hszW2 := hib.gr.size
      have up : ∀ {B : Nat} {t : TypeId} {cs : Array Value}, Blk w1 B t cs → w.heap.size ≤ B → Blk W B t cs := fun hk hB => (hk.below_ HW15.out).grown hib.gr (fun e => by injection e with e; omega)
      have k0 := up HK.out.1 (by omega)
      have k1 := up HK.out.2.1 (by omega)
      have k2 := up HK.out.2.2.1 (by omega)
      have k3 := up HK.out.2.2.2.1 (by omega)
      have k4 := up HK.out.2.2.2.2.1 (by omega)
      have k5 := up HK.out.2.2.2.2.2.1 (by omega)
      have hB0W : Below w0.heap.size w0 W := HB05.out.grown hib.gr HB05.out.size (fun k e => by injection e with e; omega)
      have hrA := HR5.out.1.kept hib.gr (Or.inr (fun e => n1 (by injection e)))
      have hrI := HR5.out.2.1.kept hib.gr (Or.inr (fun e => n2 (by injection e)))
      have HC : Hid (∀ W', Below W.heap.size W W' → W'.cell? ⟨w.heap.size, 0, none⟩ = some (.slice fA fn fc) ∧ W'.cell? ⟨w.heap.size, 1, none⟩ = some (.slice cA cn cc) ∧ W'.cell? ⟨w.heap.size, 2, none⟩ = some (.slice sA sn_ sc) ∧ W'.cell? ⟨w.heap.size, 3, none⟩ = some (.slice tA tn tc) ∧ W'.cell? ⟨w.heap.size + 1, 0, none⟩ = some (.int .i64 i) ∧ W'.cell? ⟨w.heap.size + 2, 0, none⟩ = some (.int .i64 bm) ∧ W'.cell? ⟨w.heap.size + 2, 1, none⟩ = some (.bool bb) ∧ W'.cell? ⟨w.heap.size + 2, 2, none⟩ = some (.slice pA pn pcc) ∧ W'.cell? ⟨w.heap.size + 3, 0, none⟩ = some (.slice (some ⟨ga, 0, none⟩) 4 ca) ∧ W'.cell? ⟨w.heap.size + 4, 0, none⟩ = some (.slice (some ⟨gi, 0, none⟩) 4 ci) ∧ W'.cell? ⟨w.heap.size + 5, 0, none⟩ = some (.slice (some ⟨gs, 0, none⟩) 4 cs) ∧ W'.cell? ⟨By, 0, none⟩ = some (.int .i64 p0) ∧ W'.cell? ⟨By, 1, none⟩ = some (.int .i64 p1) ∧ W'.cell? ⟨By, 2, none⟩ = some (.int .i64 p2) ∧ W'.cell? ⟨By, 3, none⟩ = some (.int .i64 p3) ∧ W'.cell? ⟨By, 4, none⟩ = some (.int .i64 p4) ∧ W'.cell? ⟨By, 5, none⟩ = some (.string p5) ∧ W'.cell? ⟨Bx, 0, none⟩ = some (.int .i64 a0) ∧ W'.cell? ⟨Bx, 1, none⟩ = some (.int .i64 a1) ∧ W'.cell? ⟨Bx, 2, none⟩ = some (.int .i64 a2)) := fun W' hW' => ⟨((k0.below_ hW').cell 0).trans rfl, ((k0.below_ hW').cell 1).trans rfl, ((k0.below_ hW').cell 2).trans rfl, ((k0.below_ hW').cell 3).trans rfl, ((k1.below_ hW').cell 0).trans rfl, ((k2.below_ hW').cell 0).trans rfl, ((k2.below_ hW').cell 1).trans rfl, ((k2.below_ hW').cell 2).trans rfl, ((k3.below_ hW').cell 0).trans rfl, ((k4.below_ hW').cell 0).trans rfl, ((k5.below_ hW').cell 0).trans rfl, ((bp.below_ hW').cell 0).trans rfl, ((bp.below_ hW').cell 1).trans rfl, ((bp.below_ hW').cell 2).trans rfl, ((bp.below_ hW').cell 3).trans rfl, ((bp.below_ hW').cell 4).trans rfl, ((bp.below_ hW').cell 5).trans rfl, ((bx.below_ hW').cell 0).trans rfl, ((bx.below_ hW').cell 1).trans rfl, ((bx.below_ hW').cell 2).trans rfl⟩
      have HIB := Lib.hid hib
      have HRW := Lib.hid (And.intro hrA hrI)
      have fin : ∀ W' ys, W.grownBy W' (some gs) → W'.ownsRow base 4 1 (.slice (some ⟨gs, 0, none⟩) 4 cs) 4 (eList eBool ys) → ys = snStep fl co i bm ads (snFold fl co i bm ads sn (pre.map (·.1))) (⟨a0, a1, a2⟩, ⟨p0, ⟨p1, p2, p3, p4⟩, p5⟩) →
          KeepsFrom w5.heap.size W W' ∧ KpW w0.heap.size B1 B2 W W' ∧ IG base w5 gs cs (snFold fl co i bm ads sn ((pre ++ [(⟨(⟨a0, a1, a2⟩, ⟨p0, ⟨p1, p2, p3, p4⟩, p5⟩), hgx⟩ : { x : Ad × Pg // Good17 fl co i bm ads ns x })]).map (·.1))) W' := fun W' ys hg ho he =>
        ⟨KeepsFrom.of_grownBy hg (fun j e => by injection e with e; omega), kpW_of_grown hg (by omega) (by omega) (by omega) (by omega) (by omega) (by omega), grown_tr HIB.out.gr hg, by rw [List.map_append, List.map_cons, List.map_nil, snFold_snoc, ← he]; exact ho⟩
      have hm := fun W' (hW' : Below W.heap.size W W') => HMAY.out W' (hB0W.trans (hW'.mono hB0W.size)) ⟨p0, ⟨p1, p2, p3, p4⟩, p5⟩
      simp only [Pg.agg] at hm
      have hgx' := hgx
      unfold Good17 at hgx'
      simp only at hgx'
      have hst : snStep fl co i bm ads (snFold fl co i bm ads sn (pre.map (·.1))) (⟨a0, a1, a2⟩, ⟨p0, ⟨p1, p2, p3, p4⟩, p5⟩) = if mayF 4 fl co i bm ⟨p0, ⟨p1, p2, p3, p4⟩, p5⟩ = true ∧ ads[p2.toNat]? = some ⟨a0, a1, a2⟩ then (snFold fl co i bm ads sn (pre.map (·.1))).set p2.toNat true else snFold fl co i bm ads sn (pre.map (·.1)) := rfl
      rw [hst] at fin
      clear hst
      generalize mayF 4 fl co i bm ⟨p0, ⟨p1, p2, p3, p4⟩, p5⟩ = T at hm hgx' fin
      have HFIN := Lib.hid fin
      have HGX := Lib.hid hgx'
      have HM := Lib.hid hm
      clear hm
      clear fin hgx' hib up k0 k1 k2 k3 k4 k5 hrA hrI bx bp
      have e0 := fun p : Past W => (HC.out p.w p.h).1
      have e1 := fun p : Past W => (HC.out p.w p.h).2.1
      have e2 := fun p : Past W => (HC.out p.w p.h).2.2.1
      have e3 := fun p : Past W => (HC.out p.w p.h).2.2.2.1
      have e4 := fun p : Past W => (HC.out p.w p.h).2.2.2.2.1
      have e5 := fun p : Past W => (HC.out p.w p.h).2.2.2.2.2.1
      have e6 := fun p : Past W => (HC.out p.w p.h).2.2.2.2.2.2.1
      have e7 := fun p : Past W => (HC.out p.w p.h).2.2.2.2.2.2.2.1
      have e8 := fun p : Past W => (HC.out p.w p.h).2.2.2.2.2.2.2.2.1
      have e9 := fun p : Past W => (HC.out p.w p.h).2.2.2.2.2.2.2.2.2.1
      have e10 := fun p : Past W => (HC.out p.w p.h).2.2.2.2.2.2.2.2.2.2.1
      have e11 := fun p : Past W => (HC.out p.w p.h).2.2.2.2.2.2.2.2.2.2.2.1
      have e12 := fun p : Past W => (HC.out p.w p.h).2.2.2.2.2.2.2.2.2.2.2.2.1
      have e13 := fun p : Past W => (HC.out p.w p.h).2.2.2.2.2.2.2.2.2.2.2.2.2.1
      have e14 := fun p : Past W => (HC.out p.w p.h).2.2.2.2.2.2.2.2.2.2.2.2.2.2.1
      have e15 := fun p : Past W => (HC.out p.w p.h).2.2.2.2.2.2.2.2.2.2.2.2.2.2.2.1
      have e16 := fun p : Past W => (HC.out p.w p.h).2.2.2.2.2.2.2.2.2.2.2.2.2.2.2.2.1
      have e17 := fun p : Past W => (HC.out p.w p.h).2.2.2.2.2.2.2.2.2.2.2.2.2.2.2.2.2.1
      have e18 := fun p : Past W => (HC.out p.w p.h).2.2.2.2.2.2.2.2.2.2.2.2.2.2.2.2.2.2.1
      have e19 := fun p : Past W => (HC.out p.w p.h).2.2.2.2.2.2.2.2.2.2.2.2.2.2.2.2.2.2.2
      gi_wp2_with fail
      refine wpIn_region_quiet_past (by kernel_rfl) (by kernel_rfl) (by kernel_rfl) ?_
      repeat (refine qw_step (fun K_ hK_ => ?_); go_simp; first | (refine hK_ _ ?_; clear hK_ K_) | (apply Exists.intro; refine ⟨fun _ => ?_, hK_ _ ?_⟩; (first | (go_at_call 41; exact calls_past_of (geo17_any _)) | (go_at_call 34; exact calls_past_of (HM.out _ (Past.h _)))); clear hK_ K_) | (rw [if_pos (by first | assumption | omega)]; first | (refine hK_ _ ?_; clear hK_ K_) | (apply Exists.intro; refine ⟨fun _ => ?_, hK_ _ ?_⟩; (first | (go_at_call 41; exact calls_past_of (geo17_any _)) | (go_at_call 34; exact calls_past_of (HM.out _ (Past.h _)))); clear hK_ K_)) | (rw [if_neg (by first | assumption | omega)]; first | (refine hK_ _ ?_; clear hK_ K_) | (apply Exists.intro; refine ⟨fun _ => ?_, hK_ _ ?_⟩; (first | (go_at_call 41; exact calls_past_of (geo17_any _)) | (go_at_call 34; exact calls_past_of (HM.out _ (Past.h _)))); clear hK_ K_)))
      refine qw_nil ?_
      intro WQ hw_
      obtain ⟨p_, hp_⟩ := hw_
      have HQ := p_.h
      rw [← hp_] at HQ
      clear hp_ p_
      clear e0 e1 e2 e3 e4 e5 e6 e7 e8 e9 e10 e11 e12 e13 e14 e15 e16 e17 e18 e19
      have HQ0 := Lib.hid HQ
      clear HQ
      cases T with
      | false =>
        gi_wp2
        exact HFIN.out WQ _ (grown_of_below HQ0.out _) (own_below HIB.out.own HQ0.out) (by simp)
      | true =>
        obtain ⟨l', ad, sq, hl4, hlba, had, hsq, hab, hsle, heq⟩ := HGX.out (by simp)
        subst hlba
        obtain ⟨d0, d1, d2⟩ := ad
        simp only at hab
        have HC2 : Hid (∀ W', Below W.heap.size W W' → W'.cell? ⟨ga, l' * 3, none⟩ = some (.int .i64 d0) ∧ W'.cell? ⟨ga, l' * 3 + 1, none⟩ = some (.int .i64 d1) ∧ W'.cell? ⟨ga, l' * 3 + 2, none⟩ = some (.int .i64 d2) ∧ W'.cell? ⟨gi, l', none⟩ = some (.int .i64 sq)) := fun W' hW' => by
          have ra := own_below HRW.out.1 hW'
          have ri := own_below HRW.out.2 hW'
          exact ⟨own_cell ra _ _ (eList_get (enc := eAd) (k := 3) (fun _ => rfl) ads l' _ 0 _ had rfl), own_cell ra _ _ (eList_get (enc := eAd) (k := 3) (fun _ => rfl) ads l' _ 1 _ had rfl), own_cell ra _ _ (eList_get (enc := eAd) (k := 3) (fun _ => rfl) ads l' _ 2 _ had rfl), own_cell ri _ _ (eInts_get ns l' sq hsq)⟩
        have g1 : ¬ (l' : Int) < 0 := by omega
        have g2 : ¬ (3 : Int) < (l' : Int) := by omega
        have g3 : (l' : Int) < 4 := by omega
        have g4 : ¬ sq < p3 := by omega
        have HAD := Lib.hid had
        have HEQ := Lib.hid heq
        clear had heq hsq
        obtain ⟨V1, rfl⟩ : ∃ V1 : World, V1 = WQ := ⟨_, rfl⟩
        have e0 := fun p : Past V1 => (HC.out p.w (below_tr HQ0.out p.h)).1
        have e1 := fun p : Past V1 => (HC.out p.w (below_tr HQ0.out p.h)).2.1
        have e2 := fun p : Past V1 => (HC.out p.w (below_tr HQ0.out p.h)).2.2.1
        have e3 := fun p : Past V1 => (HC.out p.w (below_tr HQ0.out p.h)).2.2.2.1
        have e4 := fun p : Past V1 => (HC.out p.w (below_tr HQ0.out p.h)).2.2.2.2.1
        have e5 := fun p : Past V1 => (HC.out p.w (below_tr HQ0.out p.h)).2.2.2.2.2.1
        have e6 := fun p : Past V1 => (HC.out p.w (below_tr HQ0.out p.h)).2.2.2.2.2.2.1
        have e7 := fun p : Past V1 => (HC.out p.w (below_tr HQ0.out p.h)).2.2.2.2.2.2.2.1
        have e8 := fun p : Past V1 => (HC.out p.w (below_tr HQ0.out p.h)).2.2.2.2.2.2.2.2.1
        have e9 := fun p : Past V1 => (HC.out p.w (below_tr HQ0.out p.h)).2.2.2.2.2.2.2.2.2.1
        have e10 := fun p : Past V1 => (HC.out p.w (below_tr HQ0.out p.h)).2.2.2.2.2.2.2.2.2.2.1
        have e11 := fun p : Past V1 => (HC.out p.w (below_tr HQ0.out p.h)).2.2.2.2.2.2.2.2.2.2.2.1
        have e12 := fun p : Past V1 => (HC.out p.w (below_tr HQ0.out p.h)).2.2.2.2.2.2.2.2.2.2.2.2.1
        have e13 := fun p : Past V1 => (HC.out p.w (below_tr HQ0.out p.h)).2.2.2.2.2.2.2.2.2.2.2.2.2.1
        have e14 := fun p : Past V1 => (HC.out p.w (below_tr HQ0.out p.h)).2.2.2.2.2.2.2.2.2.2.2.2.2.2.1
        have e15 := fun p : Past V1 => (HC.out p.w (below_tr HQ0.out p.h)).2.2.2.2.2.2.2.2.2.2.2.2.2.2.2.1
        have e16 := fun p : Past V1 => (HC.out p.w (below_tr HQ0.out p.h)).2.2.2.2.2.2.2.2.2.2.2.2.2.2.2.2.1
        have e17 := fun p : Past V1 => (HC.out p.w (below_tr HQ0.out p.h)).2.2.2.2.2.2.2.2.2.2.2.2.2.2.2.2.2.1
        have e18 := fun p : Past V1 => (HC.out p.w (below_tr HQ0.out p.h)).2.2.2.2.2.2.2.2.2.2.2.2.2.2.2.2.2.2.1
        have e19 := fun p : Past V1 => (HC.out p.w (below_tr HQ0.out p.h)).2.2.2.2.2.2.2.2.2.2.2.2.2.2.2.2.2.2.2
        have r0 := fun p : Past V1 => (HC2.out p.w (below_tr HQ0.out p.h)).1
        have r1 := fun p : Past V1 => (HC2.out p.w (below_tr HQ0.out p.h)).2.1
        have r2 := fun p : Past V1 => (HC2.out p.w (below_tr HQ0.out p.h)).2.2.1
        have r3 := fun p : Past V1 => (HC2.out p.w (below_tr HQ0.out p.h)).2.2.2
        have cl := (HC.out V1 HQ0.out).2.2.2.2.2.2.2.2.2.2.2.2.2.1
        gi_wp2_with fail
        refine wpIn_region_quiet_past (by kernel_rfl) (by kernel_rfl) (by kernel_rfl) ?_
        repeat (refine qw_step (fun K_ hK_ => ?_); go_simp; first | (refine hK_ _ ?_; clear hK_ K_) | (apply Exists.intro; refine ⟨fun _ => ?_, hK_ _ ?_⟩; (fail); clear hK_ K_) | (rw [if_pos (by first | assumption | omega)]; first | (refine hK_ _ ?_; clear hK_ K_) | (apply Exists.intro; refine ⟨fun _ => ?_, hK_ _ ?_⟩; (fail); clear hK_ K_)) | (rw [if_neg (by first | assumption | omega)]; first | (refine hK_ _ ?_; clear hK_ K_) | (apply Exists.intro; refine ⟨fun _ => ?_, hK_ _ ?_⟩; (fail); clear hK_ K_)))
        refine qw_nil ?_
        intro WQ hw_
        obtain ⟨p_, hp_⟩ := hw_
        have HQ := p_.h
        rw [← hp_] at HQ
        clear hp_ p_
        clear cl
        clear e0 e1 e2 e3 e4 e5 e6 e7 e8 e9 e10 e11 e12 e13 e14 e15 e16 e17 e18 e19 r0 r1 r2 r3
        have HQ1_ := Lib.hid (below_tr HQ0.out HQ)
        clear HQ
        obtain ⟨V2, rfl⟩ : ∃ V2 : World, V2 = WQ := ⟨_, rfl⟩
        have e0 := fun p : Past V2 => (HC.out p.w (below_tr HQ1_.out p.h)).1
        have e1 := fun p : Past V2 => (HC.out p.w (below_tr HQ1_.out p.h)).2.1
        have e2 := fun p : Past V2 => (HC.out p.w (below_tr HQ1_.out p.h)).2.2.1
        have e3 := fun p : Past V2 => (HC.out p.w (below_tr HQ1_.out p.h)).2.2.2.1
        have e4 := fun p : Past V2 => (HC.out p.w (below_tr HQ1_.out p.h)).2.2.2.2.1
        have e5 := fun p : Past V2 => (HC.out p.w (below_tr HQ1_.out p.h)).2.2.2.2.2.1
        have e6 := fun p : Past V2 => (HC.out p.w (below_tr HQ1_.out p.h)).2.2.2.2.2.2.1
        have e7 := fun p : Past V2 => (HC.out p.w (below_tr HQ1_.out p.h)).2.2.2.2.2.2.2.1
        have e8 := fun p : Past V2 => (HC.out p.w (below_tr HQ1_.out p.h)).2.2.2.2.2.2.2.2.1
        have e9 := fun p : Past V2 => (HC.out p.w (below_tr HQ1_.out p.h)).2.2.2.2.2.2.2.2.2.1
        have e10 := fun p : Past V2 => (HC.out p.w (below_tr HQ1_.out p.h)).2.2.2.2.2.2.2.2.2.2.1
        have e11 := fun p : Past V2 => (HC.out p.w (below_tr HQ1_.out p.h)).2.2.2.2.2.2.2.2.2.2.2.1
        have e12 := fun p : Past V2 => (HC.out p.w (below_tr HQ1_.out p.h)).2.2.2.2.2.2.2.2.2.2.2.2.1
        have e13 := fun p : Past V2 => (HC.out p.w (below_tr HQ1_.out p.h)).2.2.2.2.2.2.2.2.2.2.2.2.2.1
        have e14 := fun p : Past V2 => (HC.out p.w (below_tr HQ1_.out p.h)).2.2.2.2.2.2.2.2.2.2.2.2.2.2.1
        have e15 := fun p : Past V2 => (HC.out p.w (below_tr HQ1_.out p.h)).2.2.2.2.2.2.2.2.2.2.2.2.2.2.2.1
        have e16 := fun p : Past V2 => (HC.out p.w (below_tr HQ1_.out p.h)).2.2.2.2.2.2.2.2.2.2.2.2.2.2.2.2.1
        have e17 := fun p : Past V2 => (HC.out p.w (below_tr HQ1_.out p.h)).2.2.2.2.2.2.2.2.2.2.2.2.2.2.2.2.2.1
        have e18 := fun p : Past V2 => (HC.out p.w (below_tr HQ1_.out p.h)).2.2.2.2.2.2.2.2.2.2.2.2.2.2.2.2.2.2.1
        have e19 := fun p : Past V2 => (HC.out p.w (below_tr HQ1_.out p.h)).2.2.2.2.2.2.2.2.2.2.2.2.2.2.2.2.2.2.2
        have r0 := fun p : Past V2 => (HC2.out p.w (below_tr HQ1_.out p.h)).1
        have r1 := fun p : Past V2 => (HC2.out p.w (below_tr HQ1_.out p.h)).2.1
        have r2 := fun p : Past V2 => (HC2.out p.w (below_tr HQ1_.out p.h)).2.2.1
        have r3 := fun p : Past V2 => (HC2.out p.w (below_tr HQ1_.out p.h)).2.2.2
        have he := fun W => eqAddr a0 a1 a2 d0 d1 d2 W
        obtain ⟨E, hE⟩ : ∃ E, (a0 == d0 && (a1 == d1 && (a2 == d2 && true))) = E := ⟨_, rfl⟩
        rw [hE] at he
        have HE := Lib.hid hE
        clear hE
        gi_wp2_with fail
        refine wpIn_region_quiet_past (by kernel_rfl) (by kernel_rfl) (by kernel_rfl) ?_
        repeat (refine qw_step (fun K_ hK_ => ?_); go_simp; first | (refine hK_ _ ?_; clear hK_ K_) | (apply Exists.intro; refine ⟨fun _ => ?_, hK_ _ ?_⟩; (fail); clear hK_ K_) | (rw [if_pos (by first | assumption | omega)]; first | (refine hK_ _ ?_; clear hK_ K_) | (apply Exists.intro; refine ⟨fun _ => ?_, hK_ _ ?_⟩; (fail); clear hK_ K_)) | (rw [if_neg (by first | assumption | omega)]; first | (refine hK_ _ ?_; clear hK_ K_) | (apply Exists.intro; refine ⟨fun _ => ?_, hK_ _ ?_⟩; (fail); clear hK_ K_)))
        refine qw_nil ?_
        intro WQ hw_
        obtain ⟨p_, hp_⟩ := hw_
        have HQ := p_.h
        rw [← hp_] at HQ
        clear hp_ p_
        clear e0 e1 e2 e3 e4 e5 e6 e7 e8 e9 e10 e11 e12 e13 e14 e15 e16 e17 e18 e19 r0 r1 r2 r3
        clear he
        have HQ2_ := Lib.hid (below_tr HQ1_.out HQ)
        clear HQ
        obtain ⟨V3, rfl⟩ : ∃ V3 : World, V3 = WQ := ⟨_, rfl⟩
        cases E with
        | false =>
          have hne : ¬ ads[l']? = some ⟨a0, a1, a2⟩ := by
            rw [HAD.out]
            intro h
            injection h with h
            injection h with h1 h2 h3
            have := HE.out
            simp [h1, h2, h3] at this
          have HNE := Lib.hid hne
          clear hne
          gi_wp2
          exact HFIN.out V3 _ (grown_of_below HQ2_.out _) (own_below HIB.out.own HQ2_.out) (by simp [HNE.out])
        | true =>
          obtain ⟨rfl, rfl, rfl⟩ : a0 = d0 ∧ a1 = d1 ∧ a2 = d2 := by have := HE.out; simpa using this
          obtain rfl := HEQ.out rfl
          have hs3 := own_below HIB.out.own HQ2_.out
          have hsl : (snFold fl co i bm ads sn (pre.map (·.1))).length = 4 := by have h1 := hs3.1; rw [eList_len_ (en := eBool) (k := 1) (fun _ => rfl)] at h1; omega
          have f0 := fun p : Past V3 => own_frozen (own_below hs3 p.h) l'
          have f1 := fun p : Past V3 => own_cell (own_below hs3 p.h) l' _ (eBools_get _ l' _ (List.getElem?_eq_getElem (by omega)))
          have hst := fun W' (hW' : Below V3.heap.size V3 W') => ((own_below hs3 hW').stored l' (.bool true)).1
          have HST2 := Lib.hid hst
          have HST3 := Lib.hid hs3
          clear hst hs3
          have e0 := fun p : Past V3 => (HC.out p.w (below_tr HQ2_.out p.h)).1
          have e1 := fun p : Past V3 => (HC.out p.w (below_tr HQ2_.out p.h)).2.1
          have e2 := fun p : Past V3 => (HC.out p.w (below_tr HQ2_.out p.h)).2.2.1
          have e3 := fun p : Past V3 => (HC.out p.w (below_tr HQ2_.out p.h)).2.2.2.1
          have e4 := fun p : Past V3 => (HC.out p.w (below_tr HQ2_.out p.h)).2.2.2.2.1
          have e5 := fun p : Past V3 => (HC.out p.w (below_tr HQ2_.out p.h)).2.2.2.2.2.1
          have e6 := fun p : Past V3 => (HC.out p.w (below_tr HQ2_.out p.h)).2.2.2.2.2.2.1
          have e7 := fun p : Past V3 => (HC.out p.w (below_tr HQ2_.out p.h)).2.2.2.2.2.2.2.1
          have e8 := fun p : Past V3 => (HC.out p.w (below_tr HQ2_.out p.h)).2.2.2.2.2.2.2.2.1
          have e9 := fun p : Past V3 => (HC.out p.w (below_tr HQ2_.out p.h)).2.2.2.2.2.2.2.2.2.1
          have e10 := fun p : Past V3 => (HC.out p.w (below_tr HQ2_.out p.h)).2.2.2.2.2.2.2.2.2.2.1
          have e11 := fun p : Past V3 => (HC.out p.w (below_tr HQ2_.out p.h)).2.2.2.2.2.2.2.2.2.2.2.1
          have e12 := fun p : Past V3 => (HC.out p.w (below_tr HQ2_.out p.h)).2.2.2.2.2.2.2.2.2.2.2.2.1
          have e13 := fun p : Past V3 => (HC.out p.w (below_tr HQ2_.out p.h)).2.2.2.2.2.2.2.2.2.2.2.2.2.1
          have e14 := fun p : Past V3 => (HC.out p.w (below_tr HQ2_.out p.h)).2.2.2.2.2.2.2.2.2.2.2.2.2.2.1
          have e15 := fun p : Past V3 => (HC.out p.w (below_tr HQ2_.out p.h)).2.2.2.2.2.2.2.2.2.2.2.2.2.2.2.1
          have e16 := fun p : Past V3 => (HC.out p.w (below_tr HQ2_.out p.h)).2.2.2.2.2.2.2.2.2.2.2.2.2.2.2.2.1
          have e17 := fun p : Past V3 => (HC.out p.w (below_tr HQ2_.out p.h)).2.2.2.2.2.2.2.2.2.2.2.2.2.2.2.2.2.1
          have e18 := fun p : Past V3 => (HC.out p.w (below_tr HQ2_.out p.h)).2.2.2.2.2.2.2.2.2.2.2.2.2.2.2.2.2.2.1
          have e19 := fun p : Past V3 => (HC.out p.w (below_tr HQ2_.out p.h)).2.2.2.2.2.2.2.2.2.2.2.2.2.2.2.2.2.2.2
          have r0 := fun p : Past V3 => (HC2.out p.w (below_tr HQ2_.out p.h)).1
          have r1 := fun p : Past V3 => (HC2.out p.w (below_tr HQ2_.out p.h)).2.1
          have r2 := fun p : Past V3 => (HC2.out p.w (below_tr HQ2_.out p.h)).2.2.1
          have r3 := fun p : Past V3 => (HC2.out p.w (below_tr HQ2_.out p.h)).2.2.2
          gi_wp2_with fail
          refine wpIn_region_quiet_last_ _ rfl (by kernel_rfl) (by kernel_rfl) (by kernel_rfl) (by kernel_rfl) ?_
          simp only [List.dropLast]
          repeat (refine qw_step (fun K_ hK_ => ?_); go_simp; first | (refine hK_ _ ?_; clear hK_ K_) | (apply Exists.intro; refine ⟨fun _ => ?_, hK_ _ ?_⟩; (fail); clear hK_ K_) | (rw [if_pos (by first | assumption | omega)]; first | (refine hK_ _ ?_; clear hK_ K_) | (apply Exists.intro; refine ⟨fun _ => ?_, hK_ _ ?_⟩; (fail); clear hK_ K_)) | (rw [if_neg (by first | assumption | omega)]; first | (refine hK_ _ ?_; clear hK_ K_) | (apply Exists.intro; refine ⟨fun _ => ?_, hK_ _ ?_⟩; (fail); clear hK_ K_)))
          refine qw_nil ?_
          intro WQ hw_
          obtain ⟨p_, hp_⟩ := hw_
          have HQ := p_.h
          rw [← hp_] at HQ
          clear hp_ p_
          have HQ3_ := Lib.hid HQ
          clear HQ
          clear e0 e1 e2 e3 e4 e5 e6 e7 e8 e9 e10 e11 e12 e13 e14 e15 e16 e17 e18 e19 r0 r1 r2 r3
          have ff := own_frozen (own_below HST3.out HQ3_.out) l'
          have fc_ := own_cell (own_below HST3.out HQ3_.out) l' _ (eBools_get _ l' _ (List.getElem?_eq_getElem (by omega)))
          have hown9 := HST2.out WQ HQ3_.out
          rw [eBools_set] at hown9
          have HO9 := Lib.hid hown9
          clear hown9
          go_simp
          exact HFIN.out _ _ (grown_set (g := gs) (grown_of_below (below_tr HQ2_.out HQ3_.out) _) l' _) HO9.out (by simp [HAD.out])
end Go.Proofs.Ytdjfkehbknbocaa

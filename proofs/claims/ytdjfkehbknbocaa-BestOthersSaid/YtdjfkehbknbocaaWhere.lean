/- The walk of scan.Where: the closure it hands back, and what that hands round by round. -/
import Derived.RangeFuncNested
import Derived.RangeFuncBound
import Derived.RangeFuncCalls
import Derived.RangeFuncLeaves
import Derived.Shelf.Abstract
import Derived.Shelf.RegionOpen
import Derived.OwnWalkIn
import Derived.TacticsInMore
import Derived.LoopNIn
import Derived.LoopIn
import Derived.RegionIn
import Derived.Test.YtdjfkehbknbocaaBestM
namespace Go.Proofs.Ytdjfkehbknbocaa
open Go.RowKit Go.Shelf
set_option linter.unusedSimpArgs false
set_option linter.unusedVariables false
attribute [local go_sem] Oper.semAt_some

structure WherePost (B1 B2 : Nat) (block : Int) (b : Bk) (w W : World) : Prop where
  b1 : Blk W B1 3 #[.int .i64 block]
  b2 : Blk W B2 60 #[.int .i64 b.mode, .bool b.bad, b.p.v]
  below : Below w.heap.size w W
theorem where_any (g : Geo) (block : Int) (b : Bk) (w : World) :
    Calls Try.prog 65 #[g.agg, .int .i64 block, b.agg] w fun e w' => e = .returned (.func (.func 83) #[] #[.pointer (some ⟨w.heap.size + 2, 0, none⟩), .pointer (some ⟨w.heap.size + 1, 0, none⟩)]) ∧ WherePost (w.heap.size + 1) (w.heap.size + 2) block b w w' := by
  obtain ⟨g0, g1, g2, g3, g4, g5⟩ := g
  obtain ⟨bm, bb, ⟨pA, pn, pc⟩⟩ := b
  simp only [Geo.agg, Bk.agg, Sv.v]
  go_enter Try.func65, Try.ntmps65
  go_wp2
  go_ret
  have h1 := (Blk.new1 w (.cells #[.int .i64 g0, .int .i64 g1, .int .i64 g2, .int .i64 g3, .int .i64 g4, .int .i64 g5] 48) 3 #[.int .i64 block]).alloc (.cells #[.int .i64 bm, .bool bb, .slice pA pn pc] 60)
  have h2 := Blk.new ((w.alloc (.cells #[.int .i64 g0, .int .i64 g1, .int .i64 g2, .int .i64 g3, .int .i64 g4, .int .i64 g5] 48)).alloc (.cells #[.int .i64 block] 3)) 60 #[.int .i64 bm, .bool bb, .slice pA pn pc]
  simp only [World.size_alloc] at h2
  exact ⟨rfl, h1, h2, by ((try change Below _ _ _); (repeat (any_goals (first | (with_reducible exact Below.refl _ _) | (with_reducible exact Below.refl _ _) | (with_reducible apply Below.drew) | (with_reducible apply below_drewN) | (with_reducible refine Below.alloc ?_ ?_ _) | (with_reducible refine Below.setCell ?_ ?_ _)))); all_goals (first | exact Nat.le_refl _ | (simp; done) | (simp; omega) | omega | (dsimp only; omega)))⟩

/-- What a round that goes on keeps: what lay below n₀, and the two boxes. -/
structure KpW (n₀ B1 B2 : Nat) (A B : World) : Prop where
  below : Below n₀ A B
  b1 : B.heap[B1]? = A.heap[B1]?
  b2 : B.heap[B2]? = A.heap[B2]?
theorem kpW_t {n₀ B1 B2 : Nat} {A B C : World} (h : KpW n₀ B1 B2 A B) (k : KpW n₀ B1 B2 B C) : KpW n₀ B1 B2 A C := ⟨h.below.trans k.below, k.b1.trans h.b1, k.b2.trans h.b2⟩
theorem kpW_b {n₀ B1 B2 : Nat} {w : World} (hn : n₀ ≤ w.heap.size) (h1 : B1 < w.heap.size) (h2 : B2 < w.heap.size) (W : World) (l : Nat) (o o' : Obj) (hl : w.heap.size ≤ l) (h : W.heap[l]? = some o) (hc : o.isCells = false) (hw : o.isWalk = false) : KpW n₀ B1 B2 W (W.putObj l o') :=
  ⟨belowK_b hn W l o o' hl h hc hw, World.putObj_heap_other (by omega), World.putObj_heap_other (by omega)⟩
/-- What has come when k rounds are over. -/
def PreF (i mode : Int) (ps : List Pg) (k : Nat) (ys : List (Ad × Pg)) : Prop := ys.length = k ∧ ∀ j : Nat, j < k → ys[j]? = ps[j]?.map fun p => (addrF i mode (j : Int), p)
theorem PreF.snoc {i mode : Int} {ps : List Pg} {k : Nat} {ys : List (Ad × Pg)} {p : Pg} (h : PreF i mode ps k ys) (hp : ps[k]? = some p) : PreF i mode ps (k + 1) (ys ++ [(addrF i mode (k : Int), p)]) := by
  refine ⟨by simp [h.1], fun j hj => ?_⟩
  rcases Nat.lt_or_ge j k with hjk | hjk
  · rw [List.getElem?_append_left (by have := h.1; omega)]
    exact h.2 j hjk
  · obtain rfl : j = k := by omega
    rw [List.getElem?_append_right (by have := h.1; omega), h.1, hp]
    simp
abbrev apE (x : Ad × Pg) : Array Value := #[x.1.agg, x.2.agg]
theorem below_grown {A B : World} (h : Below A.heap.size A B) : A.grownBy B none := grown_of_below h none

structure Good1 (w0 : World) (B1 B2 : Nat) (i : Nat) (bm : Int) (bb : Bool) (v : Value) (j : World → Prop) (W : World) : Prop where
  j : j W
  b1 : Blk W B1 3 #[.int .i64 i]
  b2 : Blk W B2 60 #[.int .i64 bm, .bool bb, v]
  below : Below w0.heap.size w0 W

set_option maxRecDepth 100000 in
set_option maxHeartbeats 40000000 in
theorem where1_in (n : Nat) (l B1 B2 : Nat) (i : Nat) (b : Bk) (ps : List Pg) (w0 : World) (J Jx : List (Ad × Pg) → World → Prop) (hi : i ≤ 9223372036854775807)
    (hA : Sl ePg 6 w0 b.p.A b.p.n ps)
    (W : World) (hW : Below w0.heap.size w0 W) (h1 : Blk W B1 3 #[.int .i64 i]) (h2 : Blk W B2 60 #[.int .i64 b.mode, .bool b.bad, b.p.v]) (hb1 : w0.heap.size ≤ B1) (hb2 : w0.heap.size ≤ B2)
    (hJ : AbidesFrom W.heap.size J)
    (hY : ∀ pre x W1, J pre W1 → pre.length < ps.length → YieldAt Fence.wide (n - 1) Try.prog l (apE x) W1 fun e W' =>
      (e = .returned (.bool true) ∧ J (pre ++ [x]) W' ∧ KpW w0.heap.size B1 B2 W1 W') ∨ (e = .returned (.bool false) ∧ Jx (pre ++ [x]) W'))
    (h0 : J [] W) :
    CallsIn Fence.wide n Try.prog 83 #[.func (.yield l) #[] #[], .pointer (some ⟨B2, 0, none⟩), .pointer (some ⟨B1, 0, none⟩)] W fun e W' => (∃ v, e = .returned v) ∧
      ((∃ ys, PreF i b.mode ps ps.length ys ∧ J ys W') ∨ (∃ pre, True ∧ Jx pre W')) := by
  obtain ⟨bm, bb, ⟨pA, pn, pc⟩⟩ := b
  simp only [Sv.v] at h2 hA ⊢
  have hlen := hA.len
  have hbig := hA.big
  refine callsIn_of_wp Try.func83 rfl trivial ?_ rfl
  simp only [Try.ntmps83, List.size_toArray, List.length_cons, List.length_nil, Nat.reduceAdd, Nat.reduceSub, Array.replicate_succ, Array.replicate_zero, List.push_toArray, List.append_toArray, List.nil_append, List.cons_append]
  have q0 := (h2.cell 2).trans rfl
  gi_wp2
  gi_loopw [9] (fun u wr => ∃ (k : Nat) (pre : List (Ad × Pg)), k ≤ pn ∧ u = .int .i64 k ∧ Hid (PreF i bm ps k pre ∧ J pre wr ∧ Blk wr B1 3 #[.int .i64 i] ∧ Blk wr B2 60 #[.int .i64 bm, .bool bb, .slice pA pn pc] ∧ Below w0.heap.size w0 wr)) (fun u _ => pn - (intOf u).toNat)
  case atStart => exact ⟨0, [], Nat.zero_le _, rfl, ⟨rfl, fun j hj => absurd hj (Nat.not_lt_zero j)⟩, h0, h1, h2, hW⟩
  case round =>
    obtain ⟨k, pre, hk, rfl, H⟩ := hrel
    clear q0
    by_cases hlt : k < pn
    · have hlt' : (k : Int) < (pn : Int) := by omega
      obtain ⟨pb, poff, pg, rfl, hpb, hpx, hcp⟩ := (hA.below H.out.2.2.2.2).get_ hlt
      obtain ⟨p0, ⟨p1, p2, p3, p4⟩, p5⟩ := pg
      have pc0 := hcp 0 _ rfl
      have pc1 := hcp 1 _ rfl
      have pc2 := hcp 2 _ rfl
      have pc3 := hcp 3 _ rfl
      have pc4 := hcp 4 _ rfl
      have pc5 := hcp 5 _ rfl
      simp only [Nat.add_zero] at pc0
      clear hcp
      have hgood : ∀ W1 W2, Good1 w0 B1 B2 i bm bb (.slice (some ⟨pb, poff, none⟩) pn pc) (J pre) W1 → J (pre ++ [(addrF (i : Int) bm (k : Int), ⟨p0, ⟨p1, p2, p3, p4⟩, p5⟩)]) W2 → KpW w0.heap.size B1 B2 W1 W2 → Good1 w0 B1 B2 i bm bb (.slice (some ⟨pb, poff, none⟩) pn pc) (J (pre ++ [(addrF (i : Int) bm (k : Int), ⟨p0, ⟨p1, p2, p3, p4⟩, p5⟩)])) W2 := fun W1 W2 g h kp =>
        ⟨h, kp.b1.trans g.b1, kp.b2.trans g.b2, g.below.trans kp.below⟩
      gi_wp2
      obtain ⟨w4, hw4⟩ : ∃ w4, wr.alloc (.cells #[.int .i64 p0, .int .i64 p1, .int .i64 p2, .int .i64 p3, .int .i64 p4, .string p5] 64) = w4 := ⟨_, rfl⟩
      have hw34 : Below wr.heap.size wr w4 := by rw [← hw4]; exact (Below.refl _ wr).alloc (Nat.le_refl _) _
      have hblk : Blk w4 wr.heap.size 64 #[.int .i64 p0, .int .i64 p1, .int .i64 p2, .int .i64 p3, .int .i64 p4, .string p5] := by rw [← hw4]; exact Blk.new wr _ _
      have g4 : Good1 w0 B1 B2 i bm bb (.slice (some ⟨pb, poff, none⟩) pn pc) (J pre) w4 := ⟨hJ _ _ _ none H.out.2.1 (below_grown hw34) (fun r e => by cases e), H.out.2.2.1.below_ hw34, H.out.2.2.2.1.below_ hw34, H.out.2.2.2.2.trans (hw34.mono H.out.2.2.2.2.size)⟩
      rw [hw4]
      clear hw4 pc0 pc1 pc2 pc3 pc4 pc5
      have hg5 : ∀ w5, Below w4.heap.size w4 w5 → Good1 w0 B1 B2 i bm bb (.slice (some ⟨pb, poff, none⟩) pn pc) (J pre) w5 := fun w5 hb => ⟨hJ _ _ _ none g4.j (below_grown hb) (fun r e => by cases e), g4.b1.below_ hb, g4.b2.below_ hb, g4.below.trans (hb.mono g4.below.size)⟩
      have HYL : Hid (∀ w5, Below w4.heap.size w4 w5 → YieldAt Fence.wide (n - 1) Try.prog l #[(addrF (i : Int) bm (k : Int)).agg, .agg #[.int .i64 p0, .int .i64 p1, .int .i64 p2, .int .i64 p3, .int .i64 p4, .string p5]] w5 fun e W' => (e = .returned (.bool true) ∧ Good1 w0 B1 B2 i bm bb (.slice (some ⟨pb, poff, none⟩) pn pc) (J (pre ++ [(addrF (i : Int) bm (k : Int), ⟨p0, ⟨p1, p2, p3, p4⟩, p5⟩)])) W') ∨ (e = .returned (.bool false) ∧ Jx (pre ++ [(addrF (i : Int) bm (k : Int), ⟨p0, ⟨p1, p2, p3, p4⟩, p5⟩)]) W')) := fun w5 hb =>
        (hY pre (addrF (i : Int) bm (k : Int), ⟨p0, ⟨p1, p2, p3, p4⟩, p5⟩) w5 (hg5 w5 hb).j (by have := H.out.1.1; omega)).mono (fun e W' h => h.imp (fun h => ⟨h.1, hgood _ _ (hg5 w5 hb) h.2.1 h.2.2⟩) id)
      have HC : Hid (∀ w5, Below w4.heap.size w4 w5 → w5.cell? ⟨B1, 0, none⟩ = some (.int .i64 i) ∧ w5.cell? ⟨B2, 0, none⟩ = some (.int .i64 bm) ∧ w5.cell? ⟨wr.heap.size, 0, none⟩ = some (.int .i64 p0) ∧ w5.cell? ⟨wr.heap.size, 1, none⟩ = some (.int .i64 p1) ∧ w5.cell? ⟨wr.heap.size, 2, none⟩ = some (.int .i64 p2) ∧ w5.cell? ⟨wr.heap.size, 3, none⟩ = some (.int .i64 p3) ∧ w5.cell? ⟨wr.heap.size, 4, none⟩ = some (.int .i64 p4) ∧ w5.cell? ⟨wr.heap.size, 5, none⟩ = some (.string p5)) := fun w5 hb =>
        ⟨((g4.b1.below_ hb).cell 0).trans rfl, ((g4.b2.below_ hb).cell 0).trans rfl, ((hblk.below_ hb).cell 0).trans rfl, ((hblk.below_ hb).cell 1).trans rfl, ((hblk.below_ hb).cell 2).trans rfl, ((hblk.below_ hb).cell 3).trans rfl, ((hblk.below_ hb).cell 4).trans rfl, ((hblk.below_ hb).cell 5).trans rfl⟩
      have HG4 := Lib.hid g4
      have HPX := Lib.hid hpx
      clear g4 hg5 hgood hblk hw34 hpx
      obtain ⟨d0, d1, d2, d3, d4, d5, d6, d7⟩ := HC.out w4 (Below.refl _ _)
      refine wpIn_mono (Q := fun e a' w' => e = .normal ∧ ((Good1 w0 B1 B2 i bm bb (.slice (some ⟨pb, poff, none⟩) pn pc) (J (pre ++ [(addrF (i : Int) bm (k : Int), ⟨p0, ⟨p1, p2, p3, p4⟩, p5⟩)])) w' ∧ a' = ({ tmps := #[.func (.yield l) #[] #[], .pointer (some ⟨B2, 0, none⟩), .pointer (some ⟨B1, 0, none⟩), undef, .int .i64 k, .pointer (some ⟨wr.heap.size, 0, none⟩), .pointer (some ⟨B2, 2, none⟩), .slice (some ⟨pb, poff, none⟩) pn pc, .int .i64 pn, .int .i64 k, .bool true, .int .i64 k, .pointer (some ⟨pb, poff + k * 6, none⟩), .agg #[.int .i64 p0, .int .i64 p1, .int .i64 p2, .int .i64 p3, .int .i64 p4, .string p5], .func (.yield l) #[] #[], .int .i64 i, .pointer (some ⟨B2, 0, none⟩), .int .i64 bm, .int .i64 k, (addrF (i : Int) bm (k : Int)).agg, .agg #[.int .i64 p0, .int .i64 p1, .int .i64 p2, .int .i64 p3, .int .i64 p4, .string p5], .bool true, .bool false, u23], defers := [] } : Act)) ∨ (Jx (pre ++ [(addrF (i : Int) bm (k : Int), ⟨p0, ⟨p1, p2, p3, p4⟩, p5⟩)]) w' ∧ a' = ({ tmps := #[.func (.yield l) #[] #[], .pointer (some ⟨B2, 0, none⟩), .pointer (some ⟨B1, 0, none⟩), undef, .int .i64 k, .pointer (some ⟨wr.heap.size, 0, none⟩), .pointer (some ⟨B2, 2, none⟩), .slice (some ⟨pb, poff, none⟩) pn pc, .int .i64 pn, .int .i64 k, .bool true, .int .i64 k, .pointer (some ⟨pb, poff + k * 6, none⟩), .agg #[.int .i64 p0, .int .i64 p1, .int .i64 p2, .int .i64 p3, .int .i64 p4, .string p5], .func (.yield l) #[] #[], .int .i64 i, .pointer (some ⟨B2, 0, none⟩), .int .i64 bm, .int .i64 k, (addrF (i : Int) bm (k : Int)).agg, .agg #[.int .i64 p0, .int .i64 p1, .int .i64 p2, .int .i64 p3, .int .i64 p4, .string p5], .bool false, .bool true, u23], defers := [] } : Act)))) ?cut ?rest
      case rest =>
        rintro e a' w6 ⟨rfl, ⟨hg, rfl⟩ | ⟨hx, rfl⟩⟩
        · have HG6 := Lib.hid hg
          clear hg d0 d1 d2 d3 d4 d5 d6 d7
          gi_wp2
          go_roundw
          case rel => exact ⟨k + 1, pre ++ [(addrF (i : Int) bm (k : Int), ⟨p0, ⟨p1, p2, p3, p4⟩, p5⟩)], by omega, by go_num, H.out.1.snoc HPX.out, HG6.out.j, HG6.out.b1, HG6.out.b2, HG6.out.below⟩
          case measure => simp [intOf]; omega
        · have HX6 := Lib.hid hx
          clear hx d0 d1 d2 d3 d4 d5 d6 d7
          gi_wp2
          refine bodyPost_ret (results_none rfl _ _ _) rfl ?_
          exact ⟨⟨_, rfl⟩, .inr ⟨_, trivial, HX6.out⟩⟩
      refine wpIn_region_any (by kernel_rfl) ?_
      change wpAnyIn _ _ _ _ _ _ _ _ _ (World.drew _)
      refine wpAnyIn_take (i := 0) (v := .func (.yield l) #[] #[]) rfl rfl (by kernel_rfl) (by kernel_rfl) (by kernel_rfl) (fun _ _ _ h => by cases h.1) ⟨Or.inl ⟨by rfl, ?_⟩, fun _ => rfl⟩ ?_
      · intro w; go_simp
      refine wpAnyIn_take (i := 2) (v := .pointer (some ⟨B2, 0, none⟩)) rfl rfl (by kernel_rfl) (by kernel_rfl) (by kernel_rfl) (fun _ _ _ h => by cases h.1) ⟨Or.inl ⟨by rfl, ?_⟩, fun _ => rfl⟩ ?_
      · intro w; go_simp
      refine wpAnyIn_take (i := 4) (v := .int .i64 k) rfl rfl (by kernel_rfl) (by kernel_rfl) (by kernel_rfl) (fun _ _ _ h => by cases h.1) ⟨Or.inl ⟨by rfl, ?_⟩, fun _ => rfl⟩ ?_
      · intro w; go_simp
      refine wpAnyIn_ready (rs := [1, 3, 6]) (by kernel_rfl) (by simp) ?_
      refine AllReadyIn.cons rfl (fun K hK => ?_) ?_
      ·
        go_simp
        refine hK _ _ ?_; clear hK K
        refine wpAnyIn_ready (rs := [3, 6]) (by kernel_rfl) (by simp) ?_
        refine AllReadyIn.cons rfl (fun K hK => ?_) ?_
        ·
          go_simp
          refine hK _ _ ?_; clear hK K
          refine wpAnyIn_ready (rs := [5, 6]) (by kernel_rfl) (by simp) ?_
          refine AllReadyIn.cons rfl (fun K hK => ?_) ?_
          ·
            go_simp
            refine ⟨trivial, fun h => (by cases h), ?_⟩
            refine (callsIn_wide.2 (addr_any (i : Int) bm (k : Int) (by omega) (by omega) _)).mono ?_
            rintro e w5 ⟨rfl, hb5⟩
            replace hb5 : Below w4.heap.size w4 w5 := ((Below.refl w4.heap.size w4).drew).trans hb5
            obtain ⟨c0, c1, c2, c3, c4, c5, c6, c7⟩ := HC.out w5 hb5
            refine hK _ _ ?_; clear hK K
            refine wpAnyIn_ready (rs := [6]) (by kernel_rfl) (by simp) ?_
            refine AllReadyIn.cons rfl (fun K hK => ?_) ?_
            ·
              go_simp
              refine hK _ _ ?_; clear hK K
              refine wpAnyIn_ready (rs := [7]) (by kernel_rfl) (by simp) ?_
              refine AllReadyIn.cons rfl (fun K hK => ?_) ?_
              ·
                obtain ⟨fn, tmps, assign, body, hy, hR⟩ := HYL.out w5 hb5
                go_simp
                refine ⟨fun h => (by cases h), ?_⟩
                refine hR.mono ?_
                rintro e w6 (⟨rfl, hg6⟩ | ⟨rfl, hx6⟩)
                · refine hK _ _ ?_; clear hK K
                  refine wpAnyIn_ready (rs := [8]) (by kernel_rfl) (by simp) ?_
                  refine AllReadyIn.cons rfl (fun K hK => ?_) AllReadyIn.nil
                  go_simp; refine hK _ _ ?_; clear hK K
                  refine wpAnyIn_done (by kernel_rfl) ?_ _
                  exact ⟨rfl, .inl ⟨hg6, rfl⟩⟩
                · refine hK _ _ ?_; clear hK K
                  refine wpAnyIn_ready (rs := [8]) (by kernel_rfl) (by simp) ?_
                  refine AllReadyIn.cons rfl (fun K hK => ?_) AllReadyIn.nil
                  go_simp; refine hK _ _ ?_; clear hK K
                  refine wpAnyIn_done (by kernel_rfl) ?_ _
                  exact ⟨rfl, .inr ⟨hx6, rfl⟩⟩
              exact AllReadyIn.nil
            exact AllReadyIn.nil
          refine AllReadyIn.cons rfl (fun K hK => ?_) ?_
          ·
            go_simp
            refine hK _ _ ?_; clear hK K
            refine wpAnyIn_ready (rs := [5]) (by kernel_rfl) (by simp) ?_
            refine AllReadyIn.cons rfl (fun K hK => ?_) ?_
            ·
              go_simp
              refine ⟨trivial, fun h => (by cases h), ?_⟩
              refine (callsIn_wide.2 (addr_any (i : Int) bm (k : Int) (by omega) (by omega) _)).mono ?_
              rintro e w5 ⟨rfl, hb5⟩
              replace hb5 : Below w4.heap.size w4 w5 := ((Below.refl w4.heap.size w4).drew).trans hb5
              obtain ⟨c0, c1, c2, c3, c4, c5, c6, c7⟩ := HC.out w5 hb5
              refine hK _ _ ?_; clear hK K
              refine wpAnyIn_ready (rs := [7]) (by kernel_rfl) (by simp) ?_
              refine AllReadyIn.cons rfl (fun K hK => ?_) ?_
              ·
                obtain ⟨fn, tmps, assign, body, hy, hR⟩ := HYL.out w5 hb5
                go_simp
                refine ⟨fun h => (by cases h), ?_⟩
                refine hR.mono ?_
                rintro e w6 (⟨rfl, hg6⟩ | ⟨rfl, hx6⟩)
                · refine hK _ _ ?_; clear hK K
                  refine wpAnyIn_ready (rs := [8]) (by kernel_rfl) (by simp) ?_
                  refine AllReadyIn.cons rfl (fun K hK => ?_) AllReadyIn.nil
                  go_simp; refine hK _ _ ?_; clear hK K
                  refine wpAnyIn_done (by kernel_rfl) ?_ _
                  exact ⟨rfl, .inl ⟨hg6, rfl⟩⟩
                · refine hK _ _ ?_; clear hK K
                  refine wpAnyIn_ready (rs := [8]) (by kernel_rfl) (by simp) ?_
                  refine AllReadyIn.cons rfl (fun K hK => ?_) AllReadyIn.nil
                  go_simp; refine hK _ _ ?_; clear hK K
                  refine wpAnyIn_done (by kernel_rfl) ?_ _
                  exact ⟨rfl, .inr ⟨hx6, rfl⟩⟩
              exact AllReadyIn.nil
            exact AllReadyIn.nil
          exact AllReadyIn.nil
        refine AllReadyIn.cons rfl (fun K hK => ?_) ?_
        ·
          go_simp
          refine hK _ _ ?_; clear hK K
          refine wpAnyIn_ready (rs := [3]) (by kernel_rfl) (by simp) ?_
          refine AllReadyIn.cons rfl (fun K hK => ?_) ?_
          ·
            go_simp
            refine hK _ _ ?_; clear hK K
            refine wpAnyIn_ready (rs := [5]) (by kernel_rfl) (by simp) ?_
            refine AllReadyIn.cons rfl (fun K hK => ?_) ?_
            ·
              go_simp
              refine ⟨trivial, fun h => (by cases h), ?_⟩
              refine (callsIn_wide.2 (addr_any (i : Int) bm (k : Int) (by omega) (by omega) _)).mono ?_
              rintro e w5 ⟨rfl, hb5⟩
              replace hb5 : Below w4.heap.size w4 w5 := ((Below.refl w4.heap.size w4).drew).trans hb5
              obtain ⟨c0, c1, c2, c3, c4, c5, c6, c7⟩ := HC.out w5 hb5
              refine hK _ _ ?_; clear hK K
              refine wpAnyIn_ready (rs := [7]) (by kernel_rfl) (by simp) ?_
              refine AllReadyIn.cons rfl (fun K hK => ?_) ?_
              ·
                obtain ⟨fn, tmps, assign, body, hy, hR⟩ := HYL.out w5 hb5
                go_simp
                refine ⟨fun h => (by cases h), ?_⟩
                refine hR.mono ?_
                rintro e w6 (⟨rfl, hg6⟩ | ⟨rfl, hx6⟩)
                · refine hK _ _ ?_; clear hK K
                  refine wpAnyIn_ready (rs := [8]) (by kernel_rfl) (by simp) ?_
                  refine AllReadyIn.cons rfl (fun K hK => ?_) AllReadyIn.nil
                  go_simp; refine hK _ _ ?_; clear hK K
                  refine wpAnyIn_done (by kernel_rfl) ?_ _
                  exact ⟨rfl, .inl ⟨hg6, rfl⟩⟩
                · refine hK _ _ ?_; clear hK K
                  refine wpAnyIn_ready (rs := [8]) (by kernel_rfl) (by simp) ?_
                  refine AllReadyIn.cons rfl (fun K hK => ?_) AllReadyIn.nil
                  go_simp; refine hK _ _ ?_; clear hK K
                  refine wpAnyIn_done (by kernel_rfl) ?_ _
                  exact ⟨rfl, .inr ⟨hx6, rfl⟩⟩
              exact AllReadyIn.nil
            exact AllReadyIn.nil
          exact AllReadyIn.nil
        exact AllReadyIn.nil
      refine AllReadyIn.cons rfl (fun K hK => ?_) ?_
      ·
        go_simp
        refine hK _ _ ?_; clear hK K
        refine wpAnyIn_ready (rs := [1, 6]) (by kernel_rfl) (by simp) ?_
        refine AllReadyIn.cons rfl (fun K hK => ?_) ?_
        ·
          go_simp
          refine hK _ _ ?_; clear hK K
          refine wpAnyIn_ready (rs := [5, 6]) (by kernel_rfl) (by simp) ?_
          refine AllReadyIn.cons rfl (fun K hK => ?_) ?_
          ·
            go_simp
            refine ⟨trivial, fun h => (by cases h), ?_⟩
            refine (callsIn_wide.2 (addr_any (i : Int) bm (k : Int) (by omega) (by omega) _)).mono ?_
            rintro e w5 ⟨rfl, hb5⟩
            replace hb5 : Below w4.heap.size w4 w5 := ((Below.refl w4.heap.size w4).drew).trans hb5
            obtain ⟨c0, c1, c2, c3, c4, c5, c6, c7⟩ := HC.out w5 hb5
            refine hK _ _ ?_; clear hK K
            refine wpAnyIn_ready (rs := [6]) (by kernel_rfl) (by simp) ?_
            refine AllReadyIn.cons rfl (fun K hK => ?_) ?_
            ·
              go_simp
              refine hK _ _ ?_; clear hK K
              refine wpAnyIn_ready (rs := [7]) (by kernel_rfl) (by simp) ?_
              refine AllReadyIn.cons rfl (fun K hK => ?_) ?_
              ·
                obtain ⟨fn, tmps, assign, body, hy, hR⟩ := HYL.out w5 hb5
                go_simp
                refine ⟨fun h => (by cases h), ?_⟩
                refine hR.mono ?_
                rintro e w6 (⟨rfl, hg6⟩ | ⟨rfl, hx6⟩)
                · refine hK _ _ ?_; clear hK K
                  refine wpAnyIn_ready (rs := [8]) (by kernel_rfl) (by simp) ?_
                  refine AllReadyIn.cons rfl (fun K hK => ?_) AllReadyIn.nil
                  go_simp; refine hK _ _ ?_; clear hK K
                  refine wpAnyIn_done (by kernel_rfl) ?_ _
                  exact ⟨rfl, .inl ⟨hg6, rfl⟩⟩
                · refine hK _ _ ?_; clear hK K
                  refine wpAnyIn_ready (rs := [8]) (by kernel_rfl) (by simp) ?_
                  refine AllReadyIn.cons rfl (fun K hK => ?_) AllReadyIn.nil
                  go_simp; refine hK _ _ ?_; clear hK K
                  refine wpAnyIn_done (by kernel_rfl) ?_ _
                  exact ⟨rfl, .inr ⟨hx6, rfl⟩⟩
              exact AllReadyIn.nil
            exact AllReadyIn.nil
          refine AllReadyIn.cons rfl (fun K hK => ?_) ?_
          ·
            go_simp
            refine hK _ _ ?_; clear hK K
            refine wpAnyIn_ready (rs := [5]) (by kernel_rfl) (by simp) ?_
            refine AllReadyIn.cons rfl (fun K hK => ?_) ?_
            ·
              go_simp
              refine ⟨trivial, fun h => (by cases h), ?_⟩
              refine (callsIn_wide.2 (addr_any (i : Int) bm (k : Int) (by omega) (by omega) _)).mono ?_
              rintro e w5 ⟨rfl, hb5⟩
              replace hb5 : Below w4.heap.size w4 w5 := ((Below.refl w4.heap.size w4).drew).trans hb5
              obtain ⟨c0, c1, c2, c3, c4, c5, c6, c7⟩ := HC.out w5 hb5
              refine hK _ _ ?_; clear hK K
              refine wpAnyIn_ready (rs := [7]) (by kernel_rfl) (by simp) ?_
              refine AllReadyIn.cons rfl (fun K hK => ?_) ?_
              ·
                obtain ⟨fn, tmps, assign, body, hy, hR⟩ := HYL.out w5 hb5
                go_simp
                refine ⟨fun h => (by cases h), ?_⟩
                refine hR.mono ?_
                rintro e w6 (⟨rfl, hg6⟩ | ⟨rfl, hx6⟩)
                · refine hK _ _ ?_; clear hK K
                  refine wpAnyIn_ready (rs := [8]) (by kernel_rfl) (by simp) ?_
                  refine AllReadyIn.cons rfl (fun K hK => ?_) AllReadyIn.nil
                  go_simp; refine hK _ _ ?_; clear hK K
                  refine wpAnyIn_done (by kernel_rfl) ?_ _
                  exact ⟨rfl, .inl ⟨hg6, rfl⟩⟩
                · refine hK _ _ ?_; clear hK K
                  refine wpAnyIn_ready (rs := [8]) (by kernel_rfl) (by simp) ?_
                  refine AllReadyIn.cons rfl (fun K hK => ?_) AllReadyIn.nil
                  go_simp; refine hK _ _ ?_; clear hK K
                  refine wpAnyIn_done (by kernel_rfl) ?_ _
                  exact ⟨rfl, .inr ⟨hx6, rfl⟩⟩
              exact AllReadyIn.nil
            exact AllReadyIn.nil
          exact AllReadyIn.nil
        refine AllReadyIn.cons rfl (fun K hK => ?_) ?_
        ·
          go_simp
          refine hK _ _ ?_; clear hK K
          refine wpAnyIn_ready (rs := [1]) (by kernel_rfl) (by simp) ?_
          refine AllReadyIn.cons rfl (fun K hK => ?_) ?_
          ·
            go_simp
            refine hK _ _ ?_; clear hK K
            refine wpAnyIn_ready (rs := [5]) (by kernel_rfl) (by simp) ?_
            refine AllReadyIn.cons rfl (fun K hK => ?_) ?_
            ·
              go_simp
              refine ⟨trivial, fun h => (by cases h), ?_⟩
              refine (callsIn_wide.2 (addr_any (i : Int) bm (k : Int) (by omega) (by omega) _)).mono ?_
              rintro e w5 ⟨rfl, hb5⟩
              replace hb5 : Below w4.heap.size w4 w5 := ((Below.refl w4.heap.size w4).drew).trans hb5
              obtain ⟨c0, c1, c2, c3, c4, c5, c6, c7⟩ := HC.out w5 hb5
              refine hK _ _ ?_; clear hK K
              refine wpAnyIn_ready (rs := [7]) (by kernel_rfl) (by simp) ?_
              refine AllReadyIn.cons rfl (fun K hK => ?_) ?_
              ·
                obtain ⟨fn, tmps, assign, body, hy, hR⟩ := HYL.out w5 hb5
                go_simp
                refine ⟨fun h => (by cases h), ?_⟩
                refine hR.mono ?_
                rintro e w6 (⟨rfl, hg6⟩ | ⟨rfl, hx6⟩)
                · refine hK _ _ ?_; clear hK K
                  refine wpAnyIn_ready (rs := [8]) (by kernel_rfl) (by simp) ?_
                  refine AllReadyIn.cons rfl (fun K hK => ?_) AllReadyIn.nil
                  go_simp; refine hK _ _ ?_; clear hK K
                  refine wpAnyIn_done (by kernel_rfl) ?_ _
                  exact ⟨rfl, .inl ⟨hg6, rfl⟩⟩
                · refine hK _ _ ?_; clear hK K
                  refine wpAnyIn_ready (rs := [8]) (by kernel_rfl) (by simp) ?_
                  refine AllReadyIn.cons rfl (fun K hK => ?_) AllReadyIn.nil
                  go_simp; refine hK _ _ ?_; clear hK K
                  refine wpAnyIn_done (by kernel_rfl) ?_ _
                  exact ⟨rfl, .inr ⟨hx6, rfl⟩⟩
              exact AllReadyIn.nil
            exact AllReadyIn.nil
          exact AllReadyIn.nil
        exact AllReadyIn.nil
      refine AllReadyIn.cons rfl (fun K hK => ?_) ?_
      ·
        go_simp
        refine hK _ _ ?_; clear hK K
        refine wpAnyIn_ready (rs := [1, 3]) (by kernel_rfl) (by simp) ?_
        refine AllReadyIn.cons rfl (fun K hK => ?_) ?_
        ·
          go_simp
          refine hK _ _ ?_; clear hK K
          refine wpAnyIn_ready (rs := [3]) (by kernel_rfl) (by simp) ?_
          refine AllReadyIn.cons rfl (fun K hK => ?_) ?_
          ·
            go_simp
            refine hK _ _ ?_; clear hK K
            refine wpAnyIn_ready (rs := [5]) (by kernel_rfl) (by simp) ?_
            refine AllReadyIn.cons rfl (fun K hK => ?_) ?_
            ·
              go_simp
              refine ⟨trivial, fun h => (by cases h), ?_⟩
              refine (callsIn_wide.2 (addr_any (i : Int) bm (k : Int) (by omega) (by omega) _)).mono ?_
              rintro e w5 ⟨rfl, hb5⟩
              replace hb5 : Below w4.heap.size w4 w5 := ((Below.refl w4.heap.size w4).drew).trans hb5
              obtain ⟨c0, c1, c2, c3, c4, c5, c6, c7⟩ := HC.out w5 hb5
              refine hK _ _ ?_; clear hK K
              refine wpAnyIn_ready (rs := [7]) (by kernel_rfl) (by simp) ?_
              refine AllReadyIn.cons rfl (fun K hK => ?_) ?_
              ·
                obtain ⟨fn, tmps, assign, body, hy, hR⟩ := HYL.out w5 hb5
                go_simp
                refine ⟨fun h => (by cases h), ?_⟩
                refine hR.mono ?_
                rintro e w6 (⟨rfl, hg6⟩ | ⟨rfl, hx6⟩)
                · refine hK _ _ ?_; clear hK K
                  refine wpAnyIn_ready (rs := [8]) (by kernel_rfl) (by simp) ?_
                  refine AllReadyIn.cons rfl (fun K hK => ?_) AllReadyIn.nil
                  go_simp; refine hK _ _ ?_; clear hK K
                  refine wpAnyIn_done (by kernel_rfl) ?_ _
                  exact ⟨rfl, .inl ⟨hg6, rfl⟩⟩
                · refine hK _ _ ?_; clear hK K
                  refine wpAnyIn_ready (rs := [8]) (by kernel_rfl) (by simp) ?_
                  refine AllReadyIn.cons rfl (fun K hK => ?_) AllReadyIn.nil
                  go_simp; refine hK _ _ ?_; clear hK K
                  refine wpAnyIn_done (by kernel_rfl) ?_ _
                  exact ⟨rfl, .inr ⟨hx6, rfl⟩⟩
              exact AllReadyIn.nil
            exact AllReadyIn.nil
          exact AllReadyIn.nil
        refine AllReadyIn.cons rfl (fun K hK => ?_) ?_
        ·
          go_simp
          refine hK _ _ ?_; clear hK K
          refine wpAnyIn_ready (rs := [1]) (by kernel_rfl) (by simp) ?_
          refine AllReadyIn.cons rfl (fun K hK => ?_) ?_
          ·
            go_simp
            refine hK _ _ ?_; clear hK K
            refine wpAnyIn_ready (rs := [5]) (by kernel_rfl) (by simp) ?_
            refine AllReadyIn.cons rfl (fun K hK => ?_) ?_
            ·
              go_simp
              refine ⟨trivial, fun h => (by cases h), ?_⟩
              refine (callsIn_wide.2 (addr_any (i : Int) bm (k : Int) (by omega) (by omega) _)).mono ?_
              rintro e w5 ⟨rfl, hb5⟩
              replace hb5 : Below w4.heap.size w4 w5 := ((Below.refl w4.heap.size w4).drew).trans hb5
              obtain ⟨c0, c1, c2, c3, c4, c5, c6, c7⟩ := HC.out w5 hb5
              refine hK _ _ ?_; clear hK K
              refine wpAnyIn_ready (rs := [7]) (by kernel_rfl) (by simp) ?_
              refine AllReadyIn.cons rfl (fun K hK => ?_) ?_
              ·
                obtain ⟨fn, tmps, assign, body, hy, hR⟩ := HYL.out w5 hb5
                go_simp
                refine ⟨fun h => (by cases h), ?_⟩
                refine hR.mono ?_
                rintro e w6 (⟨rfl, hg6⟩ | ⟨rfl, hx6⟩)
                · refine hK _ _ ?_; clear hK K
                  refine wpAnyIn_ready (rs := [8]) (by kernel_rfl) (by simp) ?_
                  refine AllReadyIn.cons rfl (fun K hK => ?_) AllReadyIn.nil
                  go_simp; refine hK _ _ ?_; clear hK K
                  refine wpAnyIn_done (by kernel_rfl) ?_ _
                  exact ⟨rfl, .inl ⟨hg6, rfl⟩⟩
                · refine hK _ _ ?_; clear hK K
                  refine wpAnyIn_ready (rs := [8]) (by kernel_rfl) (by simp) ?_
                  refine AllReadyIn.cons rfl (fun K hK => ?_) AllReadyIn.nil
                  go_simp; refine hK _ _ ?_; clear hK K
                  refine wpAnyIn_done (by kernel_rfl) ?_ _
                  exact ⟨rfl, .inr ⟨hx6, rfl⟩⟩
              exact AllReadyIn.nil
            exact AllReadyIn.nil
          exact AllReadyIn.nil
        exact AllReadyIn.nil
      exact AllReadyIn.nil
    · have hkn : k = pn := by omega
      subst hkn
      gi_wp2
      go_end0
      exact ⟨⟨_, rfl⟩, .inl ⟨pre, by rw [hlen]; exact H.out.1, H.out.2.1⟩⟩
/-- scan.Where hands back a function that hands round each page with its address, in order. -/
theorem where_stops (n : Nat) (B1 B2 : Nat) (i : Nat) (b : Bk) (ps : List Pg) (w0 w : World) (hi : i ≤ 9223372036854775807)
    (hA : Sl ePg 6 w0 b.p.A b.p.n ps) (hw : Below w0.heap.size w0 w) (h1 : Blk w B1 3 #[.int .i64 i]) (h2 : Blk w B2 60 #[.int .i64 b.mode, .bool b.bad, b.p.v]) (hb1 : w0.heap.size ≤ B1) (hb2 : w0.heap.size ≤ B2) :
    SeqStopsK Fence.wide n Try.prog 83 #[.pointer (some ⟨B2, 0, none⟩), .pointer (some ⟨B1, 0, none⟩)] apE (KpW w0.heap.size B1 B2) (fun ys => PreF i b.mode ps ps.length ys) (fun _ => True) ps.length w := fun l J Jx W hW hJ _ hY h0 =>
  where1_in n l B1 B2 i b ps w0 J Jx hi hA W (hw.trans (hW.mono hw.size)) (h1.below_ hW) (h2.below_ hW) hb1 hb2 hJ hY h0
#print axioms where_stops
end Go.Proofs.Ytdjfkehbknbocaa

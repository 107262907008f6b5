/- The walks of May and of its reference. -/
import Derived.Test.YtdjfkehbknbocaaBestB
import Derived.Test.YtdjfkehbknbocaaQuiet
namespace Go.Proofs.Ytdjfkehbknbocaa
open Go.RowKit
set_option linter.unusedSimpArgs false
set_option linter.unusedVariables false

structure Sv where
  A : Option Addr
  n : Nat
  c : Nat
def Sv.v (s : Sv) : Value := .slice s.A s.n s.c
structure Geo where
  blocks : Int
  lines : Int
  bytes : Int
  lbas : Int
  spare : Int
  wear : Int
def Geo.agg (g : Geo) : Value := .agg #[.int .i64 g.blocks, .int .i64 g.lines, .int .i64 g.bytes, .int .i64 g.lbas, .int .i64 g.spare, .int .i64 g.wear]
structure St where
  f : Sv
  c : Sv
  s : Sv
  t : Sv
def St.agg (s : St) : Value := .agg #[s.f.v, s.c.v, s.s.v, s.t.v]
structure Bk where
  mode : Int
  bad : Bool
  p : Sv
def Bk.agg (b : Bk) : Value := .agg #[.int .i64 b.mode, .bool b.bad, b.p.v]
def mayF (lbas : Int) (fl co : List Int) (block mode : Int) (p : Pg) : Bool :=
  tellsF p && (p.tag.kind == 1 && (decide (0 ≤ p.tag.lba) && (decide (p.tag.lba < lbas) && (decide (ofF fl p.tag.lba ≤ p.tag.seq) &&
    (mode == 1 || (mode == 2 && (decide (0 < ofF co block) && ofF co block == p.tag.epoch)))))))
set_option maxHeartbeats 40000000 in
theorem may_any (g : Geo) (s : St) (fl co : List Int) (block : Int) (b : Bk) (p : Pg) (w : World) (hf : Sl eInt 1 w s.f.A s.f.n fl) (hc : Sl eInt 1 w s.c.A s.c.n co) :
    Calls Try.prog 34 #[g.agg, s.agg, .int .i64 block, b.agg, p.agg] w fun e w' => e = .returned (.bool (mayF g.lbas fl co block b.mode p)) ∧ Below w.heap.size w w' := by
  have ht := fun W => tells_any p W
  have hm : mayF g.lbas fl co block b.mode p = (tellsF p && (p.tag.kind == 1 && (decide (0 ≤ p.tag.lba) && (decide (p.tag.lba < g.lbas) && (decide (ofF fl p.tag.lba ≤ p.tag.seq) &&
    (b.mode == 1 || (b.mode == 2 && (decide (0 < ofF co block) && ofF co block == p.tag.epoch)))))))) := rfl
  have h1 := fun W (hW : Below w.heap.size w W) i => of_any s.f.A s.f.n s.f.c fl i W (hf.below hW)
  have h2 := fun W (hW : Below w.heap.size w W) => of_any s.c.A s.c.n s.c.c co block W (hc.below hW)
  generalize mayF g.lbas fl co block b.mode p = R at hm
  generalize ofF co block = y at hm h2
  replace h1 := fun W hW => h1 W hW p.tag.lba
  generalize ofF fl p.tag.lba = x at hm h1
  generalize tellsF p = T at hm ht
  obtain ⟨g0, g1, g2, g3, g4, g5⟩ := g
  obtain ⟨⟨fA, fn, fc⟩, ⟨cA, cn, cc⟩, ⟨sA, sn, sc⟩, ⟨tA, tn, tc⟩⟩ := s
  obtain ⟨bm, bb, ⟨bA, bn, bc⟩⟩ := b
  obtain ⟨p0, ⟨p1, p2, p3, p4⟩, p5⟩ := p
  simp only [Pg.agg, Geo.agg, St.agg, Bk.agg, Sv.v] at ht hm h1 h2 ⊢
  clear hf hc
  have k0 := ((((Blk.new w 48 #[.int .i64 g0, .int .i64 g1, .int .i64 g2, .int .i64 g3, .int .i64 g4, .int .i64 g5]).alloc (.cells #[.slice fA fn fc, .slice cA cn cc, .slice sA sn sc, .slice tA tn tc] 50)).alloc (.cells #[.int .i64 bm, .bool bb, .slice bA bn bc] 60)).alloc (.cells #[.int .i64 p0, .int .i64 p1, .int .i64 p2, .int .i64 p3, .int .i64 p4, .string p5] 64)).alloc (.cells #[.int .i64 p1, .int .i64 p2, .int .i64 p3, .int .i64 p4] 62)
  have k1 := Blk.new (w.alloc (.cells #[.int .i64 g0, .int .i64 g1, .int .i64 g2, .int .i64 g3, .int .i64 g4, .int .i64 g5] 48)) 50 #[.slice fA fn fc, .slice cA cn cc, .slice sA sn sc, .slice tA tn tc]
  simp only [World.size_alloc] at k1
  replace k1 := k1.alloc (.cells #[.int .i64 bm, .bool bb, .slice bA bn bc] 60)
  replace k1 := k1.alloc (.cells #[.int .i64 p0, .int .i64 p1, .int .i64 p2, .int .i64 p3, .int .i64 p4, .string p5] 64)
  replace k1 := k1.alloc (.cells #[.int .i64 p1, .int .i64 p2, .int .i64 p3, .int .i64 p4] 62)
  have k2 := Blk.new ((w.alloc (.cells #[.int .i64 g0, .int .i64 g1, .int .i64 g2, .int .i64 g3, .int .i64 g4, .int .i64 g5] 48)).alloc (.cells #[.slice fA fn fc, .slice cA cn cc, .slice sA sn sc, .slice tA tn tc] 50)) 60 #[.int .i64 bm, .bool bb, .slice bA bn bc]
  simp only [World.size_alloc] at k2
  replace k2 := k2.alloc (.cells #[.int .i64 p0, .int .i64 p1, .int .i64 p2, .int .i64 p3, .int .i64 p4, .string p5] 64)
  replace k2 := k2.alloc (.cells #[.int .i64 p1, .int .i64 p2, .int .i64 p3, .int .i64 p4] 62)
  have k3 := Blk.new (((w.alloc (.cells #[.int .i64 g0, .int .i64 g1, .int .i64 g2, .int .i64 g3, .int .i64 g4, .int .i64 g5] 48)).alloc (.cells #[.slice fA fn fc, .slice cA cn cc, .slice sA sn sc, .slice tA tn tc] 50)).alloc (.cells #[.int .i64 bm, .bool bb, .slice bA bn bc] 60)) 64 #[.int .i64 p0, .int .i64 p1, .int .i64 p2, .int .i64 p3, .int .i64 p4, .string p5]
  simp only [World.size_alloc] at k3
  replace k3 := k3.alloc (.cells #[.int .i64 p1, .int .i64 p2, .int .i64 p3, .int .i64 p4] 62)
  have k4 := Blk.new ((((w.alloc (.cells #[.int .i64 g0, .int .i64 g1, .int .i64 g2, .int .i64 g3, .int .i64 g4, .int .i64 g5] 48)).alloc (.cells #[.slice fA fn fc, .slice cA cn cc, .slice sA sn sc, .slice tA tn tc] 50)).alloc (.cells #[.int .i64 bm, .bool bb, .slice bA bn bc] 60)).alloc (.cells #[.int .i64 p0, .int .i64 p1, .int .i64 p2, .int .i64 p3, .int .i64 p4, .string p5] 64)) 62 #[.int .i64 p1, .int .i64 p2, .int .i64 p3, .int .i64 p4]
  simp only [World.size_alloc] at k4
  have hw0 : Below w.heap.size w (((((w.alloc (.cells #[.int .i64 g0, .int .i64 g1, .int .i64 g2, .int .i64 g3, .int .i64 g4, .int .i64 g5] 48)).alloc (.cells #[.slice fA fn fc, .slice cA cn cc, .slice sA sn sc, .slice tA tn tc] 50)).alloc (.cells #[.int .i64 bm, .bool bb, .slice bA bn bc] 60)).alloc (.cells #[.int .i64 p0, .int .i64 p1, .int .i64 p2, .int .i64 p3, .int .i64 p4, .string p5] 64)).alloc (.cells #[.int .i64 p1, .int .i64 p2, .int .i64 p3, .int .i64 p4] 62)) := by ((try change Below _ _ _); (repeat (any_goals (first | (with_reducible exact Below.refl _ _) | (with_reducible exact Below.refl _ _) | (with_reducible apply Below.drew) | (with_reducible apply below_drewN) | (with_reducible refine Below.alloc ?_ ?_ _) | (with_reducible refine Below.setCell ?_ ?_ _)))); all_goals (first | exact Nat.le_refl _ | (simp; done) | (simp; omega) | omega | (dsimp only; omega)))
  obtain ⟨W0, hW0⟩ : ∃ W0, (((((w.alloc (.cells #[.int .i64 g0, .int .i64 g1, .int .i64 g2, .int .i64 g3, .int .i64 g4, .int .i64 g5] 48)).alloc (.cells #[.slice fA fn fc, .slice cA cn cc, .slice sA sn sc, .slice tA tn tc] 50)).alloc (.cells #[.int .i64 bm, .bool bb, .slice bA bn bc] 60)).alloc (.cells #[.int .i64 p0, .int .i64 p1, .int .i64 p2, .int .i64 p3, .int .i64 p4, .string p5] 64)).alloc (.cells #[.int .i64 p1, .int .i64 p2, .int .i64 p3, .int .i64 p4] 62)) = W0 := ⟨_, rfl⟩
  rw [hW0] at k0 k1 k2 k3 k4 hw0
  have hcells : ∀ W, Below W0.heap.size W0 W → W.cell? ⟨w.heap.size, 3, none⟩ = some (.int .i64 g3) ∧ W.cell? ⟨w.heap.size + 1, 0, none⟩ = some (.slice fA fn fc) ∧ W.cell? ⟨w.heap.size + 1, 1, none⟩ = some (.slice cA cn cc) ∧ W.cell? ⟨w.heap.size + 1 + 1, 0, none⟩ = some (.int .i64 bm) ∧ W.cell? ⟨w.heap.size + 1 + 1 + 1, 0, none⟩ = some (.int .i64 p0) ∧ W.cell? ⟨w.heap.size + 1 + 1 + 1, 1, none⟩ = some (.int .i64 p1) ∧ W.cell? ⟨w.heap.size + 1 + 1 + 1, 2, none⟩ = some (.int .i64 p2) ∧ W.cell? ⟨w.heap.size + 1 + 1 + 1, 3, none⟩ = some (.int .i64 p3) ∧ W.cell? ⟨w.heap.size + 1 + 1 + 1, 4, none⟩ = some (.int .i64 p4) ∧ W.cell? ⟨w.heap.size + 1 + 1 + 1, 5, none⟩ = some (.string p5) ∧ W.cell? ⟨w.heap.size + 1 + 1 + 1 + 1, 0, none⟩ = some (.int .i64 p1) ∧ W.cell? ⟨w.heap.size + 1 + 1 + 1 + 1, 1, none⟩ = some (.int .i64 p2) ∧ W.cell? ⟨w.heap.size + 1 + 1 + 1 + 1, 2, none⟩ = some (.int .i64 p3) ∧ W.cell? ⟨w.heap.size + 1 + 1 + 1 + 1, 3, none⟩ = some (.int .i64 p4) := fun W hW =>
    ⟨((k0.below_ hW).cell 3).trans rfl, ((k1.below_ hW).cell 0).trans rfl, ((k1.below_ hW).cell 1).trans rfl, ((k2.below_ hW).cell 0).trans rfl, ((k3.below_ hW).cell 0).trans rfl, ((k3.below_ hW).cell 1).trans rfl, ((k3.below_ hW).cell 2).trans rfl, ((k3.below_ hW).cell 3).trans rfl, ((k3.below_ hW).cell 4).trans rfl, ((k3.below_ hW).cell 5).trans rfl, ((k4.below_ hW).cell 0).trans rfl, ((k4.below_ hW).cell 1).trans rfl, ((k4.below_ hW).cell 2).trans rfl, ((k4.below_ hW).cell 3).trans rfl⟩
  clear k0 k1 k2 k3 k4
  have h3 := fun W (hW : Below W0.heap.size W0 W) => h1 W (below_tr hw0 hW)
  have h4 := fun W (hW : Below W0.heap.size W0 W) => h2 W (below_tr hw0 hW)
  clear h1 h2
  have kk := hcells _ (Below.refl _ _).drew
  have HT := Lib.hid ht
  clear ht
  have H3 := Lib.hid h3
  clear h3
  have H4 := Lib.hid h4
  clear h4
  have HCELLS := Lib.hid hcells
  clear hcells
  have HW0 := Lib.hid hw0
  clear hw0
  have early : (R = false ∧ ((T = false) ∨ (T = true ∧ (p1 != 1) = true) ∨ (T = true ∧ (p1 != 1) = false ∧ p2 < 0) ∨ (T = true ∧ (p1 != 1) = false ∧ ¬ p2 < 0 ∧ g3 ≤ p2) ∨ (T = true ∧ (p1 != 1) = false ∧ ¬ p2 < 0 ∧ ¬ g3 ≤ p2 ∧ p3 < x))) ∨
      ((T = true ∧ (p1 != 1) = false ∧ ¬ p2 < 0 ∧ ¬ g3 ≤ p2 ∧ ¬ p3 < x) ∧ (((bm == 1) = true ∧ R = true) ∨ ((bm == 1) = false ∧ (bm == 2) = false ∧ R = false) ∨ ((bm == 1) = false ∧ (bm == 2) = true ∧ ¬ 0 < y ∧ R = false) ∨ ((bm == 1) = false ∧ (bm == 2) = true ∧ 0 < y ∧ R = (y == p4)))) := by
    cases T with
    | false => exact .inl ⟨hm, .inl rfl⟩
    | true =>
      by_cases d1 : p1 = 1
      · by_cases d2 : p2 < 0
        · exact .inl ⟨by rw [hm]; simp [d1]; omega, by simp [d1, d2]⟩
        · by_cases d3 : g3 ≤ p2
          · exact .inl ⟨by rw [hm]; simp [d1]; omega, by simp [d1, d2, d3]⟩
          · by_cases d4 : p3 < x
            · exact .inl ⟨by rw [hm]; simp [d1]; omega, by simp [d1, d2, d3, d4]⟩
            · refine .inr ⟨by simp [d1, d2, d3, d4], ?_⟩
              have e2 : 0 ≤ p2 := by omega
              have e3 : p2 < g3 := by omega
              have e4 : x ≤ p3 := by omega
              by_cases d5 : bm = 1
              · exact .inl ⟨by simp [d5], by rw [hm]; simp [d1, e2, e3, e4, d5]⟩
              · by_cases d6 : bm = 2
                · by_cases d7 : 0 < y
                  · exact .inr (.inr (.inr ⟨by simp [d5], by simp [d6], d7, by rw [hm]; simp [d1, e2, e3, e4, d6, d7]⟩))
                  · exact .inr (.inr (.inl ⟨by simp [d5], by simp [d6], d7, by rw [hm]; simp [d6, d7]⟩))
                · exact .inr (.inl ⟨by simp [d5], by simp [d6], by rw [hm]; simp [d5, d6]⟩)
      · exact .inl ⟨by rw [hm]; simp [d1], by simp [d1]⟩
  clear hm
  rcases early with ⟨rfl, hd⟩ | ⟨⟨rfl, t1, t2, t3, t4⟩, hd⟩
  · rcases hd with rfl | ⟨rfl, t1⟩ | ⟨rfl, t1, t2⟩ | ⟨rfl, t1, t2, t3⟩ | ⟨rfl, t1, t2, t3, t4⟩
    all_goals
      have e0 := fun p : Past W0 => (HCELLS.out p.w p.h).1
      have e1 := fun p : Past W0 => (HCELLS.out p.w p.h).2.1
      have e2 := fun p : Past W0 => (HCELLS.out p.w p.h).2.2.1
      have e3 := fun p : Past W0 => (HCELLS.out p.w p.h).2.2.2.1
      have e4 := fun p : Past W0 => (HCELLS.out p.w p.h).2.2.2.2.1
      have e5 := fun p : Past W0 => (HCELLS.out p.w p.h).2.2.2.2.2.1
      have e6 := fun p : Past W0 => (HCELLS.out p.w p.h).2.2.2.2.2.2.1
      have e7 := fun p : Past W0 => (HCELLS.out p.w p.h).2.2.2.2.2.2.2.1
      have e8 := fun p : Past W0 => (HCELLS.out p.w p.h).2.2.2.2.2.2.2.2.1
      have e9 := fun p : Past W0 => (HCELLS.out p.w p.h).2.2.2.2.2.2.2.2.2.1
      have e10 := fun p : Past W0 => (HCELLS.out p.w p.h).2.2.2.2.2.2.2.2.2.2.1
      have e11 := fun p : Past W0 => (HCELLS.out p.w p.h).2.2.2.2.2.2.2.2.2.2.2.1
      have e12 := fun p : Past W0 => (HCELLS.out p.w p.h).2.2.2.2.2.2.2.2.2.2.2.2.1
      have e13 := fun p : Past W0 => (HCELLS.out p.w p.h).2.2.2.2.2.2.2.2.2.2.2.2.2
      go_enter Try.func34, Try.ntmps34
      go_wp2_with fail
      try rw [hW0]
      clear hW0 kk
      refine wp_region_quiet_past (by kernel_rfl) (by kernel_rfl) ?_
      repeat (refine qw_step (fun K_ hK_ => ?_); go_simp; first | (refine hK_ _ ?_; clear hK_ K_) | (apply Exists.intro; refine ⟨fun _ => ?_, hK_ _ ?_⟩; (first | (go_at_call 67; exact calls_past_of (HT.out _)) | (go_at_call 68; exact calls_past_of_same (H3.out _ (Past.h _)))); clear hK_ K_) | (rw [if_pos (by first | assumption | omega)]; first | (refine hK_ _ ?_; clear hK_ K_) | (apply Exists.intro; refine ⟨fun _ => ?_, hK_ _ ?_⟩; (first | (go_at_call 67; exact calls_past_of (HT.out _)) | (go_at_call 68; exact calls_past_of_same (H3.out _ (Past.h _)))); clear hK_ K_)) | (rw [if_neg (by first | assumption | omega)]; first | (refine hK_ _ ?_; clear hK_ K_) | (apply Exists.intro; refine ⟨fun _ => ?_, hK_ _ ?_⟩; (first | (go_at_call 67; exact calls_past_of (HT.out _)) | (go_at_call 68; exact calls_past_of_same (H3.out _ (Past.h _)))); clear hK_ K_)))
      refine qw_nil ?_
      intro WQ hw_
      obtain ⟨p_, hp_⟩ := hw_
      have HQ := p_.h
      rw [← hp_] at HQ
      clear hp_ p_
      go_wp2
      go_ret
      exact ⟨rfl, below_tr HW0.out HQ⟩
  · rcases hd with ⟨b1, rfl⟩ | ⟨b1, b2, rfl⟩ | ⟨b1, b2, b3, rfl⟩ | ⟨b1, b2, b3, rfl⟩
    all_goals
      have e0 := fun p : Past W0 => (HCELLS.out p.w p.h).1
      have e1 := fun p : Past W0 => (HCELLS.out p.w p.h).2.1
      have e2 := fun p : Past W0 => (HCELLS.out p.w p.h).2.2.1
      have e3 := fun p : Past W0 => (HCELLS.out p.w p.h).2.2.2.1
      have e4 := fun p : Past W0 => (HCELLS.out p.w p.h).2.2.2.2.1
      have e5 := fun p : Past W0 => (HCELLS.out p.w p.h).2.2.2.2.2.1
      have e6 := fun p : Past W0 => (HCELLS.out p.w p.h).2.2.2.2.2.2.1
      have e7 := fun p : Past W0 => (HCELLS.out p.w p.h).2.2.2.2.2.2.2.1
      have e8 := fun p : Past W0 => (HCELLS.out p.w p.h).2.2.2.2.2.2.2.2.1
      have e9 := fun p : Past W0 => (HCELLS.out p.w p.h).2.2.2.2.2.2.2.2.2.1
      have e10 := fun p : Past W0 => (HCELLS.out p.w p.h).2.2.2.2.2.2.2.2.2.2.1
      have e11 := fun p : Past W0 => (HCELLS.out p.w p.h).2.2.2.2.2.2.2.2.2.2.2.1
      have e12 := fun p : Past W0 => (HCELLS.out p.w p.h).2.2.2.2.2.2.2.2.2.2.2.2.1
      have e13 := fun p : Past W0 => (HCELLS.out p.w p.h).2.2.2.2.2.2.2.2.2.2.2.2.2
      go_enter Try.func34, Try.ntmps34
      go_wp2_with fail
      try rw [hW0]
      clear hW0 kk
      refine wp_region_quiet_past (by kernel_rfl) (by kernel_rfl) ?_
      repeat (refine qw_step (fun K_ hK_ => ?_); go_simp; first | (refine hK_ _ ?_; clear hK_ K_) | (apply Exists.intro; refine ⟨fun _ => ?_, hK_ _ ?_⟩; (first | (go_at_call 67; exact calls_past_of (HT.out _)) | (go_at_call 68; exact calls_past_of_same (H3.out _ (Past.h _)))); clear hK_ K_) | (rw [if_pos (by first | assumption | omega)]; first | (refine hK_ _ ?_; clear hK_ K_) | (apply Exists.intro; refine ⟨fun _ => ?_, hK_ _ ?_⟩; (first | (go_at_call 67; exact calls_past_of (HT.out _)) | (go_at_call 68; exact calls_past_of_same (H3.out _ (Past.h _)))); clear hK_ K_)) | (rw [if_neg (by first | assumption | omega)]; first | (refine hK_ _ ?_; clear hK_ K_) | (apply Exists.intro; refine ⟨fun _ => ?_, hK_ _ ?_⟩; (first | (go_at_call 67; exact calls_past_of (HT.out _)) | (go_at_call 68; exact calls_past_of_same (H3.out _ (Past.h _)))); clear hK_ K_)))
      refine qw_nil ?_
      intro WQ hw_
      obtain ⟨p_, hp_⟩ := hw_
      have HQ := p_.h
      rw [← hp_] at HQ
      clear hp_ p_
      have c0 := HCELLS.out _ HQ
      obtain ⟨c0, c1, c2, c3, c4, c5, c6, c7, c8, c9, c10, c11, c12, c13⟩ := c0
      clear e0 e1 e2 e3 e4 e5 e6 e7 e8 e9 e10 e11 e12 e13
      go_wp2_with fail
      refine (H4.out _ HQ).mono ?_
      rintro e w5 ⟨rfl, rfl⟩
      go_wp2
      go_ret
      exact ⟨rfl, below_tr HW0.out HQ⟩
#print axioms may_any
end Go.Proofs.Ytdjfkehbknbocaa

/- The walks of package health: add, ends, Of, Grade; and of the reference's Of and Grade. -/
import Derived.Test.YtdjfkehbknbocaaProg
import Derived.Test.YtdjfkehbknbocaaLib
namespace Go.Proofs.Ytdjfkehbknbocaa
open Go.RowKit

/-- A health under way. -/
structure Hs where
  good : Int
  worn : Int
  left : Int
  least : Int
  most : Int
  mean : Int
  life : Int
  all : Int
def Hs.cells (s : Hs) : Array Value := #[.int .i64 s.good, .int .i64 s.worn, .int .i64 s.left, .int .i64 s.least, .int .i64 s.most, .int .i64 s.mean, .int .i64 s.life, .int .i64 s.all]
def Hs.agg (s : Hs) : Value := .agg #[.int .i64 s.good, .int .i64 s.worn, .int .i64 s.left, .int .i64 s.least, .int .i64 s.most, .int .i64 s.mean, .int .i64 s.life]
def clampC (n : Int) : Int := mn (mx n 0) 16777215
theorem clampC_bd (n : Int) : 0 ≤ clampC n ∧ clampC n ≤ 16777215 := by unfold clampC mn mx; (repeat' split) <;> omega
def Hs.add (s : Hs) (c : Int) (wn : Bool) : Hs :=
  if wn then { s with worn := s.worn + 1 } else
    { s with least := if s.good = 0 ∨ clampC c < s.least then clampC c else s.least, most := mx s.most (clampC c), all := s.all + clampC c, good := s.good + 1 }

set_option maxHeartbeats 1000000 in
theorem add_any (g : Nat) (s : Hs) (c : Int) (wn : Bool) (w : World) (hb : Blk w g 96 s.cells)
    (h1 : 0 ≤ s.good) (h2 : s.good ≤ 1000) (h3 : 0 ≤ s.worn) (h4 : s.worn ≤ 1000) (h5 : 0 ≤ s.all) (h6 : s.all ≤ 1000 * 16777215) :
    Calls Try.prog 59 #[.pointer (some ⟨g, 0, none⟩), .int .i64 c, .bool wn] w fun e w' => e = .returned (.tuple #[]) ∧ Blk w' g 96 (s.add c wn).cells ∧ w.grownBy w' (some g) := by
  obtain ⟨good, worn, left, least, most, mean, life, all⟩ := s
  simp only [Hs.cells] at hb h1 h2 h3 h4 h5 h6
  have c0 := (hb.cell 0).trans rfl
  have c1 := (hb.cell 1).trans rfl
  have c3 := (hb.cell 3).trans rfl
  have c4 := (hb.cell 4).trans rfl
  have c7 := (hb.cell 7).trans rfl
  have f0 := hb.frozen 0
  have f1 := hb.frozen 1
  have f3 := hb.frozen 3
  have f4 := hb.frozen 4
  have f7 := hb.frozen 7
  have hg0 : w.grownBy w (some g) := World.grownBy.refl w _
  have HB := Lib.hid hb
  have HG := Lib.hid hg0
  clear hb hg0
  have hk1 := clampC_bd c
  obtain ⟨k1, k2⟩ := hk1
  cases wn with
  | true =>
    go_enter Try.func59, Try.ntmps59
    go_wp2
    refine bodyPost_ret (results_none rfl _ _ _) rfl ⟨rfl, ?_, ?_⟩
    · exact (HB.out.set_ 1 _)
    · exact grown_set HG.out _ _
  | false =>
    unfold clampC at k1 k2
    by_cases hz : (good == 0) = true
    · have ez : good = 0 := by simpa using hz
      go_enter Try.func59, Try.ntmps59
      go_wp2
      go_end0
      refine ⟨rfl, ?_, ?_⟩
      · exact ((((HB.out.set_ 3 _).set_ 4 _).set_ 7 _).set_ 0 _).of_eq (by simp [Hs.add, Hs.cells, clampC, ez])
      · exact grown_set (grown_set (grown_set (grown_set HG.out _ _) _ _) _ _) _ _
    · have ez : ¬ good = 0 := by simpa using hz
      have hz' : (good == 0) = false := by simpa using hz
      clear hz
      by_cases hl : mn (mx c 0) 16777215 < least
      · go_enter Try.func59, Try.ntmps59
        go_wp2
        go_end0
        refine ⟨rfl, ?_, ?_⟩
        · exact ((((HB.out.set_ 3 _).set_ 4 _).set_ 7 _).set_ 0 _).of_eq (by simp [Hs.add, Hs.cells, clampC, hl])
        · exact grown_set (grown_set (grown_set (grown_set HG.out _ _) _ _) _ _) _ _
      · go_enter Try.func59, Try.ntmps59
        go_wp2
        go_end0
        refine ⟨rfl, ?_, ?_⟩
        · exact (((HB.out.set_ 4 _).set_ 7 _).set_ 0 _).of_eq (by simp [Hs.add, Hs.cells, clampC, ez, Int.not_lt.2 hl])
        · exact grown_set (grown_set (grown_set HG.out _ _) _ _) _ _

def Hs.ends (s : Hs) (spare limit : Int) : Hs :=
  let mean := if 0 < s.good then s.all / s.good else s.mean
  { s with mean := mean, left := mx (spare - s.worn) (-1), life := mx (100 - 100 * mean / limit) 0 }

set_option maxHeartbeats 1000000 in
theorem ends_any (g : Nat) (s : Hs) (spare limit : Int) (w : World) (hb : Blk w g 96 s.cells)
    (h1 : 0 ≤ s.good) (h2 : s.good ≤ 1000) (h3 : 0 ≤ s.worn) (h4 : s.worn ≤ 1000) (h5 : 0 ≤ s.all) (h6 : s.all ≤ 1000 * 16777215) (h7 : s.mean = 0)
    (hs : 0 ≤ spare) (hs' : spare ≤ 9223372036854775807) (hl : 1 ≤ limit) (hl' : limit ≤ 16777215) :
    Calls Try.prog 60 #[.pointer (some ⟨g, 0, none⟩), .int .i64 spare, .int .i64 limit] w fun e w' => e = .returned ((s.ends spare limit).agg) ∧ w.grownBy w' (some g) := by
  obtain ⟨good, worn, left, least, most, mean, life, all⟩ := s
  simp only [Hs.cells] at hb h1 h2 h3 h4 h5 h6 h7
  subst h7
  have c0 := (hb.cell 0).trans rfl
  have c1 := (hb.cell 1).trans rfl
  have c2 := (hb.cell 2).trans rfl
  have c3 := (hb.cell 3).trans rfl
  have c4 := (hb.cell 4).trans rfl
  have c5 := (hb.cell 5).trans rfl
  have c6 := (hb.cell 6).trans rfl
  have c7 := (hb.cell 7).trans rfl
  have f2 := hb.frozen 2
  have f5 := hb.frozen 5
  have f6 := hb.frozen 6
  have hg0 : w.grownBy w (some g) := World.grownBy.refl w _
  have hlt := hb.lt
  have HB := Lib.hid hb
  have HG := Lib.hid hg0
  clear hb hg0
  have hm : 0 < good → 0 ≤ all / good := fun h => Int.ediv_nonneg h5 (by omega)
  have hm' : 0 < good → all / good ≤ 1000 * 16777215 := fun h => Int.le_trans (Int.ediv_le_self _ h5) h6
  by_cases hz : 0 < good
  · have hm1 := hm hz
    have hm2 := hm' hz
    clear hm hm'
    have hd : 0 ≤ 100 * (all / good) / limit := Int.ediv_nonneg (by omega) (by omega)
    have hd' : 100 * (all / good) / limit ≤ 100 * (1000 * 16777215) := Int.le_trans (Int.ediv_le_self _ (by omega)) (by omega)
    go_enter Try.func60, Try.ntmps60
    go_wp2
    go_region
    go_wp2
    refine bodyPost_ret (v := .agg #[.int .i64 good, .int .i64 worn, .int .i64 (mx (spare - worn) (-1)), .int .i64 least, .int .i64 most, .int .i64 (all / good), .int .i64 (mx (100 - 100 * (all / good) / limit) 0)]) (by simp [results, Try.results60, go_sem]) rfl ⟨?_, ?_⟩
    · simp [Hs.ends, Hs.agg, hz]
    · (repeat (first | (with_reducible exact HG.out) | (with_reducible apply grown_drew) | (with_reducible apply grown_drewN) | (with_reducible apply grown_alloc) | (with_reducible apply grown_set)))
  · clear hm hm'
    go_enter Try.func60, Try.ntmps60
    go_wp2
    refine bodyPost_ret (v := .agg #[.int .i64 good, .int .i64 worn, .int .i64 (mx (spare - worn) (-1)), .int .i64 least, .int .i64 most, .int .i64 0, .int .i64 (mx 100 0)]) (by simp [results, Try.results60, go_sem]) rfl ⟨?_, ?_⟩
    · simp [Hs.ends, Hs.agg, if_neg (Int.not_lt.2 hz)]
    · (repeat (first | (with_reducible exact HG.out) | (with_reducible apply grown_drew) | (with_reducible apply grown_drewN) | (with_reducible apply grown_alloc) | (with_reducible apply grown_set)))

def Hs.zero : Hs := ⟨0, 0, 0, 0, 0, 0, 0, 0⟩
def Hs.fold : Hs → List Int → List Bool → Hs
  | s, c :: cs, b :: bs => (s.add c b).fold cs bs
  | s, _, _ => s
structure Hs.Ok (s : Hs) (k : Nat) : Prop where
  g0 : 0 ≤ s.good
  w0 : 0 ≤ s.worn
  gw : s.good + s.worn = k
  a0 : 0 ≤ s.all
  a1 : s.all ≤ s.good * 16777215
  m0 : s.mean = 0
theorem Hs.Ok.add {s : Hs} {k : Nat} (h : s.Ok k) (c : Int) (b : Bool) : (s.add c b).Ok (k + 1) := by
  obtain ⟨h1, h2, h3, h4, h5, h6⟩ := h
  have := clampC_bd c
  unfold Hs.add
  cases b
  · exact ⟨by simp; omega, by simpa using h2, by simp; omega, by simp; omega, by simp; omega, by simpa using h6⟩
  · exact ⟨by simpa using h1, by simp; omega, by simp; omega, by simpa using h4, by simpa using h5, by simpa using h6⟩
theorem Hs.fold_snoc (s : Hs) (cs : List Int) (bs : List Bool) (k : Nat) (c : Int) (b : Bool) (hc : cs[k]? = some c) (hb : bs[k]? = some b) :
    s.fold (cs.take (k + 1)) (bs.take (k + 1)) = (s.fold (cs.take k) (bs.take k)).add c b := by
  induction k generalizing s cs bs with
  | zero =>
    cases cs with
    | nil => simp at hc
    | cons x cs =>
      cases bs with
      | nil => simp at hb
      | cons y bs => simp at hc hb; subst hc hb; simp [Hs.fold]
  | succ k ih =>
    cases cs with
    | nil => simp at hc
    | cons x cs =>
      cases bs with
      | nil => simp at hb
      | cons y bs =>
        simp only [List.take_succ_cons, Hs.fold]
        exact ih (s.add x y) cs bs (by simpa using hc) (by simpa using hb)
theorem Hs.fold_ok (s : Hs) (n : Nat) (h : s.Ok n) (cs : List Int) (bs : List Bool) (k : Nat) (hc : k ≤ cs.length) (hb : k ≤ bs.length) : (s.fold (cs.take k) (bs.take k)).Ok (n + k) := by
  induction k generalizing s n cs bs with
  | zero => simpa [Hs.fold] using h
  | succ k ih =>
    cases cs with
    | nil => simp at hc
    | cons x cs =>
      cases bs with
      | nil => simp at hb
      | cons y bs =>
        simp only [List.take_succ_cons, Hs.fold]
        have := ih (s.add x y) (n + 1) (h.add x y) cs bs (by simpa using hc) (by simpa using hb)
        rwa [show n + (k + 1) = n + 1 + k from by omega]

def ofBad (n m : Nat) (spare limit : Int) : Bool := n != m || decide (limit < 1) || decide (16777215 < limit) || decide (spare < 0)
set_option maxHeartbeats 1000000 in
theorem of_bad (A B : Option Addr) (n ca m cb : Nat) (spare limit : Int) (w : World) (hbad : ofBad n m spare limit = true) :
    Calls Try.prog 21 #[.slice A n ca, .slice B m cb, .int .i64 spare, .int .i64 limit] w fun e w' => e = .returned (.tuple #[Hs.zero.agg, .int .i64 1]) ∧ Below w.heap.size w w' := by
  by_cases c1 : (n : Int) = m
  · have b1 : ((n : Int) != m) = false := by simpa using c1
    have hn' : n = m := by omega
    subst hn'
    clear c1 b1
    by_cases c2 : limit < 1
    · clear hbad
      go_enter Try.func21, Try.ntmps21
      go_wp2
      refine bodyPost_ret (v := .tuple #[Hs.zero.agg, .int .i64 1]) (by simp [results, Try.results21, go_sem, Hs.zero, Hs.agg]) rfl ⟨rfl, ?_⟩
      ((try change Below _ _ _); (repeat (any_goals (first | (with_reducible exact Below.refl _ _) | (with_reducible exact Below.refl _ _) | (with_reducible apply Below.drew) | (with_reducible apply below_drewN) | (with_reducible refine Below.alloc ?_ ?_ _) | (with_reducible refine Below.setCell ?_ ?_ _)))); all_goals (first | exact Nat.le_refl _ | (simp; done) | (simp; omega) | omega | (dsimp only; omega)))
    · by_cases c3 : 16777215 < limit
      · clear hbad
        go_enter Try.func21, Try.ntmps21
        go_wp2
        refine bodyPost_ret (v := .tuple #[Hs.zero.agg, .int .i64 1]) (by simp [results, Try.results21, go_sem, Hs.zero, Hs.agg]) rfl ⟨rfl, ?_⟩
        ((try change Below _ _ _); (repeat (any_goals (first | (with_reducible exact Below.refl _ _) | (with_reducible exact Below.refl _ _) | (with_reducible apply Below.drew) | (with_reducible apply below_drewN) | (with_reducible refine Below.alloc ?_ ?_ _) | (with_reducible refine Below.setCell ?_ ?_ _)))); all_goals (first | exact Nat.le_refl _ | (simp; done) | (simp; omega) | omega | (dsimp only; omega)))
      · have c4 : spare < 0 := by simp [ofBad] at hbad; omega
        clear hbad
        go_enter Try.func21, Try.ntmps21
        go_wp2
        refine bodyPost_ret (v := .tuple #[Hs.zero.agg, .int .i64 1]) (by simp [results, Try.results21, go_sem, Hs.zero, Hs.agg]) rfl ⟨rfl, ?_⟩
        ((try change Below _ _ _); (repeat (any_goals (first | (with_reducible exact Below.refl _ _) | (with_reducible exact Below.refl _ _) | (with_reducible apply Below.drew) | (with_reducible apply below_drewN) | (with_reducible refine Below.alloc ?_ ?_ _) | (with_reducible refine Below.setCell ?_ ?_ _)))); all_goals (first | exact Nat.le_refl _ | (simp; done) | (simp; omega) | omega | (dsimp only; omega)))
  · have b1 : ((n : Int) != m) = true := by simpa using c1
    clear hbad
    go_enter Try.func21, Try.ntmps21
    go_wp2
    refine bodyPost_ret (v := .tuple #[Hs.zero.agg, .int .i64 1]) (by simp [results, Try.results21, go_sem, Hs.zero, Hs.agg]) rfl ⟨rfl, ?_⟩
    ((try change Below _ _ _); (repeat (any_goals (first | (with_reducible exact Below.refl _ _) | (with_reducible exact Below.refl _ _) | (with_reducible apply Below.drew) | (with_reducible apply below_drewN) | (with_reducible refine Below.alloc ?_ ?_ _) | (with_reducible refine Below.setCell ?_ ?_ _)))); all_goals (first | exact Nat.le_refl _ | (simp; done) | (simp; omega) | omega | (dsimp only; omega)))

theorem of_start (w : World) : Hid (Blk ((w.alloc (.cells #[.int .i64 0, .int .i64 0, .int .i64 0, .int .i64 0, .int .i64 0, .int .i64 0, .int .i64 0] 35)).alloc (.cells Hs.zero.cells 96)) (w.heap.size + 1) 96 (Hs.zero.fold ([].take 0) ([].take 0)).cells ∧
    Blk ((w.alloc (.cells #[.int .i64 0, .int .i64 0, .int .i64 0, .int .i64 0, .int .i64 0, .int .i64 0, .int .i64 0] 35)).alloc (.cells Hs.zero.cells 96)) w.heap.size 35 #[.int .i64 0, .int .i64 0, .int .i64 0, .int .i64 0, .int .i64 0, .int .i64 0, .int .i64 0] ∧
    Below w.heap.size w ((w.alloc (.cells #[.int .i64 0, .int .i64 0, .int .i64 0, .int .i64 0, .int .i64 0, .int .i64 0, .int .i64 0] 35)).alloc (.cells Hs.zero.cells 96))) := by
  refine ⟨?_, (Blk.new w _ _).alloc _, ((Below.refl _ _).alloc (Nat.le_refl _) _).alloc (by simp) _⟩
  have h := Blk.new (w.alloc (.cells #[.int .i64 0, .int .i64 0, .int .i64 0, .int .i64 0, .int .i64 0, .int .i64 0, .int .i64 0] 35)) 96 Hs.zero.cells
  rw [World.size_alloc] at h
  exact h

set_option maxHeartbeats 2000000 in
theorem of_ok (A B : Option Addr) (n ca cb : Nat) (cs : List Int) (bs : List Bool) (spare limit : Int) (w : World) (hn : n ≤ 1000) (hA : Sl eInt 1 w A n cs) (hB : Sl eBool 1 w B n bs)
    (hs : 0 ≤ spare) (hs' : spare ≤ 9223372036854775807) (hl : 1 ≤ limit) (hl' : limit ≤ 16777215) :
    Calls Try.prog 21 #[.slice A n ca, .slice B n cb, .int .i64 spare, .int .i64 limit] w fun e w' => e = .returned (.tuple #[((Hs.zero.fold cs bs).ends spare limit).agg, .int .i64 0]) ∧ Below w.heap.size w w' := by
  have HA := Lib.hid hA
  have HB := Lib.hid hB
  clear hA hB
  go_enter Try.func21, Try.ntmps21
  go_wp2
  go_loopw [35] (fun i wr => ∃ k : Nat, k ≤ n ∧ i = .int .i64 k ∧ Hid (Blk wr (w.heap.size + 1) 96 (Hs.zero.fold (cs.take k) (bs.take k)).cells ∧ Blk wr w.heap.size 35 #[.int .i64 0, .int .i64 0, .int .i64 0, .int .i64 0, .int .i64 0, .int .i64 0, .int .i64 0] ∧ Below w.heap.size w wr))
    (fun i _ => n - (intOf i).toNat)
  case atStart => exact ⟨0, Nat.zero_le _, rfl, of_start w⟩
  case round =>
    obtain ⟨k, hk, rfl, H⟩ := hrel
    have hok := Hs.fold_ok Hs.zero 0 ⟨by decide, by decide, by decide, by decide, by decide, rfl⟩ cs bs k (by have := HA.out.len; omega) (by have := HB.out.len; omega)
    rw [Nat.zero_add] at hok
    obtain ⟨g0, w0, gw, a0, a1, m0⟩ := hok
    by_cases hlt : k < n
    · obtain ⟨b, off, x, rfl, hb, hx, hc⟩ := (HA.out.below H.out.2.2).int_ hlt
      obtain ⟨b2, off2, y, rfl, hb2, hy, hc2⟩ := (HB.out.below H.out.2.2).bool_ hlt
      have HX := Lib.hid (Hs.fold_snoc Hs.zero cs bs k x y hx hy)
      have hadd := fun W hW => add_any (w.heap.size + 1) (Hs.zero.fold (cs.take k) (bs.take k)) x y W hW g0 (by omega) w0 (by omega) a0 (by omega)
      have HC := Lib.hid hadd
      clear hx hy hb hb2 hadd g0 w0 gw a0 a1 m0 HA HB
      go_wp2_with fail
      refine (HC.out _ H.out.1).mono ?_
      rintro e w' ⟨rfl, hb', hg'⟩
      have HF : Hid (Blk w' (w.heap.size + 1) 96 (Hs.zero.fold (cs.take (k + 1)) (bs.take (k + 1))).cells ∧ Blk w' w.heap.size 35 #[.int .i64 0, .int .i64 0, .int .i64 0, .int .i64 0, .int .i64 0, .int .i64 0, .int .i64 0] ∧ Below w.heap.size w w') :=
        ⟨by rw [HX.out]; exact hb', H.out.2.1.grown hg' (by simp), H.out.2.2.grown hg' H.out.2.2.size (fun k e => by injection e with e; omega)⟩
      clear hb' hg' H HX HC
      go_wp2
      go_roundw
      case rel => exact ⟨k + 1, by omega, by go_num, HF⟩
      case measure => simp [intOf]; omega
    · have : k = n := by omega
      subst this
      rw [List.take_of_length_le (by have := HA.out.len; omega), List.take_of_length_le (by have := HB.out.len; omega)] at *
      have hends := fun W hW => ends_any (w.heap.size + 1) (Hs.zero.fold cs bs) spare limit W hW g0 (by omega) w0 (by omega) a0 (by omega) m0 hs hs' hl hl'
      have HC := Lib.hid hends
      clear hends g0 w0 gw a0 a1 m0 HA HB
      go_wp2_with fail
      refine (HC.out _ H.out.1).mono ?_
      rintro e w' ⟨rfl, hg'⟩
      have hz := H.out.2.1.grown hg' (by simp)
      have hbw := H.out.2.2.grown hg' H.out.2.2.size (fun k e => by injection e with e; omega)
      have HBW := Lib.hid hbw
      generalize hr : (Hs.zero.fold cs bs).ends spare limit = r at *
      have HR := Lib.hid hr
      clear hr
      obtain ⟨r0, r1, r2, r3, r4, r5, r6, r7⟩ := r
      clear H HC hg' hbw
      simp only [Hs.agg]
      have q0 := (hz.cell 0).trans rfl
      have z0 := hz.frozen 0
      have q1 := (hz.cell 1).trans rfl
      have z1 := hz.frozen 1
      have q2 := (hz.cell 2).trans rfl
      have z2 := hz.frozen 2
      have q3 := (hz.cell 3).trans rfl
      have z3 := hz.frozen 3
      have q4 := (hz.cell 4).trans rfl
      have z4 := hz.frozen 4
      have q5 := (hz.cell 5).trans rfl
      have z5 := hz.frozen 5
      have q6 := (hz.cell 6).trans rfl
      have z6 := hz.frozen 6
      clear hz
      go_wp2
      refine bodyPost_ret (v := .tuple #[.agg #[.int .i64 r0, .int .i64 r1, .int .i64 r2, .int .i64 r3, .int .i64 r4, .int .i64 r5, .int .i64 r6], .int .i64 0]) (by simp [results, Try.results21, go_sem, *]) rfl ⟨by rw [HR.out]; rfl, ?_⟩
      ((try change Below _ _ _); have bsz_ := (HBW.out).size; (repeat (any_goals (first | (with_reducible exact HBW.out) | (with_reducible exact Below.refl _ _) | (with_reducible apply Below.drew) | (with_reducible apply below_drewN) | (with_reducible refine Below.alloc ?_ ?_ _) | (with_reducible refine Below.setCell ?_ ?_ _)))); all_goals (first | exact Nat.le_refl _ | (simp; done) | (simp; omega) | omega | (dsimp only; omega)))
end Go.Proofs.Ytdjfkehbknbocaa

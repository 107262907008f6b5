/- The walks of digits, lines, Lines: only how many lines there are. -/
import Derived.Test.YtdjfkehbknbocaaHealthB
import Derived.Lib.ConvBytes
namespace Go.Proofs.Ytdjfkehbknbocaa
open Go.RowKit

def SomeStr (B : Nat) (w : World) (e : Ending) (w' : World) : Prop := ∃ s : ByteArray, e = .returned (.string s) ∧ s.size ≤ B ∧ Below w.heap.size w w'

set_option maxRecDepth 100000 in
set_option maxHeartbeats 1000000 in
theorem digits_any (n : Nat) : ∀ (_ : n ≤ 1000000000) (w : World), Calls Try.prog 87 #[.int .i64 n] w (SomeStr (n + 1) w) := by
  induction n using Nat.strongRecOn with
  | ind n ih =>
    intro hn w
    by_cases h10 : n < 10
    · have hcv : ∀ c : Int, (convert 120 9 (.slice (some ⟨w.heap.size, 0, none⟩) 1 1)).run Try.prog (w.alloc (.cells #[.int .u8 c] 5)) = .ok (.string (strOfNums [c])) (w.alloc (.cells #[.int .u8 c] 5)) := fun c =>
        run_convert_bytes_arg _ _ _ Try.underlying120 Try.underlying5 _ 0 1 1 [c] rfl (fun i hi => by
          obtain rfl : i = 0 := by simp at hi; omega
          exact (Blk.new w 5 #[.int .u8 c]).cell 0) _ Try.underlying9
      go_enter Try.func87, Try.ntmps87
      go_wp2
      go_ret
      exact ⟨_, rfl, by simp [strOfNums, ByteArray.size], by ((try change Below _ _ _); (repeat (any_goals (first | (with_reducible exact Below.refl _ _) | (with_reducible exact Below.refl _ _) | (with_reducible apply Below.drew) | (with_reducible apply below_drewN) | (with_reducible refine Below.alloc ?_ ?_ _) | (with_reducible refine Below.setCell ?_ ?_ _)))); all_goals (first | exact Nat.le_refl _ | (simp; done) | (simp; omega) | omega | (dsimp only; omega)))⟩
    · have c1 := ih (n / 10) (by omega) (by omega)
      have c2 := ih (n % 10) (by omega) (by omega)
      rw [show ((n / 10 : Nat) : Int) = (n : Int) / 10 from by omega] at c1
      rw [show ((n % 10 : Nat) : Int) = (n : Int) % 10 from by omega] at c2
      have C1 := Lib.hid c1
      clear c1
      have C2 := Lib.hid c2
      clear c2
      have IH := Lib.hid ih
      clear ih
      go_enter Try.func87, Try.ntmps87
      go_wp2_with fail
      refine (C1.out _).mono ?_
      rintro e w1 ⟨s1, rfl, hs1, hb1⟩
      have HB1 := Lib.hid hb1
      clear hb1
      go_wp2_with fail
      refine (C2.out _).mono ?_
      rintro e w2 ⟨s2, rfl, hs2, hb2⟩
      have HB2 := Lib.hid hb2
      clear hb2
      go_wp2
      go_ret
      exact ⟨_, rfl, by simp; omega, below_tr HB1.out HB2.out⟩
def eOne (x : ByteArray × Int) : List Value := [.string x.1, .int .i64 x.2]
def SomeRow (e : TypeId) (size n : Nat) (w : World) (en : Ending) (w' : World) : Prop := ∃ (v : Value) (xs : List Value), en = .returned v ∧ w'.ownsRow w.heap.size e size v n xs ∧ Below w.heap.size w w'
theorem info_string : (Try.prog.info? 9).map (fun i => (i.zero, i.size, i.bytes)) = some (some (.string ⟨#[]⟩), 1, 16) := by kernel_rfl

set_option maxRecDepth 100000 in
set_option maxHeartbeats 4000000 in
theorem lines_any (A : Option Addr) (n c : Nat) (xs : List (ByteArray × Int)) (w : World) (hn : n ≤ 100) (hA : Sl eOne 2 w A n xs) (hs : ∀ x ∈ xs, x.1.size ≤ 100 ∧ 0 ≤ x.2 ∧ x.2 ≤ 1000000000) :
    Calls Try.prog 82 #[.slice A n c] w (SomeRow 9 1 n w) := by
  have HS := Lib.hid hs
  have HA := Lib.hid hA
  clear hs hA
  go_enter Try.func82, Try.ntmps82
  go_wp2
  go_loopw [3, 8] (fun v i wr => ∃ (k : Nat) (ys : List Value), k ≤ n ∧ i = .int .i64 k ∧ Hid (wr.ownsRow w.heap.size 9 1 v k ys ∧ Below w.heap.size w wr)) (fun _ i _ => n - (intOf i).toNat)
  case atStart => exact ⟨0, [], Nat.zero_le _, rfl, own_nil _ _ _ _, Below.refl _ _⟩
  case round =>
    obtain ⟨k, ys, hk, rfl, H⟩ := hrel
    by_cases hlt : k < n
    · obtain ⟨b, off, x, rfl, hb, hx, hc⟩ := (HA.out.below H.out.2).get_ hlt
      obtain ⟨s, m⟩ := x
      obtain ⟨hs1, hm0, hm1⟩ := HS.out _ (List.mem_of_getElem? hx)
      obtain ⟨m, rfl⟩ := Int.eq_ofNat_of_zero_le hm0
      have c0 : wr.cell? ⟨b, off + k * 2, none⟩ = some (.string s) := by simpa using hc 0 _ rfl
      have c1 : wr.cell? ⟨b, off + k * 2 + 1, none⟩ = some (.int .i64 m) := hc 1 _ rfl
      simp only at hs1
      clear hx hc hb hm0 HA HS
      have hcat1 := cat_run Try.prog s ⟨#[32]⟩ (by show s.size + 1 ≤ _; omega)
      have hne : some wr.heap.size ≠ u3.ownBlock := fun e => by have := own_lt H.out.1 _ e.symm; omega
      have HNE := Lib.hid hne
      clear hne
      have hown := own_below H.out.1 ((Below.refl _ wr).alloc (Nat.le_refl _) (.cells #[.string s, .int .i64 m] 126))
      have HO := Lib.hid hown
      have hbw := H.out.2.alloc H.out.2.size (.cells #[.string s, .int .i64 m] 126)
      have HBW := Lib.hid hbw
      clear hbw
      clear hown
      go_wp2_with fail
      have hq0 : ∀ W, Below (wr.alloc (.cells #[.string s, .int .i64 m] 126)).drew.heap.size (wr.alloc (.cells #[.string s, .int .i64 m] 126)).drew W → W.cell? ⟨wr.heap.size, 0, none⟩ = some (.string s) ∧ W.cell? ⟨wr.heap.size, 1, none⟩ = some (.int .i64 m) ∧ wr.heap.size < W.heap.size := fun W hb =>
        ⟨(hb.cell (p := ⟨wr.heap.size, 0, none⟩) (by simp)).trans (by simp), (hb.cell (p := ⟨wr.heap.size, 1, none⟩) (by simp)).trans (by simp), by have := hb.size; simp at this; omega⟩
      have HQ := Lib.hid hq0
      clear hq0
      go_region_held3 (fun w' => w'.cell? ⟨wr.heap.size, 0, none⟩ = some (.string s) ∧ w'.cell? ⟨wr.heap.size, 1, none⟩ = some (.int .i64 m)) (first | go_keep | (exact ⟨q0, q1⟩) | (exact ⟨r0, r1⟩))
        (first | (go_at_call 87; refine (digits_any m (by omega) _).mono ?_; rintro e w1 ⟨s1, rfl, hs1', hb1⟩; obtain ⟨q0, q1, hl1⟩ := HQ.out _ hb1; have hown1 := own_below HO.out.drew hb1; have hbw1 := below_tr HBW.out.drew hb1; have hba : w.heap.size ≤ (w1.alloc (.cells #[.string (s ++ ⟨#[32]⟩ ++ s1)] 9)).heap.size := (by have := hbw1.size; simp; omega); have hcat2 := cat_run Try.prog (s ++ ⟨#[32]⟩) s1 (by rw [ByteArray.size_append]; show s.size + 1 + _ ≤ _; omega)) | (refine step_app rfl (.tmp 12) (.tmp 20) 92 rfl Try.underlying92 info_string rfl (by omega) (by omega) rfl (hown1.alloc _) rfl (heap_alloc_new w1 _) rfl (by simp [Value.oneCell']) (by omega) hba ?_; intro g cap w2 hown2 hg hor hlt2; have r0 := (hg.cell_far ⟨wr.heap.size, 0, none⟩ (by simp; omega) HNE.out).trans (cell_some_alloc _ q0); have r1 := (hg.cell_far ⟨wr.heap.size, 1, none⟩ (by simp; omega) HNE.out).trans (cell_some_alloc _ q1)))
      have HF : Hid (w2.ownsRow w.heap.size 9 1 (.slice (some ⟨g, 0, none⟩) (k + 1) cap) (k + 1) (ys ++ [.string (s ++ ⟨#[32]⟩ ++ s1)]) ∧ Below w.heap.size w w2) :=
        ⟨hown2, (hbw1.alloc hbw1.size _).grown hg hba (own_base hown1)⟩
      clear hown2 hg hor hlt2 hown1 hbw1 hba hcat1 hcat2 hb1
      go_wp2
      go_roundw
      case rel => exact ⟨k + 1, _, by omega, by go_num, HF⟩
      case measure => simp [intOf]; omega
    · have : k = n := by omega
      subst this
      go_wp2
      go_ret
      exact ⟨_, _, rfl, H.out⟩

/-- The health's lines are seven. -/
def Hs.small (h : Hs) : Prop := 0 ≤ h.good ∧ h.good ≤ 1000000000 ∧ 0 ≤ h.worn ∧ h.worn ≤ 1000000000 ∧ 0 ≤ h.left ∧ h.left ≤ 1000000000 ∧ 0 ≤ h.least ∧ h.least ≤ 1000000000 ∧ 0 ≤ h.most ∧ h.most ≤ 1000000000 ∧ 0 ≤ h.mean ∧ h.mean ≤ 1000000000 ∧ 0 ≤ h.life ∧ h.life ≤ 1000000000
def hsOnes (h : Hs) : List (ByteArray × Int) := [(⟨#[103, 111, 111, 100]⟩, h.good), (⟨#[119, 111, 114, 110]⟩, h.worn), (⟨#[108, 101, 102, 116]⟩, h.left), (⟨#[108, 101, 97, 115, 116]⟩, h.least), (⟨#[109, 111, 115, 116]⟩, h.most), (⟨#[109, 101, 97, 110]⟩, h.mean), (⟨#[108, 105, 102, 101]⟩, h.life)]
set_option maxRecDepth 100000 in
set_option maxHeartbeats 4000000 in
theorem Lines_any (h : Hs) (hs : h.small) (w : World) : Calls Try.prog 58 #[h.agg] w (SomeRow 9 1 7 w) := by
  have hl := fun W A c hA => lines_any A 7 c (hsOnes h) W (by omega) hA (by
    intro x hx
    obtain ⟨a1, a2, a3, a4, a5, a6, a7, a8, a9, a10, a11, a12, a13, a14⟩ := hs
    simp only [hsOnes, List.mem_cons, List.not_mem_nil, or_false] at hx
    rcases hx with rfl | rfl | rfl | rfl | rfl | rfl | rfl <;> exact ⟨by simp [ByteArray.size], by assumption, by assumption⟩)
  obtain ⟨good, worn, left, least, most, mean, life, all⟩ := h
  simp only [Hs.agg]
  have HL := Lib.hid hl
  clear hl
  have HS := Lib.hid hs
  clear hs
  go_enter Try.func58, Try.ntmps58
  go_wp2_with fail
  refine (HL.out _ _ _ ?hA).mono ?_
  case hA => exact Sl.of_blk (enc := eOne) (k := 2) (fun _ => rfl) (Blk.new1 w _ _ _) rfl rfl (by omega)
  rintro e w1 ⟨v, xs, rfl, ho, hb⟩
  have HO := Lib.hid ho
  have HB := Lib.hid hb
  clear hb
  clear ho
  go_wp2
  go_ret
  refine ⟨v, xs, rfl, ?_, ?_⟩
  · exact own_mono HO.out (by simp; omega)
  · exact (((Below.refl _ w).alloc (Nat.le_refl _) _).alloc (by simp) _).trans (HB.out.mono (by simp; omega))
end Go.Proofs.Ytdjfkehbknbocaa

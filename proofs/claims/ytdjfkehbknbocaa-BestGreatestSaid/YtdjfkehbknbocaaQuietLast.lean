/- A region that draws its order and ends in one operation that waits for all the others (a store): the others walked once in the order of the text, then that one; in a round of a range over a function (the wide fence). -/
import Derived.Test.YtdjfkehbknbocaaQuietIn
namespace Go.Proofs.Ytdjfkehbknbocaa
open Go.RowKit

section
variable {P : Program} {md : Region.Mode} {C : World → Prop} {lo n : Nat}
/-- No guards; every edge leads back; the last operation waits for each of the others. -/
def lastOk (md : Region.Mode) (l : List Oper) (o : Oper) : Bool :=
  l.all (fun x => x.guard.isNone) && (o.guard.isNone && ((List.range l.length).all (fun i => (l[i]?).all fun x => x.after.all fun e => !Region.binds md e || decide (e.on < i)) &&
  (o.after.all (fun e => !Region.binds md e || decide (e.on < l.length)) && (List.range l.length).all (fun i => o.after.any fun e => Region.binds md e && e.on == i))))
theorem wanted_none {o : Oper} (h : o.guard.isNone = true) (y : Nat → Option Bool) : Region.wanted o y = true := by
  unfold Region.wanted
  cases hg : o.guard with
  | none => rfl
  | some g => rw [hg] at h; cases h
theorem getD_push_lt {L : Array Bool} {b d : Bool} {j : Nat} (h : j < L.size) : (L.push b).getD j d = L.getD j d := by
  simp [Array.getD, h, Nat.lt_succ_of_lt h, Array.getElem_push]
theorem getD_push_eq {L : Array Bool} {b d : Bool} {j : Nat} (h : j = L.size) : (L.push b).getD j d = b := by
  subst h
  simp [Array.getD]
theorem getD_ft {L : Array Bool} {j : Nat} (h : j < L.size) (d d' : Bool) : L.getD j d = L.getD j d' := by simp [Array.getD, h]
theorem ready_nil {l : List Oper} {L : Array Bool} (hs : L.size = l.length) (hf : ∀ (i : Nat) (x : Oper), l[i]? = some x → ∀ e ∈ x.after, Region.binds md e = true → e.on < i) (h : Region.ready md l.toArray L = []) :
    ∀ i, i < l.length → L.getD i true = true := fun i => by
  induction i using Nat.strongRecOn with
  | _ i ih =>
    intro hi
    cases hL : L.getD i true with
    | true => rfl
    | false =>
      exfalso
      have hx : l[i]? = some l[i] := List.getElem?_eq_getElem hi
      have : i ∈ Region.ready md l.toArray L := mem_ready.2 ⟨hL, l[i], by simp, fun e he hb => by
        have h1 := hf i _ hx e he hb
        have h2 := ih e.on h1 (by omega)
        rw [getD_ft (by omega) false true]
        exact h2⟩
      rw [h] at this
      cases this
theorem wpAnyIn_all {ops : Array Oper} {Q : Exit → Act → World → Prop} {F : Fence} {L : Array Bool} (hL : ∀ i, i < ops.size → L.getD i true = true) (a : Act) (w : World) (h : Q .normal a w) : ∀ fuel, wpAnyIn F n P md ops Q fuel L a w := fun fuel => by
  have hr : Region.ready md ops L = [] := by
    refine List.eq_nil_iff_forall_not_mem.2 fun i hi => ?_
    obtain ⟨h1, x, h2, _⟩ := mem_ready.1 hi
    have := hL i (by
      rcases Nat.lt_or_ge i ops.size with h3 | h3
      · exact h3
      · rw [Array.getElem?_eq_none h3] at h2; cases h2)
    rw [h1] at this
    cases this
  cases fuel with
  | zero => exact ⟨hr, h⟩
  | succ f => exact ⟨fun _ => h, fun i hi => by rw [hr] at hi; cases hi⟩
theorem wpAnyIn_last {l : List Oper} {o : Oper} {Q : Exit → Act → World → Prop} (hg : ∀ x ∈ l, x.guard.isNone = true) (hgo : o.guard.isNone = true) (hd : ∀ x ∈ l, noDefer x = true)
    (hf : ∀ (i : Nat) (x : Oper), l[i]? = some x → ∀ e ∈ x.after, Region.binds md e = true → e.on < i) (hfo : ∀ e ∈ o.after, Region.binds md e = true → e.on < l.length) (hlast : ∀ i, i < l.length → ∃ e ∈ o.after, Region.binds md e = true ∧ e.on = i) :
    ∀ (fuel : Nat) (L : Array Bool) (a : Act) (w : World), L.size = l.length → C w → wpAnyQ P md l.toArray C (fun a => ∀ w', C w' → o.wpIn (Fence.wide.inRound lo) n P a w' (fun a w => Q .normal a w) Q) fuel L a →
      wpAnyIn (Fence.wide.inRound lo) n P md (l ++ [o]).toArray Q (fuel + 1) (L.push false) a w := fun fuel => by
  have hsz : (l ++ [o]).toArray.size = l.length + 1 := by simp
  have hget : ∀ i x, (l ++ [o]).toArray[i]? = some x → i < l.length → l[i]? = some x := fun i x h hi => by
    rw [List.getElem?_toArray, List.getElem?_append_left hi] at h
    exact h
  have hgetN : (l ++ [o]).toArray[l.length]? = some o := by simp
  -- the last one, once all the others are listed
  have fin : ∀ (fuel : Nat) (L : Array Bool) (a : Act) (w : World), L.size = l.length → C w → (∀ i, i < l.length → L.getD i true = true) → (∀ w', C w' → o.wpIn (Fence.wide.inRound lo) n P a w' (fun a w => Q .normal a w) Q) →
      wpAnyIn (Fence.wide.inRound lo) n P md (l ++ [o]).toArray Q (fuel + 1) (L.push false) a w := fun fuel L a w hL hw hall h => by
    have hmem : l.length ∈ Region.ready md (l ++ [o]).toArray (L.push false) := mem_ready.2 ⟨getD_push_eq hL.symm, o, hgetN, fun e he hb => by
      have h1 := hfo e he hb
      rw [getD_push_lt (by omega), getD_ft (by omega) false true]
      exact hall _ h1⟩
    refine ⟨fun h0 => (by rw [h0] at hmem; cases hmem), fun i hi => ?_⟩
    have hiN : i = l.length := by
      obtain ⟨h1, x, h2, _⟩ := mem_ready.1 hi
      rcases Nat.lt_trichotomy i l.length with h3 | h3 | h3
      · rw [getD_push_lt (by omega), hall i h3] at h1; cases h1
      · exact h3
      · rw [Array.getElem?_eq_none (by rw [hsz]; omega)] at h2; cases h2
    subst hiN
    unfold wpOpIn
    rw [hgetN]
    simp only [wanted_none hgo, if_true]
    refine Oper.wpIn_mono (fun a' w' hq => wpAnyIn_all (fun i hi => ?_) a' w' hq fuel) (h w hw)
    rw [hsz] at hi
    by_cases h3 : i = l.length
    · subst h3
      simp [Array.getD, hL]
    · have h4 : i < l.length := by omega
      have h5 := hall i h4
      simp only [Array.getD, Array.size_setIfInBounds, Array.size_push, hL] at h5 ⊢
      have h6 : i < l.length + 1 := by omega
      simp only [h4, h6, dif_pos] at h5 ⊢
      rw [Array.getInternal_eq_getElem, Array.getElem_setIfInBounds_ne (by simp; omega) (by omega)]
      rw [Array.getInternal_eq_getElem] at h5
      rw [Array.getElem_push_lt (by omega)]
      exact h5
  induction fuel with
  | zero => exact fun L a w hL hw h => fin 0 L a w hL hw (ready_nil hL hf h.1) h.2
  | succ fuel ih =>
    intro L a w hL hw h
    by_cases hr : Region.ready md l.toArray L = []
    · exact fin (fuel + 1) L a w hL hw (ready_nil hL hf hr) (h.1 hr)
    · obtain ⟨i0, hi0⟩ := List.exists_mem_of_ne_nil _ hr
      obtain ⟨u1, x1, u2, _⟩ := mem_ready.1 hi0
      have hi0l : i0 < l.length := by
        rcases Nat.lt_or_ge i0 l.length with h3 | h3
        · exact h3
        · rw [Array.getElem?_eq_none (by simpa using h3)] at u2; cases u2
      have down : ∀ i, i ∈ Region.ready md (l ++ [o]).toArray (L.push false) → i < l.length ∧ i ∈ Region.ready md l.toArray L := fun i hi => by
        obtain ⟨h1, x, h2, h3⟩ := mem_ready.1 hi
        have hi' : i < l.length + 1 := by
          rcases Nat.lt_or_ge i (l.length + 1) with h4 | h4
          · exact h4
          · rw [Array.getElem?_eq_none (by rw [hsz]; exact h4)] at h2; cases h2
        by_cases h5 : i = l.length
        · exfalso
          subst h5
          rw [hgetN] at h2
          injection h2 with h2
          subst h2
          obtain ⟨e, he, hb, heq⟩ := hlast i0 hi0l
          have h6 := h3 e he hb
          rw [heq, getD_push_lt (by omega), getD_ft (by omega) false true, u1] at h6
          cases h6
        · have h6 : i < l.length := by omega
          have h7 := hget i x h2 h6
          refine ⟨h6, mem_ready.2 ⟨by rw [getD_push_lt (by omega)] at h1; exact h1, x, by simpa using h7, fun e he hb => ?_⟩⟩
          have h8 := h3 e he hb
          have h9 := hf i x h7 e he hb
          rw [getD_push_lt (by omega)] at h8
          exact h8
      have up : i0 ∈ Region.ready md (l ++ [o]).toArray (L.push false) := by
        obtain ⟨h1, x, h2, h3⟩ := mem_ready.1 hi0
        have h2' : l[i0]? = some x := by simpa using h2
        refine mem_ready.2 ⟨by rw [getD_push_lt (by omega)]; exact h1, x, by rw [List.getElem?_toArray, List.getElem?_append_left hi0l]; exact h2', fun e he hb => ?_⟩
        have h9 := hf i0 x h2' e he hb
        rw [getD_push_lt (by omega)]
        exact h3 e he hb
      refine ⟨fun h0 => (by rw [h0] at up; cases up), fun i hi => ?_⟩
      obtain ⟨hil, him⟩ := down i hi
      have hq := h.2 i him
      unfold qOp at hq
      unfold wpOpIn
      have hx : l[i]? = some l[i] := List.getElem?_eq_getElem hil
      have hx1 : l.toArray[i]? = some l[i] := by simp
      have hx2 : (l ++ [o]).toArray[i]? = some l[i] := by rw [List.getElem?_toArray, List.getElem?_append_left hil]; exact hx
      have hgi := hg l[i] (List.getElem_mem hil)
      rw [hx1] at hq
      rw [hx2]
      simp only [wanted_none hgi, if_true] at hq ⊢
      refine wpIn_of_quiet (hd _ (List.getElem_mem hil)) hw (fun a' w' hw' hk => ?_) hq
      have hpush : (L.push false).setIfInBounds i true = (L.setIfInBounds i true).push false := by
        refine Array.ext (by simp) fun j h1 h2 => ?_
        simp only [Array.size_setIfInBounds, Array.size_push] at h1
        by_cases hj : j < L.size
        · rw [Array.getElem_push_lt (by simpa using hj)]
          by_cases hij : i = j
          · subst hij; simp
          · rw [Array.getElem_setIfInBounds_ne (by simp; omega) hij, Array.getElem_push_lt hj, Array.getElem_setIfInBounds_ne hj hij]
        · have hj' : j = L.size := by omega
          subst hj'
          rw [Array.getElem_setIfInBounds_ne (by simp) (by omega)]
          simp [Array.getElem_push]
      rw [hpush]
      exact ih _ a' w' (by simpa using hL) hw' hk
end
theorem wpIn_region_quiet_last {P : Program} {n lo id : Nat} {Q : Exit → Act → World → Prop} {a : Act} {w : World} (l : List Oper) (o : Oper) (hok : lastOk .any l o = true) (hd : l.all noDefer = true) (hm : P.follows .mixedOrders = true) (hB : Region.lexB .any l.toArray = true)
    (h : QW P l.toArray (fun w' => ∃ p : Past w, w' = p.w) (fun a' => ∀ w', (∃ p : Past w, w' = p.w) → o.wpIn (Fence.wide.inRound lo) n P a' w' (fun a w => Q .normal a w) Q) l a) : (Code.region id (l ++ [o]).toArray true).wpIn (Fence.wide.inRound lo) n P Q a w := by
  unfold lastOk at hok
  simp only [Bool.and_eq_true] at hok
  obtain ⟨h1, h2, h3, h4, h5⟩ := hok
  simp only [Region.lexB, Bool.and_eq_true] at hB
  refine wpIn_region_any hm ?_
  have hq := wpAnyQ_lex (C := fun w' => ∃ p : Past w, w' = p.w) (md := .any) hB.1 l 0 (Array.replicate l.length false) a (by simp) (by simpa using hB.2) h.out
  have := wpAnyIn_last (C := fun w' => ∃ p : Past w, w' = p.w) (md := .any) (lo := lo) (n := n) (l := l) (o := o) (Q := Q) (fun x hx => List.all_eq_true.1 h1 x hx) h2 (fun x hx => List.all_eq_true.1 hd x hx)
    (fun i x hx e he hb => by
      have h6 := List.all_eq_true.1 h3 i (List.mem_range.2 (List.getElem?_eq_some_iff.1 hx).1)
      rw [hx] at h6
      have h7 := Array.all_eq_true_iff_forall_mem.1 h6 e he
      simpa [hb] using h7)
    (fun e he hb => by
      have h7 := Array.all_eq_true_iff_forall_mem.1 h4 e he
      simpa [hb] using h7)
    (fun i hi => by
      have h6 := List.all_eq_true.1 h5 i (List.mem_range.2 hi)
      obtain ⟨e, he, h7⟩ := Array.any_eq_true'.1 h6
      simp only [Bool.and_eq_true, beq_iff_eq] at h7
      exact ⟨e, he, h7⟩)
    l.length (Array.replicate l.length false) a { w with drawn := w.drawn + 1 } (by simp) ⟨⟨_, (Below.refl _ w).drew⟩, rfl⟩ hq
  have e : Array.replicate (l ++ [o]).toArray.size false = (Array.replicate l.length false).push false := by
    simp [← Array.replicate_succ]
  have e2 : (l ++ [o]).toArray.size = l.length + 1 := by simp
  rw [e, e2]
  exact this
theorem wpIn_region_quiet_last_ {P : Program} {n lo id : Nat} {Q : Exit → Act → World → Prop} {a : Act} {w : World} {L : List Oper} (o : Oper) (hL : L.getLast? = some o) (hok : lastOk .any L.dropLast o = true) (hd : L.dropLast.all noDefer = true) (hm : P.follows .mixedOrders = true) (hB : Region.lexB .any L.dropLast.toArray = true)
    (h : QW P L.dropLast.toArray (fun w' => ∃ p : Past w, w' = p.w) (fun a' => ∀ w', (∃ p : Past w, w' = p.w) → o.wpIn (Fence.wide.inRound lo) n P a' w' (fun a w => Q .normal a w) Q) L.dropLast a) : (Code.region id L.toArray true).wpIn (Fence.wide.inRound lo) n P Q a w := by
  have e : L = L.dropLast ++ [o] := by
    have hne : L ≠ [] := by rintro rfl; cases hL
    rw [List.getLast?_eq_some_getLast hne] at hL
    injection hL with hL
    rw [← hL]
    exact (List.dropLast_concat_getLast hne).symm
  have := wpIn_region_quiet_last (id := id) L.dropLast o hok hd hm hB h
  rw [← e] at this
  exact this
end Go.Proofs.Ytdjfkehbknbocaa

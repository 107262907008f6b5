/- The marks of BestGreatest, in plain words. -/
import Derived.Test.YtdjfkehbknbocaaGr
namespace Go.Proofs.Ytdjfkehbknbocaa
set_option linter.unusedSimpArgs false
set_option linter.unusedVariables false

theorem addrF_inj {b m : Int} {j k : Nat} (h : addrF b m (j : Int) = addrF b m (k : Int)) : j = k := by
  unfold addrF at h
  split at h
  · injection h with _ h _
    omega
  · injection h with _ h1 h2
    omega
theorem good17 {fl co : List Int} {bs : List Bl} {q : Nat} {b : Bl} (hb : bs[q]? = some b) (k : Nat) (p : Pg) (hp : b.pages[k]? = some p) : Good17 fl co q b.b.mode (whereF 4 fl co bs 4) (seqsF 4 fl co bs 4) (addrF q b.b.mode k, p) := by
  intro hm
  simp only at hm ⊢
  obtain ⟨h0, h1⟩ := mayF_rng hm
  obtain ⟨l, hl⟩ : ∃ l : Nat, p.tag.lba = (l : Int) := ⟨p.tag.lba.toNat, by omega⟩
  have hl4 : l < 4 := by omega
  have hq : q < bs.length := (List.getElem?_eq_some_iff.1 hb).1
  obtain ⟨m1, m2⟩ := blocksF_max (lbas := 4) (fl := fl) (co := co) (lba := (l : Int)) bs bs.length (Nat.le_refl _) q k b p hq hb hp hl hm
  refine ⟨l, _, _, hl4, hl, whereF_get hl4, seqsF_get hl4, m1, lessF_seq m2, fun he => ?_⟩
  rcases blocksF_from (lbas := 4) (fl := fl) (co := co) (lba := (l : Int)) bs bs.length (Nat.le_refl _) with h | ⟨q', j, b', p', c1, c2, c3, c4, c5, c6⟩
  · rw [h] at m1
    exact absurd (by decide) m1
  · rw [c6] at he ⊢
    simp only at he ⊢
    have e1 := congrArg Ad.block he
    rw [addrF_block, addrF_block] at e1
    obtain rfl : q = q' := by omega
    rw [hb] at c2
    injection c2 with c2
    subst c2
    obtain rfl := addrF_inj he
    rw [hp] at c3
    injection c3 with c3
    rw [c3]
section
variable {fl co : List Int} {i : Nat} {m : Int} {ads : List Ad} {ns : List Int}
theorem snStep_len (sn : List Bool) (x : Ad × Pg) : (snStep fl co i m ads sn x).length = sn.length := by unfold snStep; split <;> simp
theorem snFold_len (sn : List Bool) (xs : List (Ad × Pg)) : (snFold fl co i m ads sn xs).length = sn.length := by
  induction xs generalizing sn with
  | nil => rfl
  | cons x xs ih => exact (ih (snStep fl co i m ads sn x)).trans (snStep_len sn x)
theorem snStep_keep {sn : List Bool} {x : Ad × Pg} {l : Nat} (h : sn[l]? = some true) : (snStep fl co i m ads sn x)[l]? = some true := by
  unfold snStep
  split
  · rw [List.getElem?_set]
    split
    · rename_i e
      have : l < sn.length := (List.getElem?_eq_some_iff.1 h).1
      rw [if_pos (by omega)]
    · exact h
  · exact h
theorem snFold_keep {sn : List Bool} {xs : List (Ad × Pg)} {l : Nat} (h : sn[l]? = some true) : (snFold fl co i m ads sn xs)[l]? = some true := by
  induction xs generalizing sn with
  | nil => exact h
  | cons x xs ih => exact ih (snStep_keep h)
theorem snFold_hit {sn : List Bool} {xs : List (Ad × Pg)} {x : Ad × Pg} (hx : x ∈ xs) (hm : mayF 4 fl co i m x.2 = true) (ha : ads[x.2.tag.lba.toNat]? = some x.1) (hl : x.2.tag.lba.toNat < sn.length) : (snFold fl co i m ads sn xs)[x.2.tag.lba.toNat]? = some true := by
  induction xs generalizing sn with
  | nil => cases hx
  | cons y ys ih =>
    rcases List.mem_cons.1 hx with rfl | hx
    · refine snFold_keep (sn := snStep fl co i m ads sn x) ?_
      unfold snStep
      rw [if_pos ⟨hm, ha⟩, List.getElem?_set, if_pos rfl, if_pos hl]
    · exact ih hx (sn := snStep fl co i m ads sn y) (by rw [snStep_len]; exact hl)
theorem snFold_only {sn : List Bool} {xs : List (Ad × Pg)} {l : Nat} (hg : ∀ x ∈ xs, Good17 fl co i m ads ns x) (h : (snFold fl co i m ads sn xs)[l]? = some true) : sn[l]? = some true ∨ ∃ ad, ads[l]? = some ad ∧ ¬ ad.block < 0 := by
  induction xs generalizing sn with
  | nil => exact .inl h
  | cons y ys ih =>
    rcases ih (fun x hx => hg x (by simp [hx])) (sn := snStep fl co i m ads sn y) h with h | h
    · unfold snStep at h
      split at h
      · rename_i hc
        obtain ⟨l', ad, sq, _, h2, h3, _, h5, _⟩ := hg y (by simp) hc.1
        rw [List.getElem?_set] at h
        split at h
        · rename_i e
          refine .inr ⟨ad, ?_, h5⟩
          rw [h2, Int.toNat_natCast] at e
          rw [← e]
          exact h3
        · exact .inl h
      · exact .inl h
    · exact .inr h
end
/-- What the marks say once m blocks are over. -/
def SnInv (fl co : List Int) (bs : List Bl) (m : Nat) (sn : List Bool) : Prop := sn.length = 4 ∧ (∀ l : Nat, sn[l]? = some true → ∃ ad, (whereF 4 fl co bs 4)[l]? = some ad ∧ ¬ ad.block < 0) ∧
  ∀ (q j : Nat) (b : Bl) (p : Pg) (l : Nat), q < m → bs[q]? = some b → b.pages[j]? = some p → mayF 4 fl co q b.b.mode p = true → p.tag.lba = (l : Int) → (whereF 4 fl co bs 4)[l]? = some (addrF q b.b.mode j) → sn[l]? = some true
theorem SnInv.zero (fl co : List Int) (bs : List Bl) : SnInv fl co bs 0 [false, false, false, false] := by
  refine ⟨rfl, fun l h => ?_, fun q j b p l hq => absurd hq (Nat.not_lt_zero q)⟩
  match l, h with
  | 0, h => cases h
  | 1, h => cases h
  | 2, h => cases h
  | 3, h => cases h
  | n + 4, h => cases h
theorem SnInv.succ {fl co : List Int} {bs : List Bl} {m : Nat} {sn : List Bool} {b : Bl} (h : SnInv fl co bs m sn) (hb : bs[m]? = some b) {ys : List (Ad × Pg)} (hy : PreF m b.b.mode b.pages b.pages.length ys) : SnInv fl co bs (m + 1) (snFold fl co m b.b.mode (whereF 4 fl co bs 4) sn ys) := by
  obtain ⟨h1, h2, h3⟩ := h
  have hmem : ∀ x ∈ ys, ∃ (k : Nat) (p : Pg), b.pages[k]? = some p ∧ x = (addrF m b.b.mode k, p) := fun x hx => by
    obtain ⟨k, hk⟩ := List.getElem?_of_mem hx
    have hkl : k < ys.length := (List.getElem?_eq_some_iff.1 hk).1
    have h4 := hy.2 k (by rw [← hy.1]; exact hkl)
    rw [hk] at h4
    cases hp : b.pages[k]? with
    | none => rw [hp] at h4; cases h4
    | some p =>
      rw [hp] at h4
      injection h4 with h4
      exact ⟨k, p, hp, h4⟩
  refine ⟨(snFold_len sn ys).trans h1, fun l hl => ?_, fun q j b' p l hq hb' hp hm hlb ha => ?_⟩
  · rcases snFold_only (ns := seqsF 4 fl co bs 4) (fun x hx => by obtain ⟨k, p, hp, rfl⟩ := hmem x hx; exact good17 hb k p hp) hl with h | h
    · exact h2 l h
    · exact h
  · rcases Nat.lt_or_ge q m with hqm | hqm
    · exact snFold_keep (h3 q j b' p l hqm hb' hp hm hlb ha)
    · obtain rfl : q = m := by omega
      rw [hb] at hb'
      injection hb' with hb'
      subst hb'
      have hj : j < b.pages.length := (List.getElem?_eq_some_iff.1 hp).1
      have hx : (addrF q b.b.mode j, p) ∈ ys := by
        have h4 := hy.2 j hj
        rw [hp] at h4
        exact List.mem_of_getElem? h4
      obtain ⟨_, hr⟩ := mayF_rng hm
      have h5 := snFold_hit (sn := sn) (ads := whereF 4 fl co bs 4) hx hm (by simp only [hlb, Int.toNat_natCast]; exact ha) (by simp only [hlb, Int.toNat_natCast, h1]; omega)
      simp only [hlb, Int.toNat_natCast] at h5
      exact h5
theorem SnInv.fin {fl co : List Int} {bs : List Bl} {sn : List Bool} (h : SnInv fl co bs bs.length sn) {l : Nat} (hl : l < 4) : sn[l]? = some (decide (0 ≤ (blocksF 4 fl co (l : Int) bs bs.length).1.block)) := by
  obtain ⟨h1, h2, h3⟩ := h
  have hx : sn[l]? = some (sn[l]'(by omega)) := List.getElem?_eq_getElem (by omega)
  rcases blocksF_from (lbas := 4) (fl := fl) (co := co) (lba := (l : Int)) bs bs.length (Nat.le_refl _) with e | ⟨q, j, b, p, c1, c2, c3, c4, c5, c6⟩
  · rw [e]
    cases hb : sn[l]'(by omega) with
    | false => rw [hx, hb]; rfl
    | true =>
      exfalso
      rw [hb] at hx
      obtain ⟨ad, ha, hn⟩ := h2 l hx
      rw [whereF_get hl, e] at ha
      injection ha with ha
      rw [← ha] at hn
      exact hn (by decide)
  · have h4 := h3 q j b p l c1 c2 c3 c5 c4 (by rw [whereF_get hl, c6])
    rw [h4, c6]
    simp only [addrF_block]
    rw [decide_eq_true (by omega)]
end Go.Proofs.Ytdjfkehbknbocaa

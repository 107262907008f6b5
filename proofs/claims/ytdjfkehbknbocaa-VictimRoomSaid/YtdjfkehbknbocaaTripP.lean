/- The plain law of VictimTriple: the three with the fewest pages. -/
import Derived.Test.YtdjfkehbknbocaaVictQ
namespace Go.Proofs.Ytdjfkehbknbocaa
open Go
set_option linter.unusedSimpArgs false
set_option linter.unusedVariables false

/-- A use of one bit a cell has at most as many pages as there are lines. -/
def adjU (lines : Int) (u : Us) : Us := if u.mode = 1 then ⟨u.block, u.mode, 1 + u.valid % lines⟩ else u
theorem ownF_get {lines : Int} {xs : List Us} {i : Nat} {u : Us} (h : (ownF lines xs)[i]? = some u) : ∃ x, xs[i]? = some x ∧ i < 64 ∧ u = ⟨(i : Int), 1 + x.mode % 2, 1 + x.valid % (3 * lines)⟩ := by
  unfold ownF at h
  rw [List.getElem?_mapIdx] at h
  obtain ⟨x, hx, rfl⟩ := Option.map_eq_some_iff.1 h
  rw [List.getElem?_take] at hx
  split at hx
  · exact ⟨x, hx, by assumption, rfl⟩
  · cases hx
/-- Uses whose blocks are their places, and that may be folded. -/
structure Own (lines : Int) (zs : List Us) : Prop where
  block : ∀ (i : Nat) (u : Us), zs[i]? = some u → u.block = i
  may : ∀ u ∈ zs, mayU lines u = true
theorem own_ownF {lines : Int} (h1 : 1 ≤ lines) (xs : List Us) : Own lines (ownF lines xs) := by
  refine ⟨fun i u h => ?_, fun u hu => ?_⟩
  · obtain ⟨x, _, _, rfl⟩ := ownF_get h
    rfl
  · obtain ⟨i, hi⟩ := List.mem_iff_getElem?.1 hu
    obtain ⟨x, _, _, rfl⟩ := ownF_get hi
    have m1 := Int.emod_nonneg x.mode (show (2 : Int) ≠ 0 by omega)
    have m2 := Int.emod_lt_of_pos x.mode (show (0 : Int) < 2 by omega)
    have v1 := Int.emod_nonneg x.valid (show 3 * lines ≠ 0 by omega)
    have v2 := Int.emod_lt_of_pos x.valid (show 0 < 3 * lines by omega)
    have a1 : (1 + x.mode % 2 == 1 || 1 + x.mode % 2 == 2) = true := by simp; omega
    have a2 : (1 + x.valid % (3 * lines) - 1) / 3 < lines := by omega
    simp only [mayU, a1, Bool.true_and]
    simp
    omega
theorem adj_own {lines : Int} (h1 : 1 ≤ lines) {zs : List Us} (h : Own lines zs) : Own lines (zs.map (adjU lines)) := by
  refine ⟨fun i u hu => ?_, fun u hu => ?_⟩
  · rw [List.getElem?_map] at hu
    obtain ⟨x, hx, rfl⟩ := Option.map_eq_some_iff.1 hu
    have := h.block i x hx
    unfold adjU
    split <;> exact this
  · obtain ⟨x, hx, rfl⟩ := List.mem_map.1 hu
    unfold adjU
    split
    · rename_i hm
      have v1 := Int.emod_nonneg x.valid (show lines ≠ 0 by omega)
      have v2 := Int.emod_lt_of_pos x.valid (show 0 < lines by omega)
      simp [mayU, hm]
      omega
    · exact h.may x hx
theorem Own.filter {lines : Int} {zs : List Us} (h : Own lines zs) : zs.filter (mayU lines) = zs := List.filter_eq_self.2 h.may
/-- The places of the uses of one bit a cell, in ranked order. -/
def slcP (zs : List Us) (M : List Nat) : List Nat := M.filter fun i => slcB (uOf zs i)
theorem slcP_map {lines : Int} {zs : List Us} (h : Own lines zs) (M : List Nat) : (zOf lines zs M).filter slcB = (slcP zs M).map (uOf zs) := by
  unfold zOf slcP
  rw [h.filter, List.filter_map]
  rfl
def cntS (zs : List Us) : Nat := (zs.filter slcB).length
theorem slcP_len {lines : Int} {zs : List Us} (h : Own lines zs) {M : List Nat} (hR : RankedBy lines zs M) : (slcP zs M).length = cntS zs := by
  have hp := hR.perm
  rw [h.filter] at hp
  have h1 : (slcP zs M).Perm ((List.range' 0 zs.length).filter fun i => slcB (uOf zs i)) := hp.filter _
  rw [h1.length_eq]
  have h2 : zs.filter slcB = ((List.range' 0 zs.length).filter fun i => slcB (uOf zs i)).map (uOf zs) := by
    have := List.filter_map (f := uOf zs) (p := slcB) (l := List.range' 0 zs.length)
    rw [uOf_map rfl] at this
    exact this
  unfold cntS
  rw [h2, List.length_map]
structure Three (lines : Int) (zs : List Us) (M : List Nat) (a b c : Nat) : Prop where
  out : tripleF lines ((zOf lines zs M).filter slcB) = [(a : Int), (b : Int), (c : Int)]
  la : a < zs.length
  lb : b < zs.length
  lc : c < zs.length
  ma : (uOf zs a).mode = 1
  mb : (uOf zs b).mode = 1
  mc : (uOf zs c).mode = 1
  ab : a ≠ b
  bc : b ≠ c
  ac : a ≠ c
  few : ∀ (i g : Nat), i < zs.length → (uOf zs i).mode = 1 → (g = a ∨ g = b ∨ g = c) → (uOf zs i).valid < (uOf zs g).valid → i = a ∨ i = b ∨ i = c
theorem three_of {lines : Int} {zs : List Us} (h : Own lines zs) (hs : ∀ u ∈ zs, u.mode = 1 → u.valid ≤ lines) {M : List Nat} (hR : RankedBy lines zs M) (h3 : 3 ≤ cntS zs) : ∃ a b c, Three lines zs M a b c := by
  have hp := hR.perm
  have hsr := hR.srt
  rw [h.filter] at hp hsr
  have hlen := slcP_len h hR
  have hmem : ∀ i, i ∈ slcP zs M ↔ (i < zs.length ∧ (uOf zs i).mode = 1) := fun i => by
    unfold slcP
    rw [List.mem_filter, hp.mem_iff]
    simp [List.mem_range'_1, slcB]
  have hnd : (slcP zs M).Nodup := (hp.nodup_iff.2 (List.nodup_range')).filter _
  have hss : Srt cfU (uOf zs) (slcP zs M) := List.Pairwise.sublist List.filter_sublist hsr
  have hmap := slcP_map h M
  match hP : slcP zs M, hlen with
  | [], hl => simp at hl; omega
  | [_], hl => simp at hl; omega
  | [_, _], hl => simp at hl; omega
  | a :: b :: c :: r, _ =>
    rw [hP] at hmem hnd hss hmap
    obtain ⟨la, ma⟩ := (hmem a).1 (by simp)
    obtain ⟨lb, mb⟩ := (hmem b).1 (by simp)
    obtain ⟨lc, mc⟩ := (hmem c).1 (by simp)
    have hb : ∀ i, i < zs.length → (uOf zs i).block = i ∧ ((uOf zs i).mode = 1 → (uOf zs i).valid ≤ lines) := fun i hi => by
      have e := uOf_get (List.getElem?_eq_getElem hi)
      rw [e]
      exact ⟨h.block i _ (List.getElem?_eq_getElem hi), hs _ (List.getElem_mem hi)⟩
    have va := (hb a la).2 ma
    have vb := (hb b lb).2 mb
    have vc := (hb c lc).2 mc
    simp only [List.nodup_cons, List.mem_cons, not_or] at hnd
    refine ⟨a, b, c, ?_, la, lb, lc, ma, mb, mc, hnd.1.1, hnd.2.1.1, hnd.1.2.1, fun i g hi hm hg hv => ?_⟩
    · rw [hmap]
      show (if _ then _ else _) = _
      rw [if_pos (by omega), (hb a la).1, (hb b lb).1, (hb c lc).1]
    · have hii := (hmem i).2 ⟨hi, hm⟩
      simp only [List.mem_cons] at hii
      rcases hii with e | e | e | hir
      · exact .inl e
      · exact .inr (.inl e)
      · exact .inr (.inr e)
      · exfalso
        simp only [Srt, List.pairwise_cons, List.mem_cons] at hss
        have hpre : pre cfU (uOf zs) g i := by
          rcases hg with rfl | rfl | rfl
          · exact hss.1 i (by simp [hir])
          · exact hss.2.1 i (by simp [hir])
          · exact hss.2.2.1 i hir
        unfold pre at hpre
        have h1 := orF_neg (uOf zs g).valid (uOf zs i).valid (uOf zs g).block (uOf zs i).block
        have h2 := orF_pos (uOf zs g).valid (uOf zs i).valid (uOf zs g).block (uOf zs i).block
        simp only [cfU] at hpre
        omega
theorem trip_none {lines : Int} {zs : List Us} (h : Own lines zs) {M : List Nat} (hR : RankedBy lines zs M) (h3 : cntS zs < 3) : tripleF lines ((zOf lines zs M).filter slcB) = [] := by
  have hl : ((zOf lines zs M).filter slcB).length ≤ 2 := by
    rw [slcP_map h M, List.length_map, slcP_len h hR]
    omega
  match (zOf lines zs M).filter slcB, hl with
  | [], _ => rfl
  | [_], _ => rfl
  | [_, _], _ => rfl
  | _ :: _ :: _ :: _, h => simp at h
theorem cntS_snoc {lines : Int} {zs : List Us} {k : Nat} {x : Us} (hx : zs[k]? = some x) : cntS ((zs.take (k + 1)).map (adjU lines)) = cntS ((zs.take k).map (adjU lines)) + if x.mode = 1 then 1 else 0 := by
  rw [List.take_add_one, hx]
  simp only [Option.toList_some, List.map_append, List.map_cons, List.map_nil, cntS, List.filter_append, List.length_append]
  congr 1
  by_cases h : x.mode = 1
  · simp [adjU, h, slcB]
  · simp [adjU, h, slcB]
theorem cntS_le (zs : List Us) : cntS zs ≤ zs.length := List.length_filter_le _ _
end Go.Proofs.Ytdjfkehbknbocaa

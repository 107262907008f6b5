/- The plain law of VictimRoom. -/
import Derived.Test.YtdjfkehbknbocaaTripP
namespace Go.Proofs.Ytdjfkehbknbocaa
open Go
set_option linter.unusedSimpArgs false
set_option linter.unusedVariables false

theorem srt_valid {zs : List Us} {M : List Nat} (hs : Srt cfU (uOf zs) M) {p q i j : Nat} (hpq : p ≤ q) (hi : M[p]? = some i) (hj : M[q]? = some j) : (uOf zs i).valid ≤ (uOf zs j).valid := by
  rcases Nat.lt_or_ge p q with h | h
  · have hp := srt_lt hs h hi hj
    unfold pre at hp
    have h1 := orF_neg (uOf zs i).valid (uOf zs j).valid (uOf zs i).block (uOf zs j).block
    have h2 := orF_pos (uOf zs i).valid (uOf zs j).valid (uOf zs i).block (uOf zs j).block
    simp only [cfU] at hp
    omega
  · have : p = q := by omega
    subst this
    rw [hi] at hj
    injection hj with hj
    rw [hj]
    exact Int.le_refl _
/-- What the gathering comes to, by places. -/
structure RoomF (L : Int) (zs : List Us) (P : List Nat) (T : List Us) : Prop where
  map : T = P.map (uOf zs)
  len : P.length ≤ 4
  out : gOut T = if P.length < 2 then [] else P.map (fun i : Nat => (i : Int))
  sum : 2 ≤ P.length → sumV T ≤ 3 * L
  top : ∀ g ∈ P, ∀ i, i < zs.length → i ∉ P → (uOf zs g).valid ≤ (uOf zs i).valid
  next : 2 ≤ P.length → P.length ≠ 4 → ∀ i, i < zs.length → i ∉ P → 3 * L < sumV T + (uOf zs i).valid
  two : P.length < 2 → ∀ i j, i < zs.length → j < zs.length → i ≠ j → 3 * L < (uOf zs i).valid + (uOf zs j).valid
  nodup : P.Nodup
  lt : ∀ g ∈ P, g < zs.length
theorem room_of {L : Int} {zs : List Us} (h : Own L zs) {M : List Nat} {T : List Us} (hR : RankedBy L zs M) (hG : Gath L (zOf L zs M) T) : ∃ P, RoomF L zs P T := by
  have hp := hR.perm
  have hs := hR.srt
  rw [h.filter] at hp hs
  have hz : zOf L zs M = M.map (uOf zs) := by unfold zOf; rw [h.filter]
  rw [hz] at hG
  have hMl : M.length = zs.length := by have := hp.length_eq; simpa using this
  have hnd : M.Nodup := hp.nodup_iff.2 (List.nodup_range')
  have hmem : ∀ i, i ∈ M ↔ i < zs.length := fun i => by rw [hp.mem_iff]; simp [List.mem_range'_1]
  have hTl : T.length ≤ M.length := by have := hG.pre.length_le; simpa using this
  have hT : T = (M.take T.length).map (uOf zs) := by
    rw [List.map_take]
    exact List.prefix_iff_eq_take.1 hG.pre
  obtain ⟨t, ht⟩ : ∃ t, T.length = t := ⟨_, rfl⟩
  rw [ht] at hT hTl
  have hPl : (M.take t).length = t := by rw [List.length_take]; omega
  have hpos : ∀ i, i < zs.length → i ∉ M.take t → ∃ q, t ≤ q ∧ M[q]? = some i := fun i hi hn => by
    obtain ⟨q, hq⟩ := List.mem_iff_getElem?.1 ((hmem i).2 hi)
    refine ⟨q, ?_, hq⟩
    rcases Nat.lt_or_ge q t with h1 | h1
    · exact absurd (List.mem_iff_getElem?.2 ⟨q, by rw [List.getElem?_take, if_pos h1]; exact hq⟩) hn
    · exact h1
  have h4 := hG.go.le4
  -- where it stops
  have hstop : t = M.length ∨ ∃ x, M[t]? = some x ∧ ¬ goesG L T (uOf zs x) := by
    rcases hG.stop with e | ⟨x, hx, hn⟩
    · left
      have := congrArg List.length e
      rw [List.length_map, ht] at this
      exact this
    · right
      obtain ⟨r, hr⟩ := hx
      have hg : (M.map (uOf zs))[t]? = some x := by
        rw [← hr, List.append_assoc, List.getElem?_append_right (by omega), ht]
        simp
      rw [List.getElem?_map] at hg
      obtain ⟨y, hy, rfl⟩ := Option.map_eq_some_iff.1 hg
      exact ⟨y, hy, hn⟩
  refine ⟨M.take t, hT, by rw [hPl]; omega, ?_, fun h2 => ?_, fun g hg i hi hn => ?_, fun h2 hn4 i hi hn => ?_, fun h2 i j hi hj hij => ?_, hnd.sublist (List.take_sublist _ _), fun g hg => (hmem g).1 (List.mem_of_mem_take hg)⟩
  · rw [hPl, gOut, ht]
    split
    · rfl
    · rw [hT, List.map_map]
      refine List.map_congr_left fun i hi => ?_
      have hi := (hmem i).1 (List.mem_of_mem_take hi)
      show (uOf zs i).block = i
      have e := List.getElem?_eq_getElem hi
      rw [uOf_get e]
      exact h.block i _ e
  · rw [hPl] at h2
    have hx : T[t - 1]? = some (T[t - 1]'(by omega)) := List.getElem?_eq_getElem _
    have hg := hG.go (t - 1) _ hx
    have hl : (T.take (t - 1)).length = t - 1 := by rw [List.length_take]; omega
    have := hg.2 (by omega)
    rw [← sumV_snoc] at this
    have e : T.take (t - 1) ++ [T[t - 1]'(by omega)] = T := by
      have h1 : T.take (t - 1 + 1) = T.take (t - 1) ++ [T[t - 1]'(by omega)] := by rw [List.take_add_one, hx]; rfl
      rw [← h1, List.take_of_length_le (by omega)]
    rwa [e] at this
  · obtain ⟨p, hp1⟩ := List.mem_iff_getElem?.1 hg
    rw [List.getElem?_take] at hp1
    split at hp1
    · rename_i hpt
      obtain ⟨q, hq, hqi⟩ := hpos i hi hn
      exact srt_valid hs (by omega) hp1 hqi
    · cases hp1
  · rw [hPl] at h2 hn4
    obtain ⟨q, hq, hqi⟩ := hpos i hi hn
    have hql := (List.getElem?_eq_some_iff.1 hqi).1
    rcases hstop with e | ⟨x, hx, hng⟩
    · omega
    · have hv := srt_valid hs hq hx hqi
      have : ¬ sumV T + (uOf zs x).valid ≤ 3 * L := fun hle => hng ⟨by omega, fun _ => hle⟩
      omega
  · rw [hPl] at h2
    rcases hstop with e | ⟨x, hx, hng⟩
    · omega
    · have h1 : t = 1 := by
        rcases Nat.eq_zero_or_pos t with h0 | h0
        · exfalso
          apply hng
          exact ⟨by omega, fun h3 => by omega⟩
        · omega
      have hc : ¬ sumV T + (uOf zs x).valid ≤ 3 * L := fun hle => hng ⟨by omega, fun _ => hle⟩
      have hM0 : M[0]? = some (M[0]'(by omega)) := List.getElem?_eq_getElem _
      have hs0 : sumV T = (uOf zs (M[0]'(by omega))).valid := by
        have : M.take 1 = [M[0]'(by omega)] := by
          have := List.take_add_one (l := M) (i := 0)
          rw [hM0] at this
          simpa using this
        rw [hT, h1, this]
        simp [sumV]
      rw [h1] at hx
      obtain ⟨p, hpi⟩ := List.mem_iff_getElem?.1 ((hmem i).2 hi)
      obtain ⟨q, hqj⟩ := List.mem_iff_getElem?.1 ((hmem j).2 hj)
      have hne : p ≠ q := by
        rintro rfl
        rw [hpi] at hqj
        injection hqj with hqj
        exact hij hqj
      rcases Nat.lt_or_ge p q with hlt | hge
      · have a1 := srt_valid hs (Nat.zero_le p) hM0 hpi
        have a2 := srt_valid hs (show 1 ≤ q by omega) hx hqj
        omega
      · have a1 := srt_valid hs (Nat.zero_le q) hM0 hqj
        have a2 := srt_valid hs (show 1 ≤ p by omega) hx hpi
        omega
/-- The two least so far: of places that differ, or too great. -/
def valO (L : Int) (zs : List Us) : Option Nat → Int
  | none => 3 * L + 1
  | some i => (uOf zs i).valid
structure Lst (L : Int) (zs : List Us) (k : Nat) (a b : Int) : Prop where
  ex : ∃ oi oj : Option Nat, a = valO L zs oi ∧ b = valO L zs oj ∧ (∀ i, oi = some i → i < k) ∧ (∀ j, oj = some j → j < k) ∧ (∀ i j, oi = some i → oj = some j → i ≠ j)
theorem Lst.zero (L : Int) (zs : List Us) : Lst L zs 0 (3 * L + 1) (3 * L + 1) := ⟨none, none, rfl, rfl, by simp, by simp, by simp⟩
theorem Lst.skip {L : Int} {zs : List Us} {k : Nat} {a b : Int} (h : Lst L zs k a b) : Lst L zs (k + 1) a b := by
  obtain ⟨oi, oj, h1, h2, h3, h4, h5⟩ := h.ex
  exact ⟨oi, oj, h1, h2, fun i e => by have := h3 i e; omega, fun i e => by have := h4 i e; omega, h5⟩
theorem Lst.first {L : Int} {zs : List Us} {k : Nat} {a b : Int} (h : Lst L zs k a b) : Lst L zs (k + 1) (uOf zs k).valid a := by
  obtain ⟨oi, oj, h1, h2, h3, h4, h5⟩ := h.ex
  exact ⟨some k, oi, rfl, h1, fun i e => by injection e with e; omega, fun i e => by have := h3 i e; omega, fun i j e1 e2 => by injection e1 with e1; have := h3 j e2; omega⟩
theorem Lst.second {L : Int} {zs : List Us} {k : Nat} {a b : Int} (h : Lst L zs k a b) : Lst L zs (k + 1) a (uOf zs k).valid := by
  obtain ⟨oi, oj, h1, h2, h3, h4, h5⟩ := h.ex
  exact ⟨oi, some k, h1, rfl, fun i e => by have := h3 i e; omega, fun i e => by injection e with e; omega, fun i j e1 e2 => by injection e2 with e2; have := h3 i e1; omega⟩
theorem Lst.bd {L : Int} {zs : List Us} {k : Nat} {a b : Int} (hz : Own L zs) (hL : 1 ≤ L) (hk : k ≤ zs.length) (h : Lst L zs k a b) : (1 ≤ a ∧ a ≤ 3 * L + 1) ∧ 1 ≤ b ∧ b ≤ 3 * L + 1 := by
  obtain ⟨oi, oj, h1, h2, h3, h4, _⟩ := h.ex
  have hv : ∀ o : Option Nat, (∀ i, o = some i → i < k) → 1 ≤ valO L zs o ∧ valO L zs o ≤ 3 * L + 1 := fun o ho => by
    cases o with
    | none => simp only [valO]; omega
    | some i =>
      have hi := ho i rfl
      have e := List.getElem?_eq_getElem (show i < zs.length by omega)
      have := mayU_bd (hz.may _ (List.getElem_mem (show i < zs.length by omega)))
      simp only [valO, uOf_get e]
      omega
  rw [h1, h2]
  exact ⟨hv oi h3, hv oj h4⟩
theorem Lst.over {L : Int} {zs : List Us} {P : List Nat} {T : List Us} {a b : Int} (hz : Own L zs) (hL : 1 ≤ L) (hF : RoomF L zs P T) (h2 : P.length < 2) (h : Lst L zs zs.length a b) : 3 * L < a + b := by
  have hb := h.bd hz hL (Nat.le_refl _)
  obtain ⟨oi, oj, h1, h3, h4, h5, h6⟩ := h.ex
  match oi, oj, h1, h3, h4, h5, h6 with
  | some i, some j, h1, h3, h4, h5, h6 =>
    have := hF.two h2 i j (h4 i rfl) (h5 j rfl) (h6 i j rfl rfl)
    simp only [valO] at h1 h3
    omega
  | none, oj, h1, _, _, _, _ => simp only [valO] at h1; omega
  | some i, none, _, h3, _, _, _ => simp only [valO] at h3; omega
/-- The least of those that are left out, so far. -/
structure Nxt (zs : List Us) (P : List Nat) (k : Nat) (x : Int) : Prop where
  zero : x = 0 → ∀ i, i < k → i ∈ P
  some : x ≠ 0 → ∃ i, i < k ∧ i ∉ P ∧ x = (uOf zs i).valid
theorem Nxt.start (zs : List Us) (P : List Nat) : Nxt zs P 0 0 := ⟨fun _ i h => by omega, fun h => absurd rfl h⟩
theorem Nxt.skip {zs : List Us} {P : List Nat} {k : Nat} {x : Int} (h : Nxt zs P k x) (hk : k ∈ P) : Nxt zs P (k + 1) x :=
  ⟨fun e i hi => by
    rcases Nat.lt_or_ge i k with h1 | h1
    · exact h.zero e i h1
    · have : i = k := by omega
      rw [this]; exact hk, fun e => by obtain ⟨i, h1, h2, h3⟩ := h.some e; exact ⟨i, by omega, h2, h3⟩⟩
theorem Nxt.same {zs : List Us} {P : List Nat} {k : Nat} {x : Int} (h : Nxt zs P k x) (hx : x ≠ 0) : Nxt zs P (k + 1) x :=
  ⟨fun e => absurd e hx, fun e => by obtain ⟨i, h1, h2, h3⟩ := h.some e; exact ⟨i, by omega, h2, h3⟩⟩
theorem Nxt.take {zs : List Us} {P : List Nat} {k : Nat} (hk : k ∉ P) (hv : (uOf zs k).valid ≠ 0) : Nxt zs P (k + 1) (uOf zs k).valid :=
  ⟨fun e => absurd e hv, fun _ => ⟨k, by omega, hk, rfl⟩⟩
/-- What the caller sees: the places handed out. -/
structure RoomQ (L : Int) (zs : List Us) (Q : List Nat) : Prop where
  len : Q.length ≤ 4
  two : Q = [] ∨ 2 ≤ Q.length
  sum : sumV (Q.map (uOf zs)) ≤ 3 * L
  top : ∀ g ∈ Q, ∀ i, i < zs.length → i ∉ Q → (uOf zs g).valid ≤ (uOf zs i).valid
  next : 2 ≤ Q.length → Q.length ≠ 4 → ∀ i, i < zs.length → i ∉ Q → 3 * L < sumV (Q.map (uOf zs)) + (uOf zs i).valid
  over : Q = [] → ∀ a b, Lst L zs zs.length a b → 3 * L < a + b
  nodup : Q.Nodup
  lt : ∀ g ∈ Q, g < zs.length
theorem room_q {L : Int} {zs : List Us} (hz : Own L zs) (hL : 1 ≤ L) {P : List Nat} {T : List Us} (h : RoomF L zs P T) : ∃ Q, RoomQ L zs Q ∧ gOut T = Q.map (fun i : Nat => (i : Int)) := by
  have ho := h.out
  split at ho
  · rename_i h2
    refine ⟨[], ⟨by simp, .inl rfl, by simp [sumV]; omega, by simp, by simp, fun _ a b hl => hl.over hz hL h h2, by simp, by simp⟩, by rw [ho]; rfl⟩
  · rename_i h2
    have hm := h.map
    refine ⟨P, ⟨h.len, .inr (by omega), by rw [← hm]; exact h.sum (by omega), h.top, fun h3 h4 i hi hn => by rw [← hm]; exact h.next h3 h4 i hi hn, fun e => by rw [e] at h2; simp at h2, h.nodup, h.lt⟩, ho⟩
/-- The greatest so far. -/
structure Top (zs : List Us) (Q : List Nat) (j : Nat) (t : Int) : Prop where
  le : ∀ b : Int, 0 ≤ b → (∀ g ∈ Q.take j, (uOf zs g).valid ≤ b) → t ≤ b
  nn : 0 ≤ t
  b192 : t ≤ 192
theorem Top.zero (zs : List Us) (Q : List Nat) : Top zs Q 0 0 := ⟨fun b h _ => h, Int.le_refl _, by omega⟩
theorem Top.step {zs : List Us} {Q : List Nat} {j g : Nat} {t V : Int} (h : Top zs Q j t) (hg : Q[j]? = some g) (hV : (uOf zs g).valid = V) (h0 : 0 ≤ V) (h1 : V ≤ 192) : Top zs Q (j + 1) (mx t V) := by
  have hm := mx_eq t V
  refine ⟨fun b hb hall => ?_, by have := h.nn; omega, by have := h.b192; omega⟩
  have h2 := h.le b hb fun g' hg' => hall g' (by rw [List.take_add_one]; exact List.mem_append.2 (.inl hg'))
  have h3 := hall g (by rw [List.take_add_one, hg]; simp)
  omega
/-- The flags: which places were handed out. -/
def flg (n : Nat) (Q : List Nat) : List Bool := (List.range n).map fun i => decide (i ∈ Q)
theorem flg_len (n : Nat) (Q : List Nat) : (flg n Q).length = n := by simp [flg]
theorem flg_get {n : Nat} {Q : List Nat} {i : Nat} (hi : i < n) : (flg n Q)[i]? = some (decide (i ∈ Q)) := by
  unfold flg
  rw [List.getElem?_map, List.getElem?_range hi]
  rfl
theorem flg_nil (n : Nat) : flg n [] = List.replicate n false := by
  refine List.ext_getElem (by simp [flg]) fun i h1 h2 => by simp [flg]
theorem flg_set {n : Nat} {Q : List Nat} {g : Nat} : (flg n Q).set g true = flg n (Q ++ [g]) := by
  refine List.ext_getElem (by simp [flg]) fun i h1 h2 => ?_
  rw [List.getElem_set]
  split
  · rename_i e
    subst e
    simp [flg]
  · rename_i e
    simp only [flg, List.getElem_map, List.getElem_range, List.mem_append, List.mem_singleton]
    congr 1
    apply propext
    constructor
    · exact .inl
    · rintro (h | h)
      · exact h
      · exact absurd h.symm e
theorem take_nd {Q : List Nat} (h : Q.Nodup) {j g : Nat} (hg : Q[j]? = some g) : g ∉ Q.take j := fun hm => by
  obtain ⟨i, hi⟩ := List.mem_iff_getElem?.1 hm
  rw [List.getElem?_take] at hi
  split at hi
  · rename_i hij
    have h1 := (List.getElem?_eq_some_iff.1 hi)
    have h2 := (List.getElem?_eq_some_iff.1 hg)
    obtain ⟨l1, e1⟩ := h1
    obtain ⟨l2, e2⟩ := h2
    have h3 := List.pairwise_iff_getElem.1 h i j l1 l2 (by omega)
    rw [e1, e2] at h3
    exact h3 rfl
  · cases hi
theorem info_boolR : (Try.prog.info? 4).map (fun i => (i.zero, i.size, i.bytes)) = some (some (.bool false), 1, 1) := by kernel_rfl
theorem madeB (n : Nat) : madeCells #[Value.bool false] n = (eList eBool (flg n [])).toArray := by
  rw [flg_nil]
  refine Array.ext (by rw [size_madeCells]; simp [eList, eBool]) fun i h1 h2 => ?_
  simp [madeCells, eList, eBool, Nat.mod_one]
end Go.Proofs.Ytdjfkehbknbocaa

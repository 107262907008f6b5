/- What Map's answer means, in plain words: the page that is told came up, and none that may count is above it; what makes no difference. -/
import Derived.Test.YtdjfkehbknbocaaMapA
namespace Go.Proofs.Ytdjfkehbknbocaa
set_option linter.unusedSimpArgs false
set_option linter.unusedVariables false

theorem lessF_self (x : Tg) : lessF x x = false := by simp [lessF]
theorem lessF_step {a b c : Tg} (h1 : lessF a b = false) (h2 : lessF a c = true) : lessF c b = false := by
  obtain ⟨a0, a1, a2, a3⟩ := a
  obtain ⟨b0, b1, b2, b3⟩ := b
  obtain ⟨c0, c1, c2, c3⟩ := c
  simp [lessF] at h1 h2 ⊢
  omega
theorem lessF_trans {a b c : Tg} (h1 : lessF a b = false) (h2 : lessF b c = false) : lessF a c = false := by
  obtain ⟨a0, a1, a2, a3⟩ := a
  obtain ⟨b0, b1, b2, b3⟩ := b
  obtain ⟨c0, c1, c2, c3⟩ := c
  simp [lessF] at h1 h2 ⊢
  omega
theorem lessF_seq {a b : Tg} (h : lessF a b = false) : b.seq ≤ a.seq := by
  simp [lessF] at h
  omega
theorem lessF_asymm {a b : Tg} (h : lessF a b = true) : lessF b a = false := by
  simp [lessF] at h ⊢
  omega
section
variable {lbas lba : Int} {fl co fl' co' : List Int} {i : Nat} {m : Int}
theorem stepF_eq (k : Nat) (p : Pg) (s : Sec) : stepF lbas fl co lba i m k p s = if (p.tag.lba == lba && mayF lbas fl co i m p) = true then (if s.1.block < 0 ∨ lessF s.2 p.tag = true then (addrF i m k, p.tag) else s) else s := by
  unfold stepF
  cases h1 : (p.tag.lba == lba) <;> cases h2 : mayF lbas fl co i m p <;> simp
theorem pagesF_succ {ps : List Pg} {k : Nat} {p : Pg} (hp : ps[k]? = some p) (s : Sec) : pagesF lbas fl co lba i m ps (k + 1) s = stepF lbas fl co lba i m k p (pagesF lbas fl co lba i m ps k s) := by
  show (match ps[k]? with | some p => _ | none => _) = _
  rw [hp]
theorem blocksF_succ {bs : List Bl} {i : Nat} {b : Bl} (hb : bs[i]? = some b) : blocksF lbas fl co lba bs (i + 1) = pagesF lbas fl co lba i b.b.mode b.pages b.pages.length (blocksF lbas fl co lba bs i) := by
  show (match bs[i]? with | some b => _ | none => _) = _
  rw [hb]
/-- The page that is told came up. -/
theorem pagesF_from (ps : List Pg) (s : Sec) : ∀ k, k ≤ ps.length → pagesF lbas fl co lba i m ps k s = s ∨ ∃ (j : Nat) (p : Pg), ps[j]? = some p ∧ p.tag.lba = lba ∧ mayF lbas fl co i m p = true ∧ pagesF lbas fl co lba i m ps k s = (addrF i m j, p.tag)
  | 0, _ => .inl rfl
  | k + 1, hk => by
    have hp : ps[k]? = some ps[k] := List.getElem?_eq_getElem hk
    rw [pagesF_succ hp, stepF_eq]
    split
    · rename_i h
      split
      · simp at h
        exact .inr ⟨k, _, hp, h.1, h.2, rfl⟩
      · exact pagesF_from ps s k (by omega)
    · exact pagesF_from ps s k (by omega)
/-- None that may count is above it. -/
theorem pagesF_max (ps : List Pg) (s : Sec) : ∀ k, k ≤ ps.length → (¬ s.1.block < 0 → ¬ (pagesF lbas fl co lba i m ps k s).1.block < 0 ∧ lessF (pagesF lbas fl co lba i m ps k s).2 s.2 = false) ∧
    ∀ (j : Nat) (p : Pg), j < k → ps[j]? = some p → p.tag.lba = lba → mayF lbas fl co i m p = true → ¬ (pagesF lbas fl co lba i m ps k s).1.block < 0 ∧ lessF (pagesF lbas fl co lba i m ps k s).2 p.tag = false
  | 0, _ => ⟨fun h => ⟨h, lessF_self _⟩, fun j p hj => absurd hj (Nat.not_lt_zero j)⟩
  | k + 1, hk => by
    obtain ⟨h1, h2⟩ := pagesF_max ps s k (by omega)
    have hp : ps[k]? = some ps[k] := List.getElem?_eq_getElem hk
    rw [pagesF_succ hp, stepF_eq]
    generalize pagesF lbas fl co lba i m ps k s = q at h1 h2
    have hnb : ∀ k : Nat, ¬ (addrF (i : Int) m (k : Int)).block < 0 := fun k => by rw [addrF_block]; omega
    split
    · rename_i hc
      simp at hc
      split
      · rename_i hq
        refine ⟨fun h => ⟨hnb k, ?_⟩, fun j p hj hjp hl hm => ⟨hnb k, ?_⟩⟩
        · obtain ⟨a, b⟩ := h1 h
          rcases hq with hq | hq
          · exact absurd hq a
          · exact lessF_step b hq
        · rcases Nat.lt_or_ge j k with hjk | hjk
          · obtain ⟨a, b⟩ := h2 j p hjk hjp hl hm
            rcases hq with hq | hq
            · exact absurd hq a
            · exact lessF_step b hq
          · obtain rfl : j = k := by omega
            rw [hp] at hjp
            injection hjp with hjp
            rw [hjp]
            exact lessF_self _
      · rename_i hq
        refine ⟨h1, fun j p hj hjp hl hm => ?_⟩
        rcases Nat.lt_or_ge j k with hjk | hjk
        · exact h2 j p hjk hjp hl hm
        · obtain rfl : j = k := by omega
          rw [hp] at hjp
          injection hjp with hjp
          rw [← hjp]
          refine ⟨fun h => hq (.inl h), ?_⟩
          cases hh : lessF q.2 ps[j].tag
          · rfl
          · exact absurd (.inr hh) hq
    · rename_i hc
      refine ⟨h1, fun j p hj hjp hl hm => ?_⟩
      rcases Nat.lt_or_ge j k with hjk | hjk
      · exact h2 j p hjk hjp hl hm
      · obtain rfl : j = k := by omega
        rw [hp] at hjp
        injection hjp with hjp
        rw [hjp] at hc
        exact absurd (by simp [hl, hm]) hc
theorem blocksF_from (bs : List Bl) : ∀ i, i ≤ bs.length → blocksF lbas fl co lba bs i = (⟨-1, 0, 0⟩, ⟨0, 0, 0, 0⟩) ∨ ∃ (q j : Nat) (b : Bl) (p : Pg), q < i ∧ bs[q]? = some b ∧ b.pages[j]? = some p ∧ p.tag.lba = lba ∧ mayF lbas fl co q b.b.mode p = true ∧ blocksF lbas fl co lba bs i = (addrF q b.b.mode j, p.tag)
  | 0, _ => .inl rfl
  | i + 1, hi => by
    have hb : bs[i]? = some bs[i] := List.getElem?_eq_getElem hi
    rw [blocksF_succ hb]
    rcases pagesF_from (lbas := lbas) (fl := fl) (co := co) (lba := lba) (i := i) (m := bs[i].b.mode) bs[i].pages (blocksF lbas fl co lba bs i) _ (Nat.le_refl _) with h | ⟨j, p, h1, h2, h3, h4⟩
    · rw [h]
      rcases blocksF_from bs i (by omega) with h | ⟨q, j, b, p, h0, h⟩
      · exact .inl h
      · exact .inr ⟨q, j, b, p, by omega, h⟩
    · exact .inr ⟨i, j, _, p, by omega, hb, h1, h2, h3, h4⟩
theorem blocksF_max (bs : List Bl) : ∀ i, i ≤ bs.length → ∀ (q j : Nat) (b : Bl) (p : Pg), q < i → bs[q]? = some b → b.pages[j]? = some p → p.tag.lba = lba → mayF lbas fl co q b.b.mode p = true → ¬ (blocksF lbas fl co lba bs i).1.block < 0 ∧ lessF (blocksF lbas fl co lba bs i).2 p.tag = false
  | 0, _, q, _, _, _, hq, _, _, _, _ => absurd hq (Nat.not_lt_zero q)
  | i + 1, hi, q, j, b, p, hq, hb, hp, hl, hm => by
    have hbi : bs[i]? = some bs[i] := List.getElem?_eq_getElem hi
    rw [blocksF_succ hbi]
    obtain ⟨m1, m2⟩ := pagesF_max (lbas := lbas) (fl := fl) (co := co) (lba := lba) (i := i) (m := bs[i].b.mode) bs[i].pages (blocksF lbas fl co lba bs i) _ (Nat.le_refl _)
    rcases Nat.lt_or_ge q i with h | h
    · obtain ⟨a, b'⟩ := blocksF_max bs i (by omega) q j b p h hb hp hl hm
      obtain ⟨c, d⟩ := m1 a
      exact ⟨c, lessF_trans d b'⟩
    · obtain rfl : q = i := by omega
      rw [hbi] at hb
      injection hb with hb
      subst hb
      exact m2 j p (List.getElem?_eq_some_iff.1 hp).1 hp hl hm

/-- Pages that come up alike make no difference. -/
theorem pagesF_congr {ps ps' : List Pg} (hlen : ps.length = ps'.length)
    (h : ∀ (j : Nat) (p p' : Pg), ps[j]? = some p → ps'[j]? = some p' → (p.tag.lba == lba && mayF lbas fl co i m p) = (p'.tag.lba == lba && mayF lbas fl' co' i m p') ∧ ((p.tag.lba == lba && mayF lbas fl co i m p) = true → p.tag = p'.tag)) (s : Sec) :
    ∀ k, k ≤ ps.length → pagesF lbas fl co lba i m ps k s = pagesF lbas fl' co' lba i m ps' k s
  | 0, _ => rfl
  | k + 1, hk => by
    have hp : ps[k]? = some ps[k] := List.getElem?_eq_getElem hk
    have hp' : ps'[k]? = some (ps'[k]'(by omega)) := List.getElem?_eq_getElem (by omega)
    obtain ⟨h1, h2⟩ := h k _ _ hp hp'
    rw [pagesF_succ hp, pagesF_succ hp', pagesF_congr hlen h s k (by omega), stepF_eq, stepF_eq, ← h1]
    split
    · rename_i hc
      rw [h2 hc]
    · rfl
theorem blocksF_congr {bs bs' : List Bl} (hlen : bs.length = bs'.length)
    (h : ∀ (q : Nat) (b b' : Bl), bs[q]? = some b → bs'[q]? = some b' → b.b.mode = b'.b.mode ∧ b.pages.length = b'.pages.length ∧
      ∀ (j : Nat) (p p' : Pg), b.pages[j]? = some p → b'.pages[j]? = some p' → (p.tag.lba == lba && mayF lbas fl co q b.b.mode p) = (p'.tag.lba == lba && mayF lbas fl' co' q b'.b.mode p') ∧ ((p.tag.lba == lba && mayF lbas fl co q b.b.mode p) = true → p.tag = p'.tag)) :
    ∀ i, i ≤ bs.length → blocksF lbas fl co lba bs i = blocksF lbas fl' co' lba bs' i
  | 0, _ => rfl
  | i + 1, hi => by
    have hb : bs[i]? = some bs[i] := List.getElem?_eq_getElem hi
    have hb' : bs'[i]? = some (bs'[i]'(by omega)) := List.getElem?_eq_getElem (by omega)
    obtain ⟨h1, h2, h3⟩ := h i _ _ hb hb'
    rw [blocksF_succ hb, blocksF_succ hb', blocksF_congr hlen h i (by omega), ← h1, ← h2]
    rw [← h1] at h3
    exact pagesF_congr h2 h3 _ _ (Nat.le_refl _)
end

/-! A floor. -/
theorem ofF_nil (i : Int) : ofF [] i = 0 := by
  unfold ofF
  split
  · rfl
  · simp
theorem mayF_floor {lbas : Int} {fl co : List Int} {i m : Int} {p : Pg} (h0 : 0 ≤ ofF fl p.tag.lba) : mayF lbas fl co i m p = (mayF lbas [] co i m p && decide (ofF fl p.tag.lba ≤ p.tag.seq)) := by
  unfold mayF
  rw [ofF_nil]
  by_cases h : ofF fl p.tag.lba ≤ p.tag.seq
  · have : 0 ≤ p.tag.seq := by omega
    simp [h, this]
  · simp [h]
theorem floor_same {lbas : Int} {fl co : List Int} {l : Int} {bs : List Bl} (h0 : ofF fl l = 0) : blocksF lbas fl co l bs bs.length = blocksF lbas [] co l bs bs.length := by
  refine blocksF_congr rfl (fun q b b' hb hb' => ?_) _ (Nat.le_refl _)
  rw [hb] at hb'
  injection hb' with hb'
  subst hb'
  refine ⟨rfl, rfl, fun j p p' hp hp' => ?_⟩
  rw [hp] at hp'
  injection hp' with hp'
  subst hp'
  refine ⟨?_, fun _ => rfl⟩
  by_cases hl : p.tag.lba = l
  · rw [mayF_floor (fl := fl) (by rw [hl]; omega), hl, h0]
    cases hm : mayF lbas [] co (q : Int) b.b.mode p
    · simp
    · have : ofF [] p.tag.lba ≤ p.tag.seq := by simp [mayF] at hm; exact hm.2.2.2.2.1
      rw [ofF_nil] at this
      simp [this]
  · have : (p.tag.lba == l) = false := by simpa using hl
    rw [this]
    simp
theorem floor_none {lbas : Int} {fl co : List Int} {l : Int} {bs : List Bl} (h0 : ofF fl l = (blocksF lbas [] co l bs bs.length).2.seq + 1) (hn : 0 ≤ (blocksF lbas [] co l bs bs.length).2.seq) : blocksF lbas fl co l bs bs.length = (⟨-1, 0, 0⟩, ⟨0, 0, 0, 0⟩) := by
  rcases blocksF_from (lbas := lbas) (fl := fl) (co := co) (lba := l) bs bs.length (Nat.le_refl _) with h | ⟨q, j, b, p, h1, h2, h3, h4, h5, _⟩
  · exact h
  · exfalso
    rw [mayF_floor (fl := fl) (by rw [h4]; omega), h4] at h5
    simp at h5
    have := lessF_seq (blocksF_max (lbas := lbas) (fl := []) (co := co) (lba := l) bs bs.length (Nat.le_refl _) q j b p h1 h2 h3 h4 h5.1).2
    omega
theorem seq_nonneg {lbas : Int} {co : List Int} {l : Int} {bs : List Bl} : 0 ≤ (blocksF lbas [] co l bs bs.length).2.seq := by
  rcases blocksF_from (lbas := lbas) (fl := []) (co := co) (lba := l) bs bs.length (Nat.le_refl _) with h | ⟨q, j, b, p, h1, h2, h3, h4, h5, h6⟩
  · rw [h]; exact Int.le_refl 0
  · rw [h6]
    have : ofF [] p.tag.lba ≤ p.tag.seq := by simp [mayF] at h5; exact h5.2.2.2.2.1
    rw [ofF_nil] at this
    exact this
theorem whereF_get {lbas : Int} {fl co : List Int} {bs : List Bl} {n k : Nat} (hk : k < n) : (whereF lbas fl co bs n)[k]? = some (blocksF lbas fl co (k : Int) bs bs.length).1 := by
  simp [whereF, hk]
theorem seqsF_get {lbas : Int} {fl co : List Int} {bs : List Bl} {n k : Nat} (hk : k < n) : (seqsF lbas fl co bs n)[k]? = some (blocksF lbas fl co (k : Int) bs bs.length).2.seq := by
  simp [seqsF, hk]
end Go.Proofs.Ytdjfkehbknbocaa

/- Pages that may not count make no difference: the plain law of BestOthers. -/
import Derived.Test.YtdjfkehbknbocaaBestP
namespace Go.Proofs.Ytdjfkehbknbocaa
set_option linter.unusedSimpArgs false
set_option linter.unusedVariables false

def badPg : Pg := ⟨4, ⟨0, 0, 0, 0⟩, ⟨#[]⟩⟩
def othPg (co : List Int) (q : Nat) (m : Int) (p : Pg) : Pg := if mayF 4 [] co q m p = true then p else badPg
theorem mayF_bad (lbas : Int) (fl co : List Int) (i m : Int) : mayF lbas fl co i m badPg = false := by simp [mayF, badPg, tellsF]
/-- Each block with its pages that may not count struck. -/
def Oth (co : List Int) (bs ls : List Bl) : Prop := ls.length = bs.length ∧ ∀ (q : Nat) (b b' : Bl), bs[q]? = some b → ls[q]? = some b' → b'.b.mode = b.b.mode ∧ b'.pages = b.pages.map (othPg co q b.b.mode)
theorem oth_same {co : List Int} {bs ls : List Bl} (h : Oth co bs ls) (l : Int) : blocksF 4 [] co l bs bs.length = blocksF 4 [] co l ls ls.length := by
  rw [h.1]
  refine blocksF_congr h.1.symm (fun q b b' hb hb' => ?_) _ (Nat.le_refl _)
  obtain ⟨h1, h2⟩ := h.2 q b b' hb hb'
  refine ⟨h1.symm, by rw [h2]; simp, fun j p p' hp hp' => ?_⟩
  rw [h2, List.getElem?_map, hp] at hp'
  injection hp' with hp'
  rw [h1]
  unfold othPg at hp'
  split at hp'
  · subst hp'
    exact ⟨rfl, fun _ => rfl⟩
  · rename_i hm
    rw [← hp', mayF_bad]
    have : mayF 4 [] co (q : Int) b.b.mode p = false := by simpa using hm
    rw [this]
    simp
theorem oth_where {co : List Int} {bs ls : List Bl} (h : Oth co bs ls) (n : Nat) : whereF 4 [] co ls n = whereF 4 [] co bs n ∧ seqsF 4 [] co ls n = seqsF 4 [] co bs n := by
  unfold whereF seqsF
  exact ⟨List.map_congr_left (fun l _ => by rw [oth_same h]), List.map_congr_left (fun l _ => by rw [oth_same h])⟩
/-- A page of a block of two bits that may count has the epoch of the commit. -/
theorem may_epoch {n : Nat} {e : Int} {fl : List Int} {q : Nat} {p : Pg} (h : mayF 4 fl (List.replicate n e) q 2 p = true) : p.tag.epoch = e := by
  simp [mayF] at h
  obtain ⟨_, _, _, _, _, h1, h2⟩ := h
  rw [← h2]
  unfold ofF at h1 ⊢
  split
  · rename_i hc
    rw [if_pos hc] at h1
    omega
  · rename_i hc
    simp at hc
    have hq : q < n := by omega
    simp [hq]
end Go.Proofs.Ytdjfkehbknbocaa

/- Pure and memory laws for the walk of BestOthers. -/
import Derived.Test.YtdjfkehbknbocaaOthP
import Derived.Deep.OwnRows
namespace Go.Proofs.Ytdjfkehbknbocaa
open Go.RowKit
set_option linter.unusedSimpArgs false
set_option linter.unusedVariables false

/-- The commit row while it is filled. -/
def cmt (n k : Nat) (e : Int) : List Int := (List.range n).map fun i => if i < k then e else 0
theorem cmt_zero (n : Nat) (e : Int) : cmt n 0 e = List.replicate n 0 := by
  refine List.ext_getElem (by simp [cmt]) fun i h1 h2 => by simp [cmt]
theorem cmt_full (n : Nat) (e : Int) : cmt n n e = List.replicate n e := by
  refine List.ext_getElem (by simp [cmt]) fun i h1 h2 => ?_
  have : i < n := by simpa [cmt] using h1
  simp [cmt, this]
theorem cmt_set (n k : Nat) (e : Int) : (cmt n k e).set k e = cmt n (k + 1) e := by
  refine List.ext_getElem (by simp [cmt]) fun i h1 h2 => ?_
  rw [List.getElem_set]
  split
  · rename_i h
    subst h
    simp [cmt]
  · rename_i h
    simp only [cmt, List.getElem_map, List.getElem_range]
    by_cases h3 : i < k
    · rw [if_pos h3, if_pos (by omega)]
    · rw [if_neg h3, if_neg (by omega)]
theorem cmt_get {n k i : Nat} {e : Int} (h : i < n) : (cmt n k e)[i]? = some (if i < k then e else 0) := by
  unfold cmt
  rw [List.getElem?_map, List.getElem?_range h]
  rfl
theorem cmt_len (n k : Nat) (e : Int) : (cmt n k e).length = n := by simp [cmt]
theorem madeI (n : Nat) (e : Int) : madeCells #[Value.int .i64 0] n = (eList eInt (cmt n 0 e)).toArray := by
  rw [cmt_zero]
  refine Array.ext (by rw [size_madeCells]; simp [eList, eInt]) fun i h1 h2 => ?_
  simp [madeCells, eList, eInt, Nat.mod_one]
theorem info_intO : (Try.prog.info? 3).map (fun i => (i.zero, i.size, i.bytes)) = some (some (.int .i64 0), 1, 8) := by kernel_rfl
theorem makeI_run (n : Nat) (hn : n ≤ 100000) (e : Int) (w : World) : (Instr.makeSlice 32 (.int .i64 (n : Int)) (.int .i64 (n : Int))).run Try.prog w = .ok (.slice (some ⟨w.heap.size, 0, none⟩) n n) (w.alloc (.cells (eList eInt (cmt n 0 e)).toArray 3)) := by
  have h := run_make_row' (P := Try.prog) 32 3 (.int .i64 0) 8 Try.underlying32 info_intO rfl .i64 .i64 n (by omega) (by omega) w
  rw [← madeI n e]
  exact h
/-- The pages of each block lie in a row of their own. -/
def DeepO (base : Nat) (W : World) (ls : List Bl) : Prop := ∀ x ∈ ls, W.ownsRow base 64 6 (.slice x.b.p.A x.b.p.n x.b.p.c) x.b.p.n (eList ePg x.pages)
theorem DeepO.deep {base : Nat} {W : World} {ls : List Bl} (h : DeepO base W ls) : Deep W ls := fun x hx => Sl.own (enc := ePg) (k := 6) (fun _ => rfl) (by omega) (h x hx)
theorem DeepO.below {base : Nat} {W W' : World} {ls : List Bl} (h : DeepO base W ls) (hb : Below W.heap.size W W') : DeepO base W' ls := fun x hx => own_below (h x hx) hb
theorem own_two {W : World} {b1 b2 : Nat} {e1 e2 : TypeId} {s1 s2 n1 n2 : Nat} {v1 v2 : Value} {l1 l2 : List Value} (h1 : W.ownsRow b1 e1 s1 v1 n1 l1) (h2 : W.ownsRow b2 e2 s2 v2 n2 l2) (hne : e1 ≠ e2) : v1.ownBlock = none ∨ v1.ownBlock ≠ v2.ownBlock := by
  rcases h1.2 with ⟨rfl, _⟩ | ⟨g, cap, cur, rfl, _, hh, _⟩
  · exact .inl rfl
  · right
    rcases h2.2 with ⟨rfl, _⟩ | ⟨g', cap', cur', rfl, _, hh', _⟩
    · intro e; cases e
    · intro e
      have e : g = g' := by simpa [Value.ownBlock] using e
      subst e
      rw [hh] at hh'
      injection hh' with hh'
      injection hh' with _ hh'
      exact hne hh'
theorem DeepO.grown {base b2 : Nat} {W W' : World} {ls : List Bl} {v : Value} {n2 : Nat} {l2 : List Value} (h : DeepO base W ls) (hg : W.grownBy W' v.ownBlock) (h2 : W.ownsRow b2 60 3 v n2 l2) : DeepO base W' ls := fun x hx =>
  (h x hx).kept hg (own_two (h x hx) h2 (by decide))
theorem DeepO.snoc {base : Nat} {W : World} {ls : List Bl} {x : Bl} (h : DeepO base W ls) (hx : W.ownsRow base 64 6 (.slice x.b.p.A x.b.p.n x.b.p.c) x.b.p.n (eList ePg x.pages)) : DeepO base W (ls ++ [x]) := fun y hy => by
  rcases List.mem_append.1 hy with h1 | h1
  · exact h y h1
  · rw [List.mem_singleton.1 h1]; exact hx
theorem oth_snoc {co : List Int} {bs ls : List Bl} {k : Nat} {b : Bl} (h : Oth co (bs.take k) ls) (hb : bs[k]? = some b) (bad : Bool) (s : Sv) : Oth co (bs.take (k + 1)) (ls ++ [⟨⟨b.b.mode, bad, s⟩, b.pages.map (othPg co k b.b.mode)⟩]) := by
  have hk : k < bs.length := (List.getElem?_eq_some_iff.1 hb).1
  have hl : ls.length = k := by rw [h.1, List.length_take]; omega
  have ht : bs.take (k + 1) = bs.take k ++ [b] := by rw [List.take_add_one, hb]; rfl
  refine ⟨by rw [ht]; simp [h.1], fun q x x' hx hx' => ?_⟩
  rw [ht] at hx
  rcases Nat.lt_or_ge q k with h1 | h1
  · rw [List.getElem?_append_left (by rw [List.length_take]; omega)] at hx
    rw [List.getElem?_append_left (by omega)] at hx'
    exact h.2 q x x' hx hx'
  · have hq : q = k := by
      have := (List.getElem?_eq_some_iff.1 hx').1
      simp at this
      omega
    subst hq
    rw [List.getElem?_append_right (by rw [List.length_take]; omega)] at hx
    rw [List.getElem?_append_right (by omega)] at hx'
    have e1 : q - (bs.take q).length = 0 := by rw [List.length_take]; omega
    have e2 : q - ls.length = 0 := by omega
    rw [e1] at hx
    rw [e2] at hx'
    injection hx with hx
    injection hx' with hx'
    subst hx hx'
    exact ⟨rfl, rfl⟩
theorem oth_nil (co : List Int) (bs : List Bl) : Oth co (bs.take 0) [] := ⟨by simp, fun q b b' h => by simp at h⟩
theorem oth_pp {co : List Int} {bs ls : List Bl} (h : Oth co bs ls) (hpp : ∀ x ∈ bs, x.pages.length ≤ 80) : ∀ x ∈ ls, x.pages.length ≤ 80 := fun x hx => by
  obtain ⟨q, hq⟩ := List.mem_iff_getElem?.1 hx
  have hql := (List.getElem?_eq_some_iff.1 hq).1
  have hb := List.getElem?_eq_getElem (show q < bs.length by rw [← h.1]; exact hql)
  have := (h.2 q _ x hb hq).2
  rw [this, List.length_map]
  exact hpp _ (List.getElem_mem _)
theorem pg_snoc {co : List Int} {k : Nat} {m : Int} {ps : List Pg} {j : Nat} {p : Pg} (h : ps[j]? = some p) : eList ePg ((ps.take (j + 1)).map (othPg co k m)) = eList ePg ((ps.take j).map (othPg co k m)) ++ ePg (othPg co k m p) := by
  rw [List.take_add_one, h, Option.toList_some, List.map_append, List.map_cons, List.map_nil, eList_snoc]
end Go.Proofs.Ytdjfkehbknbocaa

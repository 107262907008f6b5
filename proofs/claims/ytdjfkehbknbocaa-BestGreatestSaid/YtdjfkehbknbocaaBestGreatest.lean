/- BestGreatest: for every state and blocks the law of that name returns true and leaves its arguments as they were. No condition. -/
import Derived.Test.YtdjfkehbknbocaaOpenB
import Derived.Test.YtdjfkehbknbocaaGreat
namespace Go.Proofs.Ytdjfkehbknbocaa
open Go.ChangeShapes Go.WideShapes Go.ChangeAt Go.RowKit
set_option linter.unusedVariables false
namespace bestGreatestDone
set_option maxRecDepth 100000 in
theorem lifted (os : Os) (started : os.Started) (H : Type) (enc : TypeId × Value → H) :
    ReturnsInHanded {} Try.checked os 10 .any (Rows.bestGreatestSpec.pre6 enc Try.prog Try.f10 Rows.bestGreatestRow.domain false) (Rows.bestGreatestSpec.post enc Try.prog Try.f10 false true false false) := by
  refine returnsInHanded_of_change (C := Try.checked) own_knob started (by kernel_rfl) Try.func10
    (ChangeSpec.witness6 (enc := enc) (C := Try.checked) false ⟨#[], #[.agg #[.slice none 0 0, .slice none 0 0, .slice none 0 0, .slice none 0 0], .slice none 0 0], []⟩ 8 (by kernel_rfl) (by kernel_rfl) (by kernel_rfl) (by kernel_rfl)) ?_
  intro W base args ds gs before hval0 hW hcnd _
  have hval : ∀ (j : Nat) t v, Try.f10.params[j]? = some t → args[j]? = some v → Value.okWide Try.prog W .any base t v := hval0
  have hW' := hW
  obtain ⟨p, q, hA0, hV, rfl, hfz, hnd⟩ := hW
  have hA : DataW.TrodAll enc Try.prog W 0 (fun _ => true) true Try.f10.params.toList args.toList ds p := hA0
  rw [Try.params10] at hA hval
  obtain ⟨v0, vs0, d0, ds0, p0, q0, hargs, rfl, rfl, h0, r0⟩ := trodAll_cons hA
  obtain ⟨v1, vs1, d1, ds1, p1, q1, rfl, rfl, rfl, h1, r1⟩ := trodAll_cons r0
  obtain ⟨rfl, rfl, rfl⟩ := trodAll_nil r1
  obtain rfl : args = #[v0, v1] := by cases args; simp_all
  obtain ⟨rfl, rfl⟩ := trodVars_none hV
  have k0 := h0
  have lt0 : ∀ x ∈ p0, x.block < W.heap.size := by obtain ⟨m, hm⟩ := k0; exact DataW.trod_lt m _ _ _ hm
  have k1 := h1
  have lt1 : ∀ x ∈ p1, x.block < W.heap.size := by obtain ⟨m, hm⟩ := k1; exact DataW.trod_lt m _ _ _ hm
  obtain ⟨s, rfl, fl, co, hf, hc⟩ := open_by (e := fun s : St => [s.f.v, s.c.v, s.s.v, s.t.v]) Try.underlying50 (dec_state Try.underlying50 (by kernel_rfl) (by kernel_rfl) Try.underlying32 Try.underlying32 Try.underlying32 Try.underlying32 Try.underlying3 (by kernel_rfl)) (hval 0 50 v0 rfl rfl) h0
  obtain ⟨A, n, ca, bs, rfl, hA1, _, hD⟩ := open_sl (k := 3) Try.underlying51 (by kernel_rfl) (by omega) (fun _ => rfl) (dec_block Try.underlying60 (by kernel_rfl) (by kernel_rfl) Try.underlying3 Try.underlying4 Try.underlying58 (by kernel_rfl) (dec_page Try.underlying64 (by kernel_rfl) (by kernel_rfl) (by kernel_rfl) (by kernel_rfl) (by kernel_rfl) (by kernel_rfl) (by kernel_rfl) Try.underlying3 (dec_ints4 (e := fun x : Tg => [.int .i64 x.kind, .int .i64 x.lba, .int .i64 x.seq, .int .i64 x.epoch]) Tg.mk (fun _ _ _ _ => rfl) (good := fun x => Fits x.seq) (fun _ _ _ _ _ _ h _ => h) Try.underlying62 (by kernel_rfl) (by kernel_rfl) Try.underlying3 Try.underlying3 Try.underlying3 Try.underlying3) Try.underlying9)) (hval 1 51 v1 rfl rfl) h1
  clear hA0 hval0
  refine (greatest_walk s fl co A n ca bs W hf hc hA1 (fun x hx => (hD x hx).1)).mono fun e W' ⟨he, bel⟩ => ?_
  subst he
  exact ⟨_, rfl, _, _, _, [], _, [], hW', trodAll_mk1 (shut_bool Try.underlying4 _), (trodAll_cons_mk (Below.trod laid_out (by kernel_rfl) (of_decide_eq_true (by kernel_rfl)) k0 bel lt0) (trodAll_cons_mk (Below.trod laid_out (by kernel_rfl) (of_decide_eq_true (by kernel_rfl)) k1 bel lt1) trodAll_mk0)), rfl, bel.frame _, fun h => by cases h⟩
theorem over : Rows.bestGreatestRow.holds Try.pinned (OpenSpec.ofChange Rows.bestGreatestSpec) :=
  OpenClaim.holds_of_wide 10 Try.f10 rfl rfl rfl rfl rfl rfl rfl ⟨rfl, rfl, rfl, rfl, rfl⟩ rfl rfl rfl rfl rfl (by kernel_rfl) Try.func10 (by kernel_rfl)
    (of_decide_eq_true (by kernel_rfl)) (by unfold Func.isWrapper; first | (rw [if_pos (by decide +kernel)]; kernel_rfl) | (rw [if_neg (by decide +kernel)]; exact ⟨rfl, rfl⟩))
    (fun os started H enc _ => lifted os started H enc)
theorem proved : Rows.BestGreatestSaid := over
end bestGreatestDone
#print axioms bestGreatestDone.proved
end Go.Proofs.Ytdjfkehbknbocaa

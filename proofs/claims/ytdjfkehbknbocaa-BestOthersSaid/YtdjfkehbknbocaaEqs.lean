/- '==' at this program's structs of whole numbers. -/
import Derived.Test.YtdjfkehbknbocaaProg
import Derived.Test.YtdjfkehbknbocaaLib
import Derived.Laws.StructEq
namespace Go.Proofs.Ytdjfkehbknbocaa
open Go.RowKit
section
variable {P : Program} {d : Nat} {xs ys : Array Value} {f : Field} {fs : List Field} {a b : Value} {r s : Bool} {w : World}
theorem eqf_nil : (Op.eqFields d xs ys []).run P w = .ok true w := by simp [Op.eqFields]
theorem eqf_cons (hn : (f.name == "_") = false) (ha : (part f.type xs f.offset).run P w = .ok a w) (hb : (part f.type ys f.offset).run P w = .ok b w) (he : (Op.equalIn d f.type a b).run P w = .ok r w) (hr : (Op.eqFields d xs ys fs).run P w = .ok s w) : (Op.eqFields d xs ys (f :: fs)).run P w = .ok (r && s) w := by
  have hn' : f.name ≠ "_" := by simpa using hn
  rw [Op.eqFields]
  simp only [if_pos hn', Sem.run_bind, ha, hb, he, Result.andThen_ok]
  cases r
  · simp
  · simpa using hr
theorem part_one {t : TypeId} {cs : Array Value} {off : Nat} {v : Value} (hA : (isAgg t).run P w = .ok false w) (h : cs[off]? = some v) : (part t cs off).run P w = .ok v w := by
  simp [part, hA, h]
theorem eqIn_int {t : TypeId} {k : IntKind} (d : Nat) (x y : Int) (h : P.underlying t = some (.int k)) : (Op.equalIn (d + 1) t (.int k x) (.int k y)).run P w = .ok (x == y) w := by
  simp [Op.equalIn, run_underlying h]
theorem eqIn_bool {t : TypeId} (d : Nat) (x y : Bool) (h : P.underlying t = some .bool) : (Op.equalIn (d + 1) t (.bool x) (.bool y)).run P w = .ok (x == y) w := by
  simp [Op.equalIn, run_underlying h]
theorem eqIn_string {t : TypeId} (d : Nat) (x y : ByteArray) (h : P.underlying t = some .string) : (Op.equalIn (d + 1) t (.string x) (.string y)).run P w = .ok (x == y) w := by
  simp [Op.equalIn, run_underlying h]
theorem eqf_int {k : IntKind} (x y : Int) (hn : (f.name == "_") = false) (hA : (isAgg f.type).run P w = .ok false w) (hu : P.underlying f.type = some (.int k)) (hx : xs[f.offset]? = some (.int k x)) (hy : ys[f.offset]? = some (.int k y)) (hr : (Op.eqFields (d + 1) xs ys fs).run P w = .ok s w) :
    (Op.eqFields (d + 1) xs ys (f :: fs)).run P w = .ok (x == y && s) w := eqf_cons hn (part_one hA hx) (part_one hA hy) (eqIn_int d x y hu) hr
theorem eqf_string (x y : ByteArray) (hn : (f.name == "_") = false) (hA : (isAgg f.type).run P w = .ok false w) (hu : P.underlying f.type = some .string) (hx : xs[f.offset]? = some (.string x)) (hy : ys[f.offset]? = some (.string y)) (hr : (Op.eqFields (d + 1) xs ys fs).run P w = .ok s w) :
    (Op.eqFields (d + 1) xs ys (f :: fs)).run P w = .ok (x == y && s) w := eqf_cons hn (part_one hA hx) (part_one hA hy) (eqIn_string d x y hu) hr
theorem eq_struct {t : TypeId} {fs : Array Field} (hu : P.underlying t = some (.struct fs)) (hp : P.stoodInHeld t = false) (h : (Op.eqFields (9998 + 1) xs ys fs.toList).run P w = .ok r w) : (binOp .eql t (.agg xs) (.agg ys)).run P w = .ok (.bool r) w := by
  have hf : P.fieldsOf t = fs := by simp [Program.fieldsOf, hu]
  have h1 : (Op.equalIn (9999 + 1) t (.agg xs) (.agg ys)).run P w = .ok r w := by
    rw [run_equalIn_struct (P := P) w 9999 t xs ys (by rw [hf]; exact hu) hp, hf]
    exact h
  simp only [binOp]
  simp [Op.equal, Op.maxDepth, h1]
end

theorem eqHealth (a0 a1 a2 a3 a4 a5 a6 b0 b1 b2 b3 b4 b5 b6 : Int) (w : World) :
    (binOp .eql 35 (.agg #[.int .i64 a0, .int .i64 a1, .int .i64 a2, .int .i64 a3, .int .i64 a4, .int .i64 a5, .int .i64 a6]) (.agg #[.int .i64 b0, .int .i64 b1, .int .i64 b2, .int .i64 b3, .int .i64 b4, .int .i64 b5, .int .i64 b6])).run Try.prog w
      = .ok (.bool (a0 == b0 && (a1 == b1 && (a2 == b2 && (a3 == b3 && (a4 == b4 && (a5 == b5 && (a6 == b6 && true)))))))) w :=
  eq_struct Try.underlying35 (by kernel_rfl) (eqf_int a0 b0 rfl (Try.isAgg3 _) Try.underlying3 rfl rfl (eqf_int a1 b1 rfl (Try.isAgg3 _) Try.underlying3 rfl rfl (eqf_int a2 b2 rfl (Try.isAgg3 _) Try.underlying3 rfl rfl
    (eqf_int a3 b3 rfl (Try.isAgg3 _) Try.underlying3 rfl rfl (eqf_int a4 b4 rfl (Try.isAgg3 _) Try.underlying3 rfl rfl (eqf_int a5 b5 rfl (Try.isAgg3 _) Try.underlying3 rfl rfl (eqf_int a6 b6 rfl (Try.isAgg3 _) Try.underlying3 rfl rfl eqf_nil)))))))
theorem eqFault (a0 a1 a2 a3 b0 b1 b2 b3 : Int) (w : World) :
    (binOp .eql 26 (.agg #[.int .i64 a0, .int .i64 a1, .int .i64 a2, .int .i64 a3]) (.agg #[.int .i64 b0, .int .i64 b1, .int .i64 b2, .int .i64 b3])).run Try.prog w
      = .ok (.bool (a0 == b0 && (a1 == b1 && (a2 == b2 && (a3 == b3 && true))))) w :=
  eq_struct Try.underlying26 (by kernel_rfl) (eqf_int a0 b0 rfl (Try.isAgg3 _) Try.underlying3 rfl rfl (eqf_int a1 b1 rfl (Try.isAgg3 _) Try.underlying3 rfl rfl (eqf_int a2 b2 rfl (Try.isAgg3 _) Try.underlying3 rfl rfl
    (eqf_int a3 b3 rfl (Try.isAgg3 _) Try.underlying3 rfl rfl eqf_nil))))
end Go.Proofs.Ytdjfkehbknbocaa

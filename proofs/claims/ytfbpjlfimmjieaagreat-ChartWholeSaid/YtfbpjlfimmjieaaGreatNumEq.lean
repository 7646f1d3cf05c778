/- Equality of genus.Numbers. -/
import Derived.Test.YtfbpjlfimmjieaaGreatBase
import Derived.ChangeKeysEq
import Derived.Laws.StructEq
namespace Go.Proofs.YtfbpjlfimmjieaaGreat
set_option linter.unusedVariables false
set_option linter.unusedSimpArgs false
open Go.RowKit
theorem part_int (cs : Array Value) (k : Nat) (v : Value) (w : World) (h : cs[k]? = some v) : (part 3 cs k).run Tryz.prog w = .ok v w := by
  simp [part, Sem.run_bind, Tryz.isAgg3, h]
theorem num_fields : (Tryz.prog.fieldsOf 88).toList.map (fun f => (f.name, f.type, f.offset)) = [("V", 3, 0), ("E", 3, 1), ("F", 3, 2), ("Borders", 3, 3), ("Euler", 3, 4), ("Genus", 3, 5)] := by kernel_rfl
theorem eqf_cons {d : Nat} {xs ys : Array Value} {f : Field} {fs : List Field} {s : String} {k : Nat} {a b : Int} {w : World} {r : Bool} (hf : (f.name, f.type, f.offset) = (s, 3, k)) (hs : s ≠ "_") (hx : xs[k]? = some (.int .i64 a)) (hy : ys[k]? = some (.int .i64 b)) (h : (Op.eqFields (d + 1) xs ys fs).run Tryz.prog w = .ok r w) :
    (Op.eqFields (d + 1) xs ys (f :: fs)).run Tryz.prog w = .ok (a == b && r) w := by
  have hu : Tryz.prog.underlying 3 = some (.int .i64) := by kernel_rfl
  simp only [Prod.mk.injEq] at hf
  obtain ⟨rfl, h2, rfl⟩ := hf
  simp only [Op.eqFields, hs, ne_eq, not_false_eq_true, if_true, h2, Sem.run_bind, part_int _ _ _ _ hx, part_int _ _ _ _ hy, Result.andThen_ok, run_equalIn_int (P := Tryz.prog) _ _ _ _ _ _ _ hu]
  by_cases e : a = b
  · simp [e, h]
  · simp [e]
theorem num_equal (a0 a1 a2 a3 a4 a5 b0 b1 b2 b3 b4 b5 : Int) (w : World) :
    (Op.equalIn 10000 88 (.agg #[.int .i64 a0, .int .i64 a1, .int .i64 a2, .int .i64 a3, .int .i64 a4, .int .i64 a5]) (.agg #[.int .i64 b0, .int .i64 b1, .int .i64 b2, .int .i64 b3, .int .i64 b4, .int .i64 b5])).run Tryz.prog w = .ok (a0 == b0 && (a1 == b1 && (a2 == b2 && (a3 == b3 && (a4 == b4 && (a5 == b5 && true)))))) w := by
  rw [run_equalIn_struct w 9999 88 _ _ (by kernel_rfl) (by kernel_rfl)]
  have hf := num_fields
  generalize (Tryz.prog.fieldsOf 88).toList = fs at hf
  have hlen : fs.length = 6 := by simpa using congrArg List.length hf
  match fs, hlen, hf with
  | [f0, f1, f2, f3, f4, f5], _, hf =>
    simp only [List.map_cons, List.map_nil, List.cons.injEq, and_true] at hf
    obtain ⟨h0, h1, h2, h3, h4, h5⟩ := hf
    exact eqf_cons h0 (by decide) rfl rfl (eqf_cons h1 (by decide) rfl rfl (eqf_cons h2 (by decide) rfl rfl (eqf_cons h3 (by decide) rfl rfl (eqf_cons h4 (by decide) rfl rfl (eqf_cons h5 (by decide) rfl rfl rfl)))))
end Go.Proofs.YtfbpjlfimmjieaaGreat

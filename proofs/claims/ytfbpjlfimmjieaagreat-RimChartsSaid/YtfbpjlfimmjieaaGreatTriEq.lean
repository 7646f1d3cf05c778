/- Equality of triangles by value. -/
import Derived.Test.YtfbpjlfimmjieaaGreatBase
import Derived.Test.YtfbpjlfimmjieaaGreatIntsDef
import Derived.ChangeKeysEq
import Derived.Laws.StructEq
namespace Go.Proofs.YtfbpjlfimmjieaaGreat
set_option linter.unusedVariables false
set_option linter.unusedSimpArgs false
open Go.RowKit
theorem part_tri (a b c : Value) (w : World) : (part 3 #[a, b, c] 0).run Tryz.prog w = .ok a w ∧ (part 3 #[a, b, c] 1).run Tryz.prog w = .ok b w ∧ (part 3 #[a, b, c] 2).run Tryz.prog w = .ok c w := ⟨by kernel_rfl, by kernel_rfl, by kernel_rfl⟩
theorem tri_equal (x y z x' y' z' : Int) (w : World) :
    (Op.equalIn 10000 49 (.agg #[.int .i64 x, .int .i64 y, .int .i64 z]) (.agg #[.int .i64 x', .int .i64 y', .int .i64 z'])).run Tryz.prog w = .ok (x == x' && (y == y' && z == z')) w := by
  obtain ⟨i0, hi, -⟩ := info_parts info3
  have hc : Tryz.prog.cellsOf 3 = 1 := by kernel_rfl
  have hu : Tryz.prog.underlying 3 = some (.int .i64) := by kernel_rfl
  rw [run_equalIn_array (P := Tryz.prog) w 9999 (t := 49) (e := 3) (n := 3) (i := i0) _ _ (by kernel_rfl) hi, hc]
  simp only [List.range_succ, List.range_zero, List.nil_append, List.cons_append, Op.eqItems, Sem.run_bind, Nat.mul_one, (part_tri _ _ _ _).1, (part_tri _ _ _ _).2.1, (part_tri _ _ _ _).2.2, Result.andThen_ok, run_equalIn_int (P := Tryz.prog) _ _ _ _ _ _ _ hu]
  by_cases h1 : x = x' <;> by_cases h2 : y = y' <;> by_cases h3 : z = z' <;> simp [h1, h2, h3, (part_tri _ _ _ _).2.1, (part_tri _ _ _ _).2.2, run_equalIn_int (P := Tryz.prog) _ _ _ _ _ _ _ hu]
end Go.Proofs.YtfbpjlfimmjieaaGreat

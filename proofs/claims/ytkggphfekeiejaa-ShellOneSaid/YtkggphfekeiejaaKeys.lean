/- The kinds of keys: an int; an edge; a pair; three numbers. -/
import Derived.Test.YtkggphfekeiejaaMapLaw
namespace Go.Proofs.Ytkggphfekeiejaa
set_option linter.unusedVariables false
set_option linter.unusedSimpArgs false
open Go.RowKit Go.Maps
theorem laidOut : laidOutB Try.prog = true := by kernel_rfl
/-- A number that an int holds. -/
def I64 (x : Int) : Prop := -9223372036854775808 ≤ x ∧ x ≤ 9223372036854775807
theorem I64.wf {x : Int} (h : I64 x) : (Lit.int .i64 x).wf = true := by
  obtain ⟨h1, h2⟩ := h
  exact WalkArith.wf_i64 (by omega)
theorem keyLits_int (d : Nat) {x : Int} (h : I64 x) : Try.prog.keyLits (d + 1) 3 [.int .i64 x] = some [.int .i64 x] := by
  have hu : Try.prog.underlying 3 = some (.int .i64) := by kernel_rfl
  simp [Program.keyLits, hu, h.wf]
def intFam : KeyFam 3 Int where
  kv a := .int .i64 a
  ok := I64
  keyed := int_keyed (q := .i64) (by kernel_rfl)
  rd a h := ⟨.int .i64 a, by
    have hu : Try.prog.underlying 3 = some (.int .i64) := by kernel_rfl
    simp [keyOf, hu, mapKey, h.wf]⟩
  inj a b h := by simpa using h
def edgeFam : KeyFam 74 (Int × Int) where
  kv a := .agg #[.int .i64 a.1, .int .i64 a.2]
  ok a := I64 a.1 ∧ I64 a.2
  keyed := Keyed.of_law (deep_law_laid laidOut (m := 2) (by omega) (of_decide_eq_true (by kernel_rfl)) (by kernel_rfl) (by kernel_rfl))
  rd a h := by
    have hu : Try.prog.underlying 74 = some (.array 2 3) := by kernel_rfl
    have hk : Try.prog.keyType 74 = true := by kernel_rfl
    have hf : (Value.agg #[.int .i64 a.1, .int .i64 a.2]).formed Try.prog 74 = true := by kernel_rfl
    have hc : Try.prog.cellsOf 74 = 2 := by kernel_rfl
    have hc3 : Try.prog.cellsOf 3 = 1 := by kernel_rfl
    rw [keyOf, hu]
    simp only [hk, hf, Value.cells, Program.keyLits, hu, hc, hc3, Bool.and_self, if_true]
    simp [List.range_succ, keyLits_int _ h.1, keyLits_int _ h.2]
  inj a b h := by
    obtain ⟨a1, a2⟩ := a
    simp at h
    exact Prod.ext h.1 h.2
def triFam : KeyFam 48 (Int × Int × Int) where
  kv a := .agg #[.int .i64 a.1, .int .i64 a.2.1, .int .i64 a.2.2]
  ok a := I64 a.1 ∧ I64 a.2.1 ∧ I64 a.2.2
  keyed := Keyed.of_law (deep_law_laid laidOut (m := 2) (by omega) (of_decide_eq_true (by kernel_rfl)) (by kernel_rfl) (by kernel_rfl))
  rd a h := by
    have hu : Try.prog.underlying 48 = some (.array 3 3) := by kernel_rfl
    have hk : Try.prog.keyType 48 = true := by kernel_rfl
    have hf : (Value.agg #[.int .i64 a.1, .int .i64 a.2.1, .int .i64 a.2.2]).formed Try.prog 48 = true := by kernel_rfl
    have hc : Try.prog.cellsOf 48 = 3 := by kernel_rfl
    have hc3 : Try.prog.cellsOf 3 = 1 := by kernel_rfl
    rw [keyOf, hu]
    simp only [hk, hf, Value.cells, Program.keyLits, hu, hc, hc3, Bool.and_self, if_true]
    simp [List.range_succ, keyLits_int _ h.1, keyLits_int _ h.2.1, keyLits_int _ h.2.2]
  inj a b h := by
    obtain ⟨a1, a2, a3⟩ := a
    simp at h
    exact Prod.ext h.1 (Prod.ext h.2.1 h.2.2)
end Go.Proofs.Ytkggphfekeiejaa

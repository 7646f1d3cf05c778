/- Words and small laws that all walks of this seat share: triangles in memory, tables, worlds that only grow. Equality of genus.Numbers. -/
import Derived.Test.YtkjamheoihlekaaGreatProg
import Derived.WalkKit
import Derived.WalkSpells
import Derived.WalkLawsBesides
import Derived.Lib.Hide
import Derived.Deep.QuietTactic
import Derived.BigQuiet
import Derived.ChangeKeysEq
import Derived.Laws.StructEq
namespace Go.Proofs.YtkjamheoihlekaaGreat
set_option linter.unusedVariables false
set_option linter.unusedSimpArgs false
open Go.RowKit

/-- A triangle: its three vertices. -/
abbrev Tr := Int × Int × Int
def tg (t : Tr) : Nat → Int
  | 0 => t.1
  | 1 => t.2.1
  | _ => t.2.2
/-- The triangle with a number. -/
def T! (T : List Tr) (i : Nat) : Tr := T.getD i (0, 0, 0)
/-- The cells of a list of triangles lie at an address. -/
def TrisAt (w : World) (ao : Option Addr) (T : List Tr) : Prop :=
  T ≠ [] → ∃ b off, ao = some ⟨b, off, none⟩ ∧ b < w.heap.size ∧ ∀ i, i < T.length →
    w.cell? ⟨b, off + i * 3, none⟩ = some (.int .i64 (T! T i).1) ∧
    w.cell? ⟨b, off + i * 3 + 1, none⟩ = some (.int .i64 (T! T i).2.1) ∧
    w.cell? ⟨b, off + i * 3 + 2, none⟩ = some (.int .i64 (T! T i).2.2)
theorem TrisAt.mono {w w' : World} {ao : Option Addr} {T : List Tr} {B : Nat} (h : TrisAt w ao T) (hB : w.heap.size ≤ B) (hb : Below B w w') : TrisAt w' ao T := by
  intro hT
  obtain ⟨b, off, rfl, hlt, hc⟩ := h hT
  refine ⟨b, off, rfl, by have := hb.size; omega, fun i hi => ?_⟩
  obtain ⟨h0, h1, h2⟩ := hc i hi
  exact ⟨(hb.cell (p := ⟨b, _, none⟩) (show b < B by omega)).trans h0, (hb.cell (p := ⟨b, _, none⟩) (show b < B by omega)).trans h1, (hb.cell (p := ⟨b, _, none⟩) (show b < B by omega)).trans h2⟩
/-- One triangle's cells, in a world that grew. -/
theorem TrisAt.get {w wr : World} {ao : Option Addr} {T : List Tr} (h : TrisAt w ao T) {B : Nat} (hB : w.heap.size ≤ B) (hb : Below B w wr) {i : Nat} (hi : i < T.length) :
    ∃ b off x y z, ao = some ⟨b, off, none⟩ ∧ Hid (T! T i = (x, y, z)) ∧ wr.cell? ⟨b, off + i * 3, none⟩ = some (.int .i64 x) ∧
      wr.cell? ⟨b, off + i * 3 + 1, none⟩ = some (.int .i64 y) ∧ wr.cell? ⟨b, off + i * 3 + 2, none⟩ = some (.int .i64 z) ∧ b < w.heap.size ∧ b < wr.heap.size := by
  obtain ⟨b, off, rfl, hlt, hc⟩ := (h.mono hB hb) (by intro e; simp [e] at hi)
  obtain ⟨b', off', e, hlt', -⟩ := h (by intro e; simp [e] at hi)
  cases e
  exact ⟨b, off, _, _, _, rfl, rfl, (hc i hi).1, (hc i hi).2.1, (hc i hi).2.2, hlt', hlt⟩
/-- One vertex of one triangle. -/
theorem TrisAt.at {w : World} {ao : Option Addr} {T : List Tr} (h : TrisAt w ao T) {i j : Nat} (hi : i < T.length) (hj : j < 3) :
    ∃ b off, ao = some ⟨b, off, none⟩ ∧ w.cell? ⟨b, off + i * 3 + j, none⟩ = some (.int .i64 (tg (T! T i) j)) ∧ b < w.heap.size := by
  obtain ⟨b, off, rfl, hlt, hc⟩ := h (by intro e; simp [e] at hi)
  refine ⟨b, off, rfl, ?_, hlt⟩
  match j, hj with
  | 0, _ => exact (hc i hi).1
  | 1, _ => exact (hc i hi).2.1
  | 2, _ => exact (hc i hi).2.2
/-- A table's surface. -/
def TabS (w : World) (b : Nat) (N : Int) (T : List Tr) : Prop :=
  ∃ ao cap, w.cell? ⟨b, 0, none⟩ = some (.int .i64 N) ∧ w.cell? ⟨b, 1, none⟩ = some (.slice ao T.length cap) ∧ TrisAt w ao T ∧ b < w.heap.size
theorem TabS.mono {w w' : World} {b : Nat} {N : Int} {T : List Tr} {B : Nat} (h : TabS w b N T) (hB : w.heap.size ≤ B) (hb : Below B w w') : TabS w' b N T := by
  obtain ⟨ao, cap, h0, h1, h2, h3⟩ := h
  exact ⟨ao, cap, (hb.cell (p := ⟨b, _, none⟩) (show b < B by omega)).trans h0, (hb.cell (p := ⟨b, _, none⟩) (show b < B by omega)).trans h1, h2.mono hB hb, by have := hb.size; omega⟩
theorem Below.down {w a b : World} {B : Nat} (h : Below w.heap.size w a) (k : Below a.heap.size a b) (hB : B ≤ w.heap.size) : Below B w b :=
  (h.trans (k.mono h.size)).mono hB
theorem bcell {W w1 : World} (hb : Below W.heap.size W w1) : (∀ b o, b < W.heap.size → w1.cell? ⟨b, o, none⟩ = W.cell? ⟨b, o, none⟩) ∧ (∀ b o, b < W.heap.size → w1.frozen? ⟨b, o, none⟩ = W.frozen? ⟨b, o, none⟩) :=
  ⟨fun b o h => hb.cell (p := ⟨b, o, none⟩) h, fun b o h => hb.frozen (p := ⟨b, o, none⟩) h⟩
/-- A list gathered step by step. -/
def gather {α : Type} (f : Nat → List α) (k : Nat) : List α := (List.range k).flatMap f
theorem gather_succ {α : Type} (f : Nat → List α) (k : Nat) : gather f (k + 1) = gather f k ++ f k := by simp [gather, List.range_succ]
theorem info3 : (Tryz.prog.info? 3).map (fun i => (i.zero, i.size, i.bytes)) = some (some (.int .i64 0), 1, 8) := by kernel_rfl
theorem part_int (cs : Array Value) (k : Nat) (v : Value) (w : World) (h : cs[k]? = some v) : (part 3 cs k).run Tryz.prog w = .ok v w := by
  simp [part, Sem.run_bind, Tryz.isAgg3, h]
theorem num_fields : (Tryz.prog.fieldsOf 64).toList.map (fun f => (f.name, f.type, f.offset)) = [("V", 3, 0), ("E", 3, 1), ("F", 3, 2), ("Borders", 3, 3), ("Euler", 3, 4), ("Genus", 3, 5)] := by kernel_rfl
theorem eqf_cons {d : Nat} {xs ys : Array Value} {f : Field} {fs : List Field} {s : String} {k : Nat} {a b : Int} {w : World} {r : Bool} (hf : (f.name, f.type, f.offset) = (s, 3, k)) (hs : s ≠ "_") (hx : xs[k]? = some (.int .i64 a)) (hy : ys[k]? = some (.int .i64 b)) (h : (Op.eqFields (d + 1) xs ys fs).run Tryz.prog w = .ok r w) :
    (Op.eqFields (d + 1) xs ys (f :: fs)).run Tryz.prog w = .ok (a == b && r) w := by
  have hu : Tryz.prog.underlying 3 = some (.int .i64) := by kernel_rfl
  simp only [Prod.mk.injEq] at hf
  obtain ⟨rfl, h2, rfl⟩ := hf
  simp only [Op.eqFields, hs, ne_eq, not_false_eq_true, if_true, h2, Sem.run_bind, part_int _ _ _ _ hx, part_int _ _ _ _ hy, Result.andThen_ok, run_equalIn_int (P := Tryz.prog) _ _ _ _ _ _ _ hu]
  by_cases e : a = b
  · simp [e, h]
  · simp [e]
theorem num_equal (a0 a1 a2 a3 a4 a5 b0 b1 b2 b3 b4 b5 : Int) (w : World) :
    (Op.equalIn 10000 64 (.agg #[.int .i64 a0, .int .i64 a1, .int .i64 a2, .int .i64 a3, .int .i64 a4, .int .i64 a5]) (.agg #[.int .i64 b0, .int .i64 b1, .int .i64 b2, .int .i64 b3, .int .i64 b4, .int .i64 b5])).run Tryz.prog w = .ok (a0 == b0 && (a1 == b1 && (a2 == b2 && (a3 == b3 && (a4 == b4 && (a5 == b5 && true)))))) w := by
  rw [run_equalIn_struct w 9999 64 _ _ (by kernel_rfl) (by kernel_rfl)]
  have hf := num_fields
  generalize (Tryz.prog.fieldsOf 64).toList = fs at hf
  have hlen : fs.length = 6 := by simpa using congrArg List.length hf
  match fs, hlen, hf with
  | [f0, f1, f2, f3, f4, f5], _, hf =>
    simp only [List.map_cons, List.map_nil, List.cons.injEq, and_true] at hf
    obtain ⟨h0, h1, h2, h3, h4, h5⟩ := hf
    exact eqf_cons h0 (by decide) rfl rfl (eqf_cons h1 (by decide) rfl rfl (eqf_cons h2 (by decide) rfl rfl (eqf_cons h3 (by decide) rfl rfl (eqf_cons h4 (by decide) rfl rfl (eqf_cons h5 (by decide) rfl rfl rfl)))))
end Go.Proofs.YtkjamheoihlekaaGreat

/- Surfaces: what the words mean. Plain. -/
import Derived.Test.YtknioobpoieohaaRowl
import Derived.Test.YtknioobpoieohaaFacing
namespace Go.Proofs.Ytknioobpoieohaa
set_option linter.unusedVariables false
set_option linter.unusedSimpArgs false
open Go.RowKit
def hasB (t : Tr) (v : Int) : Bool := t.1 == v || t.2.1 == v || t.2.2 == v
def edgeB (t : Tr) (a b : Int) : Bool := t.1 == a && t.2.1 == b || t.2.1 == a && t.2.2 == b || t.2.2 == a && t.1 == b
def twB (t u : Tr) : Bool := edgeB u t.1 t.2.1 || edgeB u t.2.1 t.2.2 || edgeB u t.2.2 t.1
def mirB (t u : Tr) : Bool := hasB u t.1 && hasB u t.2.1 && hasB u t.2.2
theorem VIn.of_three {N : Int} {T : List Tr} (h : ∀ i, i < T.length → ∀ j, j < 3 → 0 ≤ tg (T! T i) j ∧ tg (T! T i) j < N) : VIn N T := fun i hi j => by
  match j with
  | 0 => exact h i hi 0 (by omega)
  | 1 => exact h i hi 1 (by omega)
  | 2 => exact h i hi 2 (by omega)
  | j + 3 => exact h i hi 2 (by omega)
/-- Two triangles at v with another vertex in common. -/
def PAdj (T : List Tr) (v : Int) (i k : Nat) : Prop := i < T.length ∧ k < T.length ∧ hasB (T! T i) v = true ∧ hasB (T! T k) v = true ∧ ∃ j, j < 3 ∧ tg (T! T i) j ≠ v ∧ hasB (T! T k) (tg (T! T i) j) = true
/-- All triangles at v hang together there. -/
def Unpinched (T : List Tr) (v : Int) : Prop := ∀ i k, i < T.length → k < T.length → hasB (T! T i) v = true → hasB (T! T k) v = true → Conn (PAdj T v) i k
def loopB (t : Tr) : Bool := t.1 == t.2.1 || t.2.1 == t.2.2 || t.2.2 == t.1
/-- The triangles are an oriented surface. -/
structure Surf (N : Int) (T : List Tr) : Prop where
  n0 : 0 ≤ N
  n1 : N ≤ 4096
  t1 : T.length ≤ 8192
  vin : VIn N T
  noloop : ∀ i, i < T.length → loopB (T! T i) = false
  tw : ∀ b a, b < T.length → a < b → twB (T! T a) (T! T b) = false
  mir : ∀ b a, b < T.length → a < b → mirB (T! T a) (T! T b) = false
  used : ∀ v, 0 ≤ v → v < N → ∃ i, i < T.length ∧ hasB (T! T i) v = true
  pin : ∀ v, 0 ≤ v → v < N → Unpinched T v
def anyB (T : List Tr) (v : Int) (k : Nat) : Bool := (List.range k).any fun i => hasB (T! T i) v
theorem anyB_succ (T : List Tr) (v : Int) (k : Nat) : anyB T v (k + 1) = (anyB T v k || hasB (T! T k) v) := by simp [anyB, List.range_succ]
theorem anyB_some {T : List Tr} {v : Int} {k : Nat} (h : anyB T v k = true) : ∃ i, i < k ∧ hasB (T! T i) v = true := by simpa [anyB] using h
end Go.Proofs.Ytknioobpoieohaa

/- The reference's small tests on triangles (gypsumref09: Has, Edge, twice). -/
import Derived.Test.YtkggphfekeiejaaBase
namespace Go.Proofs.Ytkggphfekeiejaa
set_option linter.unusedVariables false
set_option linter.unusedSimpArgs false
open Go.RowKit
def hasB (t : Tr) (v : Int) : Bool := t.1 == v || t.2.1 == v || t.2.2 == v
def edgeB (t : Tr) (a b : Int) : Bool := t.1 == a && t.2.1 == b || t.2.1 == a && t.2.2 == b || t.2.2 == a && t.1 == b
def twB (t u : Tr) : Bool := edgeB u t.1 t.2.1 || edgeB u t.2.1 t.2.2 || edgeB u t.2.2 t.1
set_option maxHeartbeats 400000 in
theorem has_tri (x y z v : Int) (w : World) :
    Calls Try.prog 59 #[.agg #[.int .i64 x, .int .i64 y, .int .i64 z], .int .i64 v] w fun e w' => e = .returned (.bool (hasB (x, y, z) v)) ∧ Below w.heap.size w w' := by
  obtain ⟨r, hr⟩ : ∃ r, r = hasB (x, y, z) v := ⟨_, rfl⟩
  rw [← hr]
  unfold hasB at hr
  simp only at hr
  cases h1 : x == v <;> cases h2 : y == v <;> cases h3 : z == v <;> simp only [h1, h2, h3, Bool.or_false, Bool.or_true] at hr <;> subst hr
  all_goals
    go_enter Try.func59, Try.ntmps59
    go_wp2
    go_ret
    exact ⟨rfl, (Below.refl _ _).alloc (Nat.le_refl _) _⟩
set_option maxHeartbeats 2000000 in
theorem edge_tri (x y z a b : Int) (w : World) :
    Calls Try.prog 95 #[.agg #[.int .i64 x, .int .i64 y, .int .i64 z], .int .i64 a, .int .i64 b] w fun e w' => e = .returned (.bool (edgeB (x, y, z) a b)) ∧ Below w.heap.size w w' := by
  obtain ⟨r, hr⟩ : ∃ r, r = edgeB (x, y, z) a b := ⟨_, rfl⟩
  rw [← hr]
  unfold edgeB at hr
  simp only at hr
  cases h1 : x == a <;> cases h2 : y == b <;> cases h3 : y == a <;> cases h4 : z == b <;> cases h5 : z == a <;> cases h6 : x == b <;>
    simp only [h1, h2, h3, h4, h5, h6, Bool.or_false, Bool.or_true, Bool.and_true, Bool.and_false, Bool.and_self] at hr <;> subst hr
  all_goals
    go_enter Try.func95, Try.ntmps95
    go_wp2
    go_ret
    exact ⟨rfl, (Below.refl _ _).alloc (Nat.le_refl _) _⟩
end Go.Proofs.Ytkggphfekeiejaa

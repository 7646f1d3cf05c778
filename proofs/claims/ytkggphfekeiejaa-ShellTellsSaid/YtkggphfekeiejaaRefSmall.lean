/- The reference's small tests on triangles (gypsumref09: Has, Edge, twice). gypsumref09.twice: have two triangles a directed edge in common? -/
import Derived.Test.YtkggphfekeiejaaBase
namespace Go.Proofs.Ytkggphfekeiejaa
set_option linter.unusedVariables false
set_option linter.unusedSimpArgs false
open Go.RowKit
def hasB (t : Tr) (v : Int) : Bool := t.1 == v || t.2.1 == v || t.2.2 == v
def edgeB (t : Tr) (a b : Int) : Bool := t.1 == a && t.2.1 == b || t.2.1 == a && t.2.2 == b || t.2.2 == a && t.1 == b
def twB (t u : Tr) : Bool := edgeB u t.1 t.2.1 || edgeB u t.2.1 t.2.2 || edgeB u t.2.2 t.1
set_option maxHeartbeats 400000 in
theorem has_tri (x y z v : Int) (w : World) :
    Calls Try.prog 59 #[.agg #[.int .i64 x, .int .i64 y, .int .i64 z], .int .i64 v] w fun e w' => e = .returned (.bool (hasB (x, y, z) v)) ∧ Below w.heap.size w w' := by
  obtain ⟨r, hr⟩ : ∃ r, r = hasB (x, y, z) v := ⟨_, rfl⟩
  rw [← hr]
  unfold hasB at hr
  simp only at hr
  cases h1 : x == v <;> cases h2 : y == v <;> cases h3 : z == v <;> simp only [h1, h2, h3, Bool.or_false, Bool.or_true] at hr <;> subst hr
  all_goals
    go_enter Try.func59, Try.ntmps59
    go_wp2
    go_ret
    exact ⟨rfl, (Below.refl _ _).alloc (Nat.le_refl _) _⟩
set_option maxHeartbeats 2000000 in
theorem edge_tri (x y z a b : Int) (w : World) :
    Calls Try.prog 95 #[.agg #[.int .i64 x, .int .i64 y, .int .i64 z], .int .i64 a, .int .i64 b] w fun e w' => e = .returned (.bool (edgeB (x, y, z) a b)) ∧ Below w.heap.size w w' := by
  obtain ⟨r, hr⟩ : ∃ r, r = edgeB (x, y, z) a b := ⟨_, rfl⟩
  rw [← hr]
  unfold edgeB at hr
  simp only at hr
  cases h1 : x == a <;> cases h2 : y == b <;> cases h3 : y == a <;> cases h4 : z == b <;> cases h5 : z == a <;> cases h6 : x == b <;>
    simp only [h1, h2, h3, h4, h5, h6, Bool.or_false, Bool.or_true, Bool.and_true, Bool.and_false, Bool.and_self] at hr <;> subst hr
  all_goals
    go_enter Try.func95, Try.ntmps95
    go_wp2
    go_ret
    exact ⟨rfl, (Below.refl _ _).alloc (Nat.le_refl _) _⟩
set_option maxHeartbeats 1000000 in
theorem twice_tri (x y z a b c : Int) (w : World) :
    Calls Try.prog 84 #[.agg #[.int .i64 x, .int .i64 y, .int .i64 z], .agg #[.int .i64 a, .int .i64 b, .int .i64 c]] w fun e w' => e = .returned (.bool (twB (x, y, z) (a, b, c))) ∧ Below w.heap.size w w' := by
  obtain ⟨r, hr⟩ : ∃ r, r = twB (x, y, z) (a, b, c) := ⟨_, rfl⟩
  rw [← hr]
  unfold twB at hr
  simp only at hr
  have e1 := fun w => edge_tri a b c x y w
  have e2 := fun w => edge_tri a b c y z w
  have e3 := fun w => edge_tri a b c z x w
  have hb0 : Below w.heap.size w ((w.alloc (.cells #[.int .i64 x, .int .i64 y, .int .i64 z] 49)).alloc (.cells #[.int .i64 a, .int .i64 b, .int .i64 c] 49)) := ((Below.refl _ _).alloc (Nat.le_refl _) _).alloc (by simp) _
  have HB0 := Lib.hid hb0
  clear hb0
  cases h1 : edgeB (a, b, c) x y
  · rw [h1] at hr e1
    simp only [Bool.false_or] at hr
    cases h2 : edgeB (a, b, c) y z
    · rw [h2] at hr e2
      simp only [Bool.false_or] at hr
      rw [← hr] at e3
      have E1 := Lib.hid e1
      have E2 := Lib.hid e2
      have E3 := Lib.hid e3
      clear h1 h2 hr e1 e2 e3
      go_enter Try.func84, Try.ntmps84
      go_wp2_with fail
      refine (E1.out _).mono ?_
      rintro e w1 ⟨rfl, hb1⟩
      have HB1 := Lib.hid hb1
      obtain ⟨hc, hf⟩ := bcell hb1
      clear hb1
      go_wp2_with fail
      refine (E2.out _).mono ?_
      rintro e w2 ⟨rfl, hb2⟩
      have HB2 := Lib.hid (HB1.out.trans (hb2.mono HB1.out.size))
      clear hb2 hc hf
      obtain ⟨hc, hf⟩ := bcell HB2.out
      go_wp2_with fail
      refine (E3.out _).mono ?_
      rintro e w3 ⟨rfl, hb3⟩
      go_wp2_with fail
      go_ret
      exact ⟨rfl, HB0.out.trans ((HB2.out.mono (by simp; omega)).trans (hb3.mono (by have := HB2.out.size; simp at this; omega)))⟩
    · rw [h2] at hr e2
      simp only [Bool.true_or] at hr
      subst hr
      have E1 := Lib.hid e1
      have E2 := Lib.hid e2
      clear h1 h2 e1 e2 e3
      go_enter Try.func84, Try.ntmps84
      go_wp2_with fail
      refine (E1.out _).mono ?_
      rintro e w1 ⟨rfl, hb1⟩
      have HB1 := Lib.hid hb1
      obtain ⟨hc, hf⟩ := bcell hb1
      clear hb1
      go_wp2_with fail
      refine (E2.out _).mono ?_
      rintro e w2 ⟨rfl, hb2⟩
      go_wp2_with fail
      go_ret
      exact ⟨rfl, HB0.out.trans ((HB1.out.mono (by simp; omega)).trans (hb2.mono (by have := HB1.out.size; simp at this; omega)))⟩
  · rw [h1] at hr e1
    simp only [Bool.true_or] at hr
    subst hr
    have E1 := Lib.hid e1
    clear h1 e1 e2 e3
    go_enter Try.func84, Try.ntmps84
    go_wp2_with fail
    refine (E1.out _).mono ?_
    rintro e w1 ⟨rfl, hb1⟩
    go_wp2_with fail
    go_ret
    exact ⟨rfl, HB0.out.trans (hb1.mono (by simp; omega))⟩
end Go.Proofs.Ytkggphfekeiejaa

/- gypsumref09.twice: have two triangles a directed edge in common? -/
import Derived.Test.YtkggphfekeiejaaRefSmall
namespace Go.Proofs.Ytkggphfekeiejaa
set_option linter.unusedVariables false
set_option linter.unusedSimpArgs false
open Go.RowKit
set_option maxHeartbeats 1000000 in
theorem twice_tri (x y z a b c : Int) (w : World) :
    Calls Try.prog 84 #[.agg #[.int .i64 x, .int .i64 y, .int .i64 z], .agg #[.int .i64 a, .int .i64 b, .int .i64 c]] w fun e w' => e = .returned (.bool (twB (x, y, z) (a, b, c))) ∧ Below w.heap.size w w' := by
  obtain ⟨r, hr⟩ : ∃ r, r = twB (x, y, z) (a, b, c) := ⟨_, rfl⟩
  rw [← hr]
  unfold twB at hr
  simp only at hr
  have e1 := fun w => edge_tri a b c x y w
  have e2 := fun w => edge_tri a b c y z w
  have e3 := fun w => edge_tri a b c z x w
  have hb0 : Below w.heap.size w ((w.alloc (.cells #[.int .i64 x, .int .i64 y, .int .i64 z] 49)).alloc (.cells #[.int .i64 a, .int .i64 b, .int .i64 c] 49)) := ((Below.refl _ _).alloc (Nat.le_refl _) _).alloc (by simp) _
  have HB0 := Lib.hid hb0
  clear hb0
  cases h1 : edgeB (a, b, c) x y
  · rw [h1] at hr e1
    simp only [Bool.false_or] at hr
    cases h2 : edgeB (a, b, c) y z
    · rw [h2] at hr e2
      simp only [Bool.false_or] at hr
      rw [← hr] at e3
      have E1 := Lib.hid e1
      have E2 := Lib.hid e2
      have E3 := Lib.hid e3
      clear h1 h2 hr e1 e2 e3
      go_enter Try.func84, Try.ntmps84
      go_wp2_with fail
      refine (E1.out _).mono ?_
      rintro e w1 ⟨rfl, hb1⟩
      have HB1 := Lib.hid hb1
      obtain ⟨hc, hf⟩ := bcell hb1
      clear hb1
      go_wp2_with fail
      refine (E2.out _).mono ?_
      rintro e w2 ⟨rfl, hb2⟩
      have HB2 := Lib.hid (HB1.out.trans (hb2.mono HB1.out.size))
      clear hb2 hc hf
      obtain ⟨hc, hf⟩ := bcell HB2.out
      go_wp2_with fail
      refine (E3.out _).mono ?_
      rintro e w3 ⟨rfl, hb3⟩
      go_wp2_with fail
      go_ret
      exact ⟨rfl, HB0.out.trans ((HB2.out.mono (by simp; omega)).trans (hb3.mono (by have := HB2.out.size; simp at this; omega)))⟩
    · rw [h2] at hr e2
      simp only [Bool.true_or] at hr
      subst hr
      have E1 := Lib.hid e1
      have E2 := Lib.hid e2
      clear h1 h2 e1 e2 e3
      go_enter Try.func84, Try.ntmps84
      go_wp2_with fail
      refine (E1.out _).mono ?_
      rintro e w1 ⟨rfl, hb1⟩
      have HB1 := Lib.hid hb1
      obtain ⟨hc, hf⟩ := bcell hb1
      clear hb1
      go_wp2_with fail
      refine (E2.out _).mono ?_
      rintro e w2 ⟨rfl, hb2⟩
      go_wp2_with fail
      go_ret
      exact ⟨rfl, HB0.out.trans ((HB1.out.mono (by simp; omega)).trans (hb2.mono (by have := HB1.out.size; simp at this; omega)))⟩
  · rw [h1] at hr e1
    simp only [Bool.true_or] at hr
    subst hr
    have E1 := Lib.hid e1
    clear h1 e1 e2 e3
    go_enter Try.func84, Try.ntmps84
    go_wp2_with fail
    refine (E1.out _).mono ?_
    rintro e w1 ⟨rfl, hb1⟩
    go_wp2_with fail
    go_ret
    exact ⟨rfl, HB0.out.trans (hb1.mono (by simp; omega))⟩
end Go.Proofs.Ytkggphfekeiejaa

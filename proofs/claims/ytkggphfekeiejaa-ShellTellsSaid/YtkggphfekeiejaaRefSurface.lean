/- gypsumref09.Surface: true only of a surface. -/
import Derived.Test.YtkggphfekeiejaaRefAll
namespace Go.Proofs.Ytkggphfekeiejaa
set_option linter.unusedVariables false
set_option linter.unusedSimpArgs false
open Go.RowKit
def YesMeans (r : Bool) (P : Prop) : Prop := r = true → P
set_option maxHeartbeats 400000 in
theorem surface_any (N : Int) (ao : Option Addr) (cap : Nat) (T : List Tr) (w : World) (hT : TrisAt w ao T) (hl : T.length ≤ 10000) :
    Calls Try.prog 26 #[.agg #[.int .i64 N, .slice ao T.length cap]] w fun e w' => ∃ r, e = .returned (.bool r) ∧ YesMeans r (Surf N T) ∧ Below w.heap.size w w' := by
  have hb0 : Below w.heap.size w (w.alloc (.cells #[.int .i64 N, .slice ao T.length cap] 24)) := (Below.refl _ _).alloc (Nat.le_refl _) _
  have HC := Lib.hid (rall_any N ao cap T (w.alloc (.cells #[.int .i64 N, .slice ao T.length cap] 24)) (hT.mono (Nat.le_refl _) hb0) hl)
  have HB0 := Lib.hid hb0
  clear hb0 hT
  go_enter Try.func26, Try.ntmps26
  go_wp2_with fail
  refine (HC.out).mono ?_
  rintro e w1 ⟨v1, rfl, ⟨m1, xs1, hown1, hm1, hP1⟩, hb1⟩
  obtain ⟨a1, c1, rfl⟩ := owns_slice hown1
  have HB1 := Lib.hid (HB0.out.trans (hb1.mono (by simp)))
  have HP := Lib.hid (show YesMeans ((m1 : Int) == 0) (Surf N T) from fun h => hP1 (by simpa using h))
  clear hown1 hP1 hb1
  go_wp2
  go_ret
  exact ⟨_, rfl, HP.out, HB1.out⟩
end Go.Proofs.Ytkggphfekeiejaa

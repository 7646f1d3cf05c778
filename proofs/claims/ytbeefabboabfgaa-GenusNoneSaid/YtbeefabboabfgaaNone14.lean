/- gypsumlaw14.GenusNone: the walk. -/
import Derived.Test.YtbeefabboabfgaaAwake14
import Derived.Test.YtbeefabboabfgaaLaid10
namespace Go.Proofs.Ytbeefabboabfgaa
set_option linter.unusedVariables false
set_option linter.unusedSimpArgs false
open Go.RowKit
theorem nil_surf : Surf (0 : Nat) [] := surf_small (by decide +kernel)
set_option maxRecDepth 100000 in
set_option maxHeartbeats 2000000 in
theorem none14_any (N : Int) (ao : Option Addr) (cap : Nat) (T : List Tr) (w : World) (hT : TrisAt w ao T) (hm : T.length ≤ 9223372036854775807) :
    Calls Try.prog 5 #[.agg #[.int .i64 N, .slice ao T.length cap]] w fun e w' => e = .returned (.bool true) ∧ Below w.heap.size w w' := by
  obtain ⟨W0, hW0⟩ : ∃ W0, W0 = w.alloc (.cells #[.int .i64 N, .slice ao T.length cap] 24) := ⟨_, rfl⟩
  have hb0 : Below w.heap.size w W0 := by rw [hW0]; exact (Below.refl _ _).alloc (Nat.le_refl _) _
  have hr0 : RowIs W0 w.heap.size 24 [.int .i64 N, .slice ao T.length cap] := by rw [hW0]; exact RowIs.made w 24 [.int .i64 N, .slice ao T.length cap]
  have HT := Lib.hid (hT.mono (Nat.le_refl _) hb0)
  have HM := Lib.hid hm
  have HR := Lib.hid hr0
  have HB0 := Lib.hid hb0
  have HW0 := Lib.hid hW0
  clear hb0 hr0 hW0 hT hm
  go_enter Try.func5, Try.ntmps5
  go_upto_region 1 with fail
  rw [← HW0.out]
  go_wp2_with fail
  refine (awake14 _).mono ?_
  rintro e w1 ⟨rfl, hb1⟩
  have HB1 := Lib.hid hb1
  have hr1 := HR.out.after hb1
  have x0 := hr1.cell (i := 0) rfl
  have x1 := hr1.cell (i := 1) rfl
  clear hb1 hr1
  go_wp2_with fail
  refine (great_any N ao cap T w1 HM.out).mono ?_
  rintro e w2 ⟨g, rfl, hg, hb2⟩
  have HB2 := Lib.hid (below_more HB1.out hb2 HB1.out.size)
  clear hb2 x0 x1 HB1
  rcases hg with ⟨rfl, hl, hn, hn'⟩ | ⟨rfl, hno⟩
  case inr =>
    have HF := Lib.hid (below_more HB0.out HB2.out HB0.out.size)
    clear hno
    go_wp2
    exact bodyPost_ret (v := .bool true) (by simp [results, Try.results5, go_sem]) rfl ⟨rfl, HF.out⟩
  case inl =>
  have HL := Lib.hid (show T.length ≤ 8192 from by omega)
  clear hl hn hn'
  go_wp2_with fail
  refine (genus_nil _).mono ?_
  rintro e w3 ⟨g3, rfl, -, -, hb3⟩
  have HB3 := Lib.hid (below_more HB2.out hb3 HB2.out.size)
  clear hb3 HB2
  have he : ∀ X : World, (Op.equalIn 10000 35 (.agg #[.int .i64 0, .int .i64 0, .int .i64 0, .int .i64 0, .int .i64 0, .int .i64 0]) (.agg #[.int .i64 0, .int .i64 0, .int .i64 0, .int .i64 0, .int .i64 0, .int .i64 0])).run Try.prog X = .ok true X := fun X => num_equal 0 0 0 0 0 0 0 0 0 0 0 0 X
  go_wp2_with fail
  refine (whole_nil _).mono ?_
  rintro e w4 ⟨rfl, hb4⟩
  have HB4 := Lib.hid (below_more HB3.out hb4 HB3.out.size)
  have hr4 := HR.out.after HB4.out
  have x0 := hr4.cell (i := 0) rfl
  have x1 := hr4.cell (i := 1) rfl
  have HI := Lib.hid (is_any N ao cap T w4 (HT.out.mono (Nat.le_refl _) HB4.out) HL.out)
  clear hb4 hr4 HB3
  go_wp2_with fail
  clear he
  refine HI.out.mono ?_
  rintro e w5 ⟨r, rfl, hr, hb5⟩
  have HB5 := Lib.hid (below_more HB4.out hb5 HB4.out.size)
  have hr5 := HR.out.after HB5.out
  have HQ := Lib.hid hr
  clear hr hb5 HI HB4 x0 x1
  obtain ⟨E, ok, hK⟩ := kind_exists 0 []
  obtain rfl : ok = true := hK.ok.2 nil_surf
  have HS := Lib.hid (show ∀ X : World, _ from fun X => gsame_any 0 0 none none 0 0 [] [] E E true true X (fun h => absurd rfl h) (fun h => absurd rfl h) (by simp) (by simp) hK hK)
  rw [show ([] : List Tr).length = 0 from rfl] at HS
  clear hK
  cases r
  case true =>
    clear hr5
    go_wp2_with fail
    refine (HS.out w5).mono ?_
    rintro e w6 ⟨rfl, hb6⟩
    have HF := Lib.hid (below_more HB0.out (below_more HB5.out hb6 HB5.out.size) HB0.out.size)
    clear hb6
    simp only [decide_true, Bool.and_self]
    go_wp2
    exact bodyPost_ret (v := .bool true) (by simp [results, Try.results5, go_sem]) rfl ⟨rfl, HF.out⟩
  case false =>
    have x0 := hr5.cell (i := 0) rfl
    have x1 := hr5.cell (i := 1) rfl
    obtain ⟨F, ok, hK⟩ := kind_exists N T
    obtain rfl : ok = false := by
      cases h : ok
      · rfl
      · have := HQ.out.2 (hK.ok.1 h)
        cases this
    have HSS := Lib.hid (gsame_any N N ao ao cap cap T T F F false false w5 (HT.out.mono (Nat.le_refl _) HB5.out) (HT.out.mono (Nat.le_refl _) HB5.out) HL.out HL.out hK hK)
    clear hK hr5
    go_wp2_with fail
    refine HSS.out.mono ?_
    rintro e w6 ⟨rfl, hb6⟩
    have HB6 := Lib.hid (below_more HB5.out hb6 HB5.out.size)
    clear hb6 x0 x1
    simp only [Bool.false_and]
    go_wp2_with fail
    refine (HS.out w6).mono ?_
    rintro e w7 ⟨rfl, hb7⟩
    have HF := Lib.hid (below_more HB0.out (below_more HB6.out hb7 HB6.out.size) HB0.out.size)
    clear hb7
    simp only [decide_true, Bool.and_self]
    go_wp2
    exact bodyPost_ret (v := .bool true) (by simp [results, Try.results5, go_sem]) rfl ⟨rfl, HF.out⟩
end Go.Proofs.Ytbeefabboabfgaa

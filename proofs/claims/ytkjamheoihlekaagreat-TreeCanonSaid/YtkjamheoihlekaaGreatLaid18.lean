/- gypsumlaw10.Great, Laid. -/
import Derived.Test.YtkjamheoihlekaaGreatCornerNew
import Derived.Deep.RegionHeld3
import Derived.Deep.DeepCutAuto
import Derived.Test.YtkjamheoihlekaaGreatBase
namespace Go.Proofs.YtkjamheoihlekaaGreat
set_option linter.unusedVariables false
set_option linter.unusedSimpArgs false
open Go.RowKit
set_option maxRecDepth 100000 in
set_option maxHeartbeats 1000000 in
theorem great_any (N : Int) (ao : Option Addr) (cap : Nat) (T : List Tr) (w : World) (hm : T.length ≤ 9223372036854775807) :
    Calls Tryz.prog 37 #[.agg #[.int .i64 N, .slice ao T.length cap]] w fun e w' => ∃ g : Nat, e = .returned (.int .i64 g) ∧ ((g = 0 ∧ T.length ≤ 40 ∧ N ≤ 60 ∧ -1000 ≤ N) ∨ (g = 1 ∧ ¬ (T.length ≤ 40 ∧ N ≤ 60 ∧ -1000 ≤ N))) ∧ Below w.heap.size w w' := by
  obtain ⟨W0, hW0⟩ : ∃ W0, W0 = w.alloc (.cells #[.int .i64 N, .slice ao T.length cap] 24) := ⟨_, rfl⟩
  have hb0 : Below w.heap.size w W0 := by rw [hW0]; exact (Below.refl _ _).alloc (Nat.le_refl _) _
  have hr0 : RowIs W0 w.heap.size 24 [.int .i64 N, .slice ao T.length cap] := by rw [hW0]; exact RowIs.made w 24 [.int .i64 N, .slice ao T.length cap]
  generalize T.length = len at *
  have c0 := hr0.cell (i := 0) rfl
  have c1 := hr0.cell (i := 1) rfl
  have HB0 := Lib.hid hb0
  have HW0 := Lib.hid hW0
  clear hb0 hr0 hW0
  by_cases h1 : len ≤ 40
  case neg =>
    have d1 : decide ((len : Int) > 40) = true := by simp; omega
    have d1' : decide ((40 : Int) < (len : Int)) = true := by simp; omega
    have HF := Lib.hid (show ¬ (len ≤ 40 ∧ N ≤ 60 ∧ -1000 ≤ N) from by omega)
    clear h1
    go_enter Tryz.func37, Tryz.ntmps37
    go_upto_region 1 with fail
    rw [← HW0.out]
    go_wp2
    exact bodyPost_ret (v := .int .i64 1) (by simp [results, Tryz.results37, go_sem]) rfl ⟨1, rfl, Or.inr ⟨rfl, HF.out⟩, HB0.out⟩
  case pos =>
  have d1 : decide ((len : Int) > 40) = false := by simp; omega
  have d1' : decide ((40 : Int) < (len : Int)) = false := by simp; omega
  by_cases h2 : N ≤ 60
  case neg =>
    have d2 : decide (N > 60) = true := by simp; omega
    have d2' : decide ((60 : Int) < N) = true := by simp; omega
    have HF := Lib.hid (show ¬ (len ≤ 40 ∧ N ≤ 60 ∧ -1000 ≤ N) from by omega)
    clear h1 h2
    go_enter Tryz.func37, Tryz.ntmps37
    go_upto_region 1 with fail
    rw [← HW0.out]
    go_wp2
    exact bodyPost_ret (v := .int .i64 1) (by simp [results, Tryz.results37, go_sem]) rfl ⟨1, rfl, Or.inr ⟨rfl, HF.out⟩, HB0.out⟩
  case pos =>
  have d2 : decide (N > 60) = false := by simp; omega
  have d2' : decide ((60 : Int) < N) = false := by simp; omega
  by_cases h3 : -1000 ≤ N
  case neg =>
    have d3 : decide (N < -1000) = true := by simp; omega
    have HF := Lib.hid (show ¬ (len ≤ 40 ∧ N ≤ 60 ∧ -1000 ≤ N) from by omega)
    clear h1 h2 h3
    go_enter Tryz.func37, Tryz.ntmps37
    go_upto_region 1 with fail
    rw [← HW0.out]
    go_wp2
    exact bodyPost_ret (v := .int .i64 1) (by simp [results, Tryz.results37, go_sem]) rfl ⟨1, rfl, Or.inr ⟨rfl, HF.out⟩, HB0.out⟩
  case pos =>
  have d3 : decide (N < -1000) = false := by simp; omega
  have HF := Lib.hid (show len ≤ 40 ∧ N ≤ 60 ∧ -1000 ≤ N from by omega)
  clear h1 h2 h3
  go_enter Tryz.func37, Tryz.ntmps37
  go_upto_region 1 with fail
  rw [← HW0.out]
  go_wp2
  exact bodyPost_ret (v := .int .i64 0) (by simp [results, Tryz.results37, go_sem]) rfl ⟨0, rfl, Or.inl ⟨rfl, HF.out⟩, HB0.out⟩
/-- gypsumlaw10.Laid: the table of a small surface, or none. -/
def LaidPost (N : Int) (T : List Tr) (w : World) (e : Ending) (w' : World) : Prop :=
  (∃ (n p : Nat), N = n ∧ e = .returned (.pointer (some ⟨p, 0, none⟩)) ∧ w.heap.size ≤ p ∧ Tab w' p n T ∧ FirstAt w' p T n ∧ Surf n T ∧ T.length ≤ 40 ∧ n ≤ 60 ∧ Below w.heap.size w w') ∨ (e = .returned (.pointer none) ∧ (¬ Surf N T ∨ ¬ (T.length ≤ 40 ∧ N ≤ 60)) ∧ Below w.heap.size w w')
set_option maxRecDepth 100000 in
set_option maxHeartbeats 1000000 in
theorem laid_any (N : Int) (ao : Option Addr) (cap : Nat) (T : List Tr) (w : World) (hT : TrisAt w ao T) (hm : T.length ≤ 9223372036854775807) :
    Calls Tryz.prog 12 #[.agg #[.int .i64 N, .slice ao T.length cap]] w (LaidPost N T w) := by
  obtain ⟨W0, hW0⟩ : ∃ W0, W0 = w.alloc (.cells #[.int .i64 N, .slice ao T.length cap] 24) := ⟨_, rfl⟩
  have hb0 : Below w.heap.size w W0 := by rw [hW0]; exact (Below.refl _ _).alloc (Nat.le_refl _) _
  have hr0 : RowIs W0 w.heap.size 24 [.int .i64 N, .slice ao T.length cap] := by rw [hW0]; exact RowIs.made w 24 [.int .i64 N, .slice ao T.length cap]
  have c0 := hr0.cell (i := 0) rfl
  have c1 := hr0.cell (i := 1) rfl
  have HG := Lib.hid (great_any N ao cap T W0 hm)
  have HT := Lib.hid (hT.mono (Nat.le_refl _) hb0)
  have HR := Lib.hid hr0
  have HB0 := Lib.hid hb0
  have HW0 := Lib.hid hW0
  clear hb0 hr0 hW0 hT hm
  go_enter Tryz.func12, Tryz.ntmps12
  go_upto_region 1 with fail
  rw [← HW0.out]
  go_wp2_with fail
  refine HG.out.mono ?_
  rintro e w1 ⟨g, rfl, hg, hb1⟩
  have hr1 := HR.out.after hb1
  have HT1 := Lib.hid (HT.out.mono (Nat.le_refl _) hb1)
  have HB1 := Lib.hid (below_more HB0.out hb1 HB0.out.size)
  clear c0 c1 hb1
  rcases hg with ⟨rfl, hl, hn, hn'⟩ | ⟨rfl, hno⟩
  case inr =>
    have HNO := Lib.hid (show ¬ Surf N T ∨ ¬ (T.length ≤ 40 ∧ N ≤ 60) from by
      by_cases hs : Surf N T
      · right; intro h; exact hno ⟨h.1, h.2, by have := hs.n0; omega⟩
      · exact Or.inl hs)
    clear hno hr1
    go_wp2
    exact bodyPost_ret (v := .pointer none) (by simp [results, Tryz.results12, go_sem]) rfl (Or.inr ⟨rfl, HNO.out, HB1.out⟩)
  case inl =>
  have x0 := hr1.cell (i := 0) rfl
  have x1 := hr1.cell (i := 1) rfl
  have HL := Lib.hid (show T.length ≤ 40 ∧ N ≤ 60 from ⟨hl, hn⟩)
  clear hr1 hl hn hn'
  by_cases hs : Surf N T
  case neg =>
    have HN := Lib.hid (new_none N ao cap T w1 HT1.out (by have := HL.out.1; omega) hs)
    have HS := Lib.hid hs
    clear hs
    go_wp2_with fail
    refine HN.out.mono ?_
    rintro e w2 ⟨k, a, b, rfl, -, -, hb2⟩
    have HB2 := Lib.hid (below_more HB1.out hb2 HB1.out.size)
    clear hb2 x0 x1 HN
    go_wp2
    exact bodyPost_ret (v := .pointer none) (by simp [results, Tryz.results12, go_sem]) rfl (Or.inr ⟨rfl, Or.inl HS.out, HB2.out.alloc HB2.out.size _⟩)
  case pos =>
  obtain ⟨n, hn⟩ : ∃ n : Nat, N = n := ⟨N.toNat, by have := hs.n0; omega⟩
  subst hn
  have HN := Lib.hid (new_first n ao cap T w1 HT1.out hs)
  have HS := Lib.hid hs
  clear hs
  go_wp2_with fail
  refine HN.out.mono ?_
  rintro e w2 ⟨p, rfl, hp, ⟨htab, hfst⟩, hb2⟩
  have hp' : w.heap.size ≤ p := by have := HB1.out.size; omega
  have hbx : Below w2.heap.size w2 (w2.alloc (.cells #[.int .i64 0, .int .i64 0, .int .i64 0] 55)) := (Below.refl _ _).alloc (Nat.le_refl _) _
  have HF := Lib.hid (show LaidPost n T w (.returned (.pointer (some ⟨p, 0, none⟩))) (w2.alloc (.cells #[.int .i64 0, .int .i64 0, .int .i64 0] 55)) from
    Or.inl ⟨n, p, rfl, rfl, hp', htab.mono (Nat.le_refl _) hbx, (hfst n rfl).mono (Nat.le_refl _) hbx, HS.out, HL.out.1, by have := HL.out.2; omega, below_more HB1.out (below_more hb2 hbx hb2.size) HB1.out.size⟩)
  clear hp hp' htab hfst hb2 hbx x0 x1 HN HG HT HT1
  go_wp2
  exact bodyPost_ret (v := .pointer (some ⟨p, 0, none⟩)) (by simp [results, Tryz.results12, go_sem]) rfl HF.out
end Go.Proofs.YtkjamheoihlekaaGreat

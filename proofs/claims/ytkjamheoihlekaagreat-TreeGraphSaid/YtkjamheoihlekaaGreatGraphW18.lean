/- gypsumlaw18.TreeGraph: the walk. -/
import Derived.Test.YtkjamheoihlekaaGreatGraph18
import Derived.Test.YtkjamheoihlekaaGreatRefDual18
import Derived.Test.YtkjamheoihlekaaGreatRefPrune18
namespace Go.Proofs.YtkjamheoihlekaaGreat
set_option linter.unusedVariables false
set_option linter.unusedSimpArgs false
open Go.RowKit
set_option maxRecDepth 100000 in
set_option maxHeartbeats 4000000 in
theorem treegraph_any (N : Int) (ao : Option Addr) (cap : Nat) (T : List Tr) (w : World) (hT : TrisAt w ao T) (hm : T.length ≤ 9223372036854775807) :
    Calls Tryz.prog 8 #[.agg #[.int .i64 N, .slice ao T.length cap]] w fun e w' => e = .returned (.bool true) ∧ Below w.heap.size w w' := by
  obtain ⟨xb, hxb⟩ : ∃ b, b = w.heap.size := ⟨_, rfl⟩
  obtain ⟨W0, hW0⟩ : ∃ W0, W0 = w.alloc (.cells #[.int .i64 N, .slice ao T.length cap] 24) := ⟨_, rfl⟩
  have hb0 : Below w.heap.size w W0 := by rw [hW0]; exact (Below.refl _ _).alloc (Nat.le_refl _) _
  have hr0 : RowIs W0 xb 24 [.int .i64 N, .slice ao T.length cap] := by rw [hW0, hxb]; exact RowIs.made w 24 [.int .i64 N, .slice ao T.length cap]
  have HAW := Lib.hid (awake18 W0)
  have HT := Lib.hid (hT.mono (Nat.le_refl _) hb0)
  have HR := Lib.hid hr0
  have HB0 := Lib.hid hb0
  have HW0 := Lib.hid hW0
  have HXB := Lib.hid hxb
  clear hb0 hr0 hW0 hT hxb
  go_enter Tryz.func8, Tryz.ntmps8
  go_upto_region 1 with fail
  simp only [← HXB.out]
  rw [← HW0.out]
  go_wp2_with fail
  refine HAW.out.mono ?_
  rintro e w1 ⟨rfl, hb1⟩
  have hr1 := HR.out.after hb1
  have x0 := hr1.cell (i := 0) rfl
  have x1 := hr1.cell (i := 1) rfl
  have HB1 := Lib.hid hb1
  have HL := Lib.hid (laid_any N ao cap T w1 (HT.out.mono (Nat.le_refl _) hb1) hm)
  clear hb1 hr1 HAW
  go_wp2_with fail
  refine HL.out.mono ?_
  intro e w2 hpost
  rcases hpost with ⟨n, p, hN, rfl, hp, htab, hfst, hsurf, ht40, hn60, hb2⟩ | ⟨rfl, -, hb2⟩
  case inr =>
    have HF := Lib.hid (below_more HB0.out (below_more HB1.out hb2 HB1.out.size) HB0.out.size)
    clear hb2 x0 x1
    go_wp2
    exact bodyPost_ret (v := .bool true) (by simp [results, Tryz.results8, go_sem]) rfl ⟨rfl, HF.out⟩
  case inl =>
  subst hN
  have HB2 := Lib.hid (below_more HB1.out hb2 HB1.out.size)
  obtain ⟨L, hL⟩ := shells_exist (Adj T) T.length
  have hc0 := cnt_nonneg L T.length
  obtain ⟨m, hmL⟩ : ∃ m : Nat, (m : Int) = cnt L T.length := ⟨(cnt L T.length).toNat, by omega⟩
  have hmT : m ≤ 40 := by
    have := hL.cnt_le
    omega
  have HS := Lib.hid hsurf
  have HSH := Lib.hid hL
  have HML := Lib.hid hmL
  have HTAB := Lib.hid htab
  have HFST := Lib.hid hfst
  have HG := Lib.hid (graph_ok n p m T L w2 htab hsurf hL hmL)
  have HFW2 := Lib.hid (show ∀ X, Below w2.heap.size w2 X → Below w.heap.size w X from fun X h => below_more HB0.out (below_more HB2.out h HB2.out.size) HB0.out.size)
  clear hb2 x0 x1 hL hmL htab hfst hsurf HL hc0
  go_wp2_with fail
  refine HG.out.mono ?_
  rintro e w3 ⟨hgr, hb3⟩
  have HB3 := Lib.hid hb3
  have HGEN := Lib.hid (genus_of p n m T L w3 (HTAB.out.mono (Nat.le_refl _) hb3) (HFST.out.mono (Nat.le_refl _) hb3) HS.out HSH.out HML.out)
  clear hb3 HG
  rcases hgr with ⟨hno, rfl⟩ | ⟨hyes, a3, k3, D, hD, rfl, hE3⟩
  case inl =>
    have HNO := Lib.hid hno
    clear hno
    go_wp2_with fail
    refine HGEN.out.mono ?_
    rintro e w4 ⟨g4, rfl, hg4, hrow4, hb4⟩
    have HB4 := Lib.hid (below_more HB3.out hb4 HB3.out.size)
    have HROW := Lib.hid hrow4
    clear hg4 hrow4 hb4 HGEN
    go_wp2_with fail
    refine (graph_nil w4).mono ?_
    rintro e w5 ⟨rfl, rfl⟩
    by_cases h1 : m = 1
    case neg =>
      have g1 : ((m : Int) != 1) = true := by simp; omega
      clear h1
      go_wp2
      exact bodyPost_ret (v := .bool true) (by simp [results, Tryz.results8, go_sem]) rfl ⟨rfl, HFW2.out _ HB4.out⟩
    case pos =>
    subst h1
    obtain ⟨nb, hnb⟩ : ∃ b, b = nB T L n 0 := ⟨_, rfl⟩
    have c3 : w4.cell? ⟨g4, 3, none⟩ = some (.int .i64 (nb : Int)) := by
      have := HROW.out.cell (i := 3) (v := .int .i64 (genF T L n 3)) (iv_get _ (by omega))
      rw [show genF T L n 3 = (nB T L n 0 : Int) from gen3 T L n 0] at this
      rw [hnb]
      exact this
    have hnz : nb ≠ 0 := fun q => HNO.out ⟨rfl, (no_border HS.out HSH.out (by have := HML.out; omega)).1 (by rw [← hnb]; exact q)⟩
    have g1 : ((nb : Int) != 0) = true := by simp; omega
    clear hnb hnz
    go_wp2
    exact bodyPost_ret (v := .bool true) (by simp [results, Tryz.results8, go_sem]) rfl ⟨rfl, HFW2.out _ HB4.out⟩
  case inr =>
  obtain ⟨rfl, hbd⟩ := hyes
  have hnb0 : nB T L n 0 = 0 := (no_border HS.out HSH.out (by have := HML.out; omega)).2 hbd
  have hTp : 0 < 3 * T.length := by
    have := HML.out
    obtain ⟨i, hi, -⟩ := cnt_has L T.length (by omega)
    omega
  obtain ⟨ql, hql⟩ : ∃ q, q = (pruneE (sortP D)).length := ⟨_, rfl⟩
  rw [← hql]
  have HQL := Lib.hid hql
  have HD := Lib.hid hD
  have HE3 := Lib.hid hE3
  have HTP := Lib.hid hTp
  have HNB0 := Lib.hid hnb0
  clear hnb0 hbd hTp hql hD hE3
  go_wp2_with fail
  refine HGEN.out.mono ?_
  rintro e w4 ⟨g4, rfl, hg4, hrow4, hb4⟩
  have HB4 := Lib.hid (below_more HB3.out hb4 HB3.out.size)
  have HE4 := Lib.hid (HE3.out.mono (Nat.le_refl _) hb4)
  have c3 : w4.cell? ⟨g4, 3, none⟩ = some (.int .i64 0) := by
    have := hrow4.cell (i := 3) (v := .int .i64 (genF T L n 3)) (iv_get _ (by omega))
    rw [show genF T L n 3 = (nB T L n 0 : Int) from gen3 T L n 0, HNB0.out] at this
    exact this
  clear hg4 hrow4 hb4 HGEN HE3
  go_wp2_with fail
  refine (graph_nil w4).mono ?_
  rintro e w5 ⟨rfl, rfl⟩
  have HTR4 := Lib.hid (show TrisAt w4 ao T ∧ RowIs w4 xb 24 [.int .i64 (n : Int), .slice ao T.length cap] from by
    have h := below_more HB2.out HB4.out HB2.out.size
    exact ⟨HT.out.mono (Nat.le_refl _) h, HR.out.after h⟩)
  have y0 := HTR4.out.2.cell (i := 0) rfl
  have y1 := HTR4.out.2.cell (i := 1) rfl
  have HRR := Lib.hid (show Calls Tryz.prog 18 #[.agg #[.int .i64 (n : Int), .slice ao T.length cap], .int .i64 0] w4 (RRestP T 0 w4) from rrest18 n ao cap T 0 w4 HTR4.out.1 HS.out HTP.out)
  go_wp2_with fail
  refine HRR.out.mono ?_
  rintro e w6 ⟨v6, R, rfl, ⟨b6, o6, k6, rfl, -, -, hE6⟩, hp6, hm6, hb6⟩
  have hRD : R = sortP D := sortP_one HD.out.1 hp6 fun x => by rw [hm6, HD.out.2]
  subst hRD
  have hfew := rest_few18 HD.out.1 HD.out.2
  have hsl : (sortP D).length = D.length := (sortP_perm D).length_eq
  have HFEW := Lib.hid (show (sortP D).length ≤ 10000 ∧ (pruneE (sortP D)).length ≤ 10000 from by
    have := (prune_sub (sortP D) (sortP D).length).length_le
    have : (pruneE (sortP D)).length ≤ (sortP D).length := this
    omega)
  have HB6 := Lib.hid (below_more HB4.out hb6 HB4.out.size)
  have HE46 := Lib.hid (HE4.out.mono (Nat.le_refl _) hb6)
  have HP := Lib.hid (rprune18 (sortP D) (some ⟨b6, o6, none⟩) k6 w6 hE6 (by have := HFEW.out; omega))
  rw [← HQL.out] at HP
  clear hp6 hm6 hE6 hb6 hfew hsl y0 y1 HRR HE4
  go_wp2_with fail
  refine HP.out.mono ?_
  rintro e w7 ⟨a7, k7, rfl, hE7, hb7⟩
  have HB7 := Lib.hid (below_more HB6.out hb7 HB6.out.size)
  have HED := Lib.hid (edges18 (pruneE (sortP D)) (pruneE (sortP D)) a3 a7 k3 k7 w7 (HE46.out.mono (Nat.le_refl _) hb7) hE7 (by have := HFEW.out; omega) (by have := HFEW.out; omega))
  rw [← HQL.out] at HED
  clear hE7 hb7 HP HE46
  go_wp2_with fail
  refine HED.out.mono ?_
  rintro e w8 ⟨r, rfl, hr, hb8⟩
  obtain rfl : r = true := by simpa using hr
  have HF := Lib.hid (HFW2.out _ (below_more HB7.out hb8 HB7.out.size))
  clear hr hb8 HED
  go_wp2
  exact bodyPost_ret (v := .bool true) (by simp [results, Tryz.results8, go_sem]) rfl ⟨rfl, HF.out⟩
end Go.Proofs.YtkjamheoihlekaaGreat

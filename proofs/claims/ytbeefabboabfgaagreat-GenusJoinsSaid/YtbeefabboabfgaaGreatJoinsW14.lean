/- gypsumlaw14.GenusJoins: the walk. -/
import Derived.Test.YtbeefabboabfgaaGreatSolid14
import Derived.Test.YtbeefabboabfgaaGreatTabSoup
import Derived.Test.YtbeefabboabfgaaGreatIsoLaw
import Derived.Test.YtbeefabboabfgaaGreatSoupFitsG
import Derived.Test.YtbeefabboabfgaaGreatParts
import Derived.Test.YtbeefabboabfgaaGreatNumEq
import Derived.Test.YtbeefabboabfgaaGreatKinds
import Derived.Deep.RegionHeld3
import Derived.BigQuiet
namespace Go.Proofs.YtbeefabboabfgaaGreat
set_option linter.unusedVariables false
set_option linter.unusedSimpArgs false
open Go.RowKit
theorem num_one (a b c d e f : Int) (w : World) : (Op.equalIn 10000 33 (.agg #[.int .i64 a, .int .i64 b, .int .i64 c, .int .i64 d, .int .i64 e, .int .i64 f]) (.agg #[.int .i64 a, .int .i64 b, .int .i64 c, .int .i64 d, .int .i64 e, .int .i64 f])).run Tryz.prog w = .ok true w := by
  have := num_equal a b c d e f a b c d e f w
  simpa using this
theorem sum_of_one (Φ : Nat → Int) (j : Nat) : sumF Φ 1 j = Φ (0 * 6 + j) := by simp [sumF]
/-- What Laid gives. -/
def LaidR (N : Int) (T : List Tr) (oa : Option Addr) (w : World) : Prop := (∃ n p : Nat, N = n ∧ oa = some ⟨p, 0, none⟩ ∧ Tab w p n T ∧ FirstAt w p T n ∧ Surf n T ∧ n ≤ 60) ∨ oa = none
theorem LaidR.mono {N : Int} {T : List Tr} {oa : Option Addr} {w w' : World} (h : LaidR N T oa w) (hb : Below w.heap.size w w') : LaidR N T oa w' := by
  rcases h with ⟨n, p, h1, h2, h3, h4, h5, h6⟩ | h
  · exact .inl ⟨n, p, h1, h2, h3.mono (Nat.le_refl _) hb, h4.mono (Nat.le_refl _) hb, h5, h6⟩
  · exact .inr h
theorem laid_r (N : Int) (ao : Option Addr) (cap : Nat) (T : List Tr) (w : World) (hT : TrisAt w ao T) (hm : T.length ≤ 9223372036854775807) :
    Calls Tryz.prog 9 #[.agg #[.int .i64 N, .slice ao T.length cap]] w fun e w' => ∃ oa, e = .returned (.pointer oa) ∧ LaidR N T oa w' ∧ Below w.heap.size w w' :=
  (laid_any N ao cap T w hT hm).mono fun e w' h => by
    rcases h with ⟨n, p, h1, h2, -, h4, h5, h6, -, h8, h9⟩ | ⟨h1, -, h3⟩
    · exact ⟨_, h2, .inl ⟨n, p, h1, rfl, h4, h5, h6, h8⟩, h9⟩
    · exact ⟨_, h1, .inr rfl, h3⟩
set_option maxRecDepth 100000 in
set_option maxHeartbeats 8000000 in
theorem joinsW14 (N : Int) (ao : Option Addr) (cap : Nat) (T : List Tr) (M : Int) (bo : Option Addr) (cap' : Nat) (U : List Tr) (w : World) (hT : TrisAt w ao T) (hm : T.length ≤ 9223372036854775807) (hU : TrisAt w bo U) (hm' : U.length ≤ 9223372036854775807) :
    Calls Tryz.prog 7 #[.agg #[.int .i64 N, .slice ao T.length cap], .agg #[.int .i64 M, .slice bo U.length cap']] w fun e w' => e = .returned (.bool true) ∧ Below w.heap.size w w' := by
  obtain ⟨i0, hi, hz0, hz1, hz2⟩ := info_parts infoNum
  obtain ⟨W0, hW0⟩ : ∃ W0, W0 = (w.alloc (.cells #[.int .i64 N, .slice ao T.length cap] 24)).alloc (.cells #[.int .i64 M, .slice bo U.length cap'] 24) := ⟨_, rfl⟩
  have hb0 : Below w.heap.size w W0 := by rw [hW0]; exact ((Below.refl _ _).alloc (Nat.le_refl _) _).alloc (by simp) _
  have hr0 : RowIs W0 w.heap.size 24 [.int .i64 N, .slice ao T.length cap] := by rw [hW0]; exact (RowIs.made w 24 [.int .i64 N, .slice ao T.length cap]).alloc _
  have hr1 : RowIs W0 (w.heap.size + 1) 24 [.int .i64 M, .slice bo U.length cap'] := by rw [hW0]; exact RowIs.made' _ _ [.int .i64 M, .slice bo U.length cap'] _ (by simp)
  have HT := Lib.hid (hT.mono (Nat.le_refl _) hb0)
  have HU := Lib.hid (hU.mono (Nat.le_refl _) hb0)
  obtain ⟨xb, hxb⟩ : ∃ x, x = w.heap.size := ⟨_, rfl⟩
  rw [← hxb] at hr0 hr1
  have HK := Lib.hid (show ∀ X, Below W0.heap.size W0 X → X.cell? ⟨xb, 0, none⟩ = some (.int .i64 N) ∧ X.cell? ⟨xb, 1, none⟩ = some (.slice ao T.length cap) ∧ X.cell? ⟨xb + 1, 0, none⟩ = some (.int .i64 M) ∧ X.cell? ⟨xb + 1, 1, none⟩ = some (.slice bo U.length cap') from fun X h => ⟨(hr0.after h).cell (i := 0) rfl, (hr0.after h).cell (i := 1) rfl, (hr1.after h).cell (i := 0) rfl, (hr1.after h).cell (i := 1) rfl⟩)
  have HM := Lib.hid hm
  have HM' := Lib.hid hm'
  have HB0 := Lib.hid hb0
  have HW0 := Lib.hid hW0
  have HXB := Lib.hid hxb
  clear hb0 hr0 hr1 hW0 hT hU hm hm' hxb
  go_enter Tryz.func7, Tryz.ntmps7
  go_upto_region 1 with fail
  simp only [← HXB.out]
  rw [← HW0.out]
  go_wp2_with fail
  refine (awake14 _).mono ?_
  rintro e w1 ⟨rfl, hb1⟩
  have HB1 := Lib.hid hb1
  obtain ⟨x0, x1, x2, x3⟩ := HK.out w1 hb1
  clear hb1
  by_cases hg1 : T.length ≤ 20
  case neg =>
    have d0 : decide ((T.length : Int) > 20) = true := by simp; omega
    have d0' : decide ((20 : Int) < (T.length : Int)) = true := by simp; omega
    have d0n : decide (20 < T.length) = true := by simp; omega
    have HF := Lib.hid (below_more HB0.out HB1.out HB0.out.size)
    clear hg1
    go_wp2
    exact bodyPost_ret (v := .bool true) (by simp [results, Tryz.results7, go_sem]) rfl ⟨rfl, HF.out⟩
  case pos =>
  have d0 : decide ((T.length : Int) > 20) = false := by simp; omega
  have d0' : decide ((20 : Int) < (T.length : Int)) = false := by simp; omega
  have d0n : decide (20 < T.length) = false := by simp; omega
  by_cases hg2 : U.length ≤ 20
  case neg =>
    have d1 : decide ((U.length : Int) > 20) = true := by simp; omega
    have d1' : decide ((20 : Int) < (U.length : Int)) = true := by simp; omega
    have d1n : decide (20 < U.length) = true := by simp; omega
    have HF := Lib.hid (below_more HB0.out HB1.out HB0.out.size)
    clear hg1 hg2
    go_wp2
    exact bodyPost_ret (v := .bool true) (by simp [results, Tryz.results7, go_sem]) rfl ⟨rfl, HF.out⟩
  case pos =>
  have d1 : decide ((U.length : Int) > 20) = false := by simp; omega
  have d1' : decide ((20 : Int) < (U.length : Int)) = false := by simp; omega
  have d1n : decide (20 < U.length) = false := by simp; omega
  have HG1 := Lib.hid hg1
  have HG2 := Lib.hid hg2
  have HLA := Lib.hid (show ∀ X, Hid (Below w1.heap.size w1 X) → Calls Tryz.prog 9 #[.agg #[.int .i64 N, .slice ao T.length cap]] X fun e w' => ∃ oa, e = .returned (.pointer oa) ∧ Hid (LaidR N T oa w') ∧ Hid (Below X.heap.size X w') ∧ Hid (Below w1.heap.size w1 w') from fun X h =>
    (laid_r N ao cap T X (HT.out.mono (Nat.le_refl _) (below_more HB1.out h.out HB1.out.size)) HM.out).mono fun e w' ⟨oa, h1, h2, h3⟩ => ⟨oa, h1, h2, h3, below_more h.out h3 h.out.size⟩)
  have HLB := Lib.hid (show ∀ X, Hid (Below w1.heap.size w1 X) → Calls Tryz.prog 9 #[.agg #[.int .i64 M, .slice bo U.length cap']] X fun e w' => ∃ ob, e = .returned (.pointer ob) ∧ Hid (LaidR M U ob w') ∧ Hid (Below X.heap.size X w') ∧ Hid (Below w1.heap.size w1 w') from fun X h =>
    (laid_r M bo cap' U X (HU.out.mono (Nat.le_refl _) (below_more HB1.out h.out HB1.out.size)) HM'.out).mono fun e w' ⟨oa, h1, h2, h3⟩ => ⟨oa, h1, h2, h3, below_more h.out h3 h.out.size⟩)
  have HK1 := Lib.hid (show ∀ X, Hid (Below w1.heap.size w1 X) → _ from fun X h => HK.out X (below_more HB1.out h.out HB1.out.size))
  have HRF := Lib.hid (Below.refl w1.heap.size w1)
  have HDR := Lib.hid (show Below w1.heap.size w1 w1.drew from ⟨rfl, rfl, rfl, Nat.le_refl _, fun _ _ => rfl⟩)
  clear hg1 hg2
  go_upto_region 5 with fail
  clear d0 d0' d0n d1 d1' d1n x0 x1 x2 x3
  go_region_held3 (fun w' => w'.cell? ⟨xb, 0, none⟩ = some (.int .i64 N) ∧ w'.cell? ⟨xb, 1, none⟩ = some (.slice ao T.length cap) ∧ w'.cell? ⟨xb + 1, 0, none⟩ = some (.int .i64 M) ∧ w'.cell? ⟨xb + 1, 1, none⟩ = some (.slice bo U.length cap'))
    (exact HK1.out _ (by assumption))
    (first
      | (go_at_call 9; (with_reducible refine (HLA.out _ (by assumption)).mono ?_); rintro e wA ⟨oa, rfl, hra, hbA, hA⟩)
      | (go_at_call 9; (with_reducible refine (HLB.out _ (by assumption)).mono ?_); rintro e wB ⟨ob, rfl, hrb, hbB, hB⟩))
  all_goals
    have HRA := Lib.hid (hra.out.mono hbB.out)
    have HRB := Lib.hid hrb.out
    have HBB := Lib.hid (below_more HB1.out hB.out HB1.out.size)
    clear hra hbA hA hrb hbB hB HLA HLB HK1 HRF HDR HB1
    rcases HRA.out with ⟨n, p1, rfl, rfl, htab1, hfst1, hs1, hn1⟩ | rfl
    case inr =>
      have HF := Lib.hid (below_more HB0.out HBB.out HB0.out.size)
      go_wp2
      exact bodyPost_ret (v := .bool true) (by simp [results, Tryz.results7, go_sem]) rfl ⟨rfl, HF.out⟩
    rcases HRB.out with ⟨n', p2, rfl, rfl, htab2, hfst2, hs2, hn2⟩ | rfl
    case inr =>
      have HF := Lib.hid (below_more HB0.out HBB.out HB0.out.size)
      clear htab1 hfst1 hs1 hn1
      go_wp2
      exact bodyPost_ret (v := .bool true) (by simp [results, Tryz.results7, go_sem]) rfl ⟨rfl, HF.out⟩
    have HT1 := Lib.hid (show Tab wB p1 n T ∧ FirstAt wB p1 T n from ⟨htab1, hfst1⟩)
    have HT2 := Lib.hid (show Tab wB p2 n' U ∧ FirstAt wB p2 U n' from ⟨htab2, hfst2⟩)
    have HS1 := Lib.hid hs1
    have HS2 := Lib.hid hs2
    obtain ⟨L, hL⟩ := shells_exist (Adj T) T.length
    obtain ⟨m, hm⟩ := Int.eq_ofNat_of_zero_le (cnt_nonneg L T.length)
    obtain ⟨K, hK⟩ := shells_exist (Adj U) U.length
    obtain ⟨m', hm'⟩ := Int.eq_ofNat_of_zero_le (cnt_nonneg K U.length)
    have hm1 : m ≤ 20 := by have := hL.cnt_le; have := HG1.out; omega
    have hm2 : m' ≤ 20 := by have := hK.cnt_le; have := HG2.out; omega
    have HL := Lib.hid hL
    have HKK := Lib.hid hK
    have HCM := Lib.hid hm.symm
    have HCM' := Lib.hid hm'.symm
    have HTW := Lib.hid (HT.out.mono (Nat.le_refl _) HBB.out)
    have HUW := Lib.hid (HU.out.mono (Nat.le_refl _) HBB.out)
    have hNN := hn1
    have hNN' := hn2
    obtain ⟨x0, x1, x2, x3⟩ := HK.out wB HBB.out
    clear htab1 hfst1 hs1 htab2 hfst2 hs2 hL hm hK hm' HRA HRB HT HU
    go_upto_region 8 with fail
    go_wp2_with fail
    obtain ⟨W4, hW4⟩ : ∃ W4, W4 = wB.alloc (.cells #[.int .i64 (n : Int), .slice ao T.length cap, .int .i64 (n' : Int), .slice bo U.length cap'] 24) := ⟨_, rfl⟩
    rw [← hW4]
    have hb4 : Below wB.heap.size wB W4 := by rw [hW4]; exact (Below.refl _ _).alloc (Nat.le_refl _) _
    have hr4 : RowIs W4 wB.heap.size 24 [.int .i64 (n : Int), .slice ao T.length cap, .int .i64 (n' : Int), .slice bo U.length cap'] := by rw [hW4]; exact RowIs.made wB 24 [.int .i64 (n : Int), .slice ao T.length cap, .int .i64 (n' : Int), .slice bo U.length cap']
    have HB4 := Lib.hid (below_more HBB.out hb4 HBB.out.size)
    have HW4 := Lib.hid hb4
    clear x0 x1 x2 x3 hW4
    refine (sjoin_two (two (n : Int) (n' : Int)) (two T U) (two ao bo) (two cap cap') wB.heap.size W4 (fun k hk => ?_) (fun k hk => ?_) hr4.lt).mono ?_
    · rcases (by omega : k = 0 ∨ k = 1) with rfl | rfl
      · exact ⟨HS1.out, (show (n : Int) ≤ 90 from by omega), (show T.length ≤ 30 from by have := HG1.out; omega), HTW.out.mono (Nat.le_refl _) hb4⟩
      · exact ⟨HS2.out, (show (n' : Int) ≤ 90 from by omega), (show U.length ≤ 30 from by have := HG2.out; omega), HUW.out.mono (Nat.le_refl _) hb4⟩
    · rcases (by omega : k = 0 ∨ k = 1) with rfl | rfl
      · exact ⟨hr4.cell (i := 0) rfl, hr4.cell (i := 1) rfl⟩
      · exact ⟨hr4.cell (i := 2) rfl, hr4.cell (i := 3) rfl⟩
    rintro e w5 ⟨jo, jc, rfl, ht5, hb5⟩
    rw [(acc_two (n : Int) (n' : Int) T U).1, (acc_two (n : Int) (n' : Int) T U).2]
    rw [(acc_two (n : Int) (n' : Int) T U).2] at ht5
    obtain ⟨J, hJ⟩ : ∃ J, J = side T U (n : Int) := ⟨_, rfl⟩
    obtain ⟨P, hP⟩ : ∃ P, P = sideL L K T.length (cnt L T.length) := ⟨_, rfl⟩
    obtain ⟨nn, hnn⟩ : ∃ nn : Nat, nn = n + n' := ⟨_, rfl⟩
    obtain ⟨mm, hmm⟩ : ∃ mm : Nat, mm = m + m' := ⟨_, rfl⟩
    have HJS := Lib.hid (show Surf (nn : Int) J ∧ IsShells (Adj J) J.length P from by
      rw [hJ, hP, hnn]
      exact side_lab HS1.out HS2.out (by omega) (by have := HG1.out; have := HG2.out; omega) HL.out HKK.out)
    have HJC := Lib.hid (show (mm : Int) = cnt P J.length from by
      rw [hJ, hP, hmm]
      exact join_cnt HCM.out HCM'.out)
    have HJL := Lib.hid (show ∀ k i, k < m → i < 6 → genF J P nn (k * 6 + i) = genF T L n (k * 6 + i) from fun k i hk hi6 => by
      rw [hJ, hP, hnn]
      exact join_left HS1.out HS2.out (by omega) (by have := HG1.out; have := HG2.out; omega) HL.out HKK.out HCM.out hk hi6)
    have HJR := Lib.hid (show ∀ j i, i < 6 → genF J P nn ((m + j) * 6 + i) = genF U K n' (j * 6 + i) from fun j i hi6 => by
      rw [hJ, hP, hnn]
      exact join_right HS1.out HS2.out (by omega) (by have := HG1.out; have := HG2.out; omega) HL.out HKK.out HCM.out hi6)
    have sn : (n : Int) + (n' : Int) = (nn : Int) := by omega
    have HMM := Lib.hid hmm
    rw [← hJ] at ht5 ⊢
    rw [sn]
    clear hJ hP hnn sn hr4 hmm
    obtain ⟨sb, hsb⟩ : ∃ g, g = w5.heap.size := ⟨_, rfl⟩
    obtain ⟨W6, hW6⟩ : ∃ W6, W6 = w5.alloc (.cells #[.int .i64 (nn : Int), .slice jo J.length jc] 24) := ⟨_, rfl⟩
    have hb6 : Below w5.heap.size w5 W6 := by rw [hW6]; exact (Below.refl _ _).alloc (Nat.le_refl _) _
    have hr6 : RowIs W6 sb 24 [.int .i64 (nn : Int), .slice jo J.length jc] := by rw [hW6, hsb]; exact RowIs.made w5 24 [.int .i64 (nn : Int), .slice jo J.length jc]
    have HR6 := Lib.hid hr6
    have HT6 := Lib.hid (ht5.mono (Nat.le_refl _) hb6)
    have hb56 : Below wB.heap.size wB W6 := below_more (below_more HW4.out hb5 HW4.out.size) hb6 (below_more HW4.out hb5 HW4.out.size).size
    have HB6 := Lib.hid (below_more HBB.out hb56 HBB.out.size)
    have HT16 := Lib.hid (show Tab W6 p1 n T ∧ FirstAt W6 p1 T n from ⟨HT1.out.1.mono (Nat.le_refl _) hb56, HT1.out.2.mono (Nat.le_refl _) hb56⟩)
    have HT26 := Lib.hid (show Tab W6 p2 n' U ∧ FirstAt W6 p2 U n' from ⟨HT2.out.1.mono (Nat.le_refl _) hb56, HT2.out.2.mono (Nat.le_refl _) hb56⟩)
    have HSB := Lib.hid hsb
    have HW6 := Lib.hid hW6
    have k0 := hr6.cell (i := 0) rfl
    have k1 := hr6.cell (i := 1) rfl
    clear hsb hW6 hb6 hr6 hb56 ht5 hb5 hb4 HT1 HT2 HTW HUW HW4 HB4
    go_upto_region 9 with fail
    simp only [← HSB.out]
    rw [← HW6.out]
    have HNW := Lib.hid (new_first (nn : Int) jo jc J W6 HT6.out HJS.out.1)
    go_wp2_with fail
    refine HNW.out.mono ?_
    rintro e w9 ⟨px, rfl, hpx, ⟨htab, hfst⟩, hb9⟩
    obtain ⟨W9, hW9⟩ : ∃ W9, W9 = w9.alloc (.cells #[.int .i64 0, .int .i64 0, .int .i64 0] 52) := ⟨_, rfl⟩
    have hb99 : Below w9.heap.size w9 W9 := by rw [hW9]; exact (Below.refl _ _).alloc (Nat.le_refl _) _
    have hb69 : Below W6.heap.size W6 W9 := below_more hb9 hb99 hb9.size
    have HTX := Lib.hid (show Tab W9 px nn J ∧ FirstAt W9 px J nn from ⟨htab.mono (Nat.le_refl _) hb99, (hfst nn rfl).mono (Nat.le_refl _) hb99⟩)
    have HT19 := Lib.hid (show Tab W9 p1 n T ∧ FirstAt W9 p1 T n from ⟨HT16.out.1.mono (Nat.le_refl _) hb69, HT16.out.2.mono (Nat.le_refl _) hb69⟩)
    have HT29 := Lib.hid (show Tab W9 p2 n' U ∧ FirstAt W9 p2 U n' from ⟨HT26.out.1.mono (Nat.le_refl _) hb69, HT26.out.2.mono (Nat.le_refl _) hb69⟩)
    have HR9 := Lib.hid (HR6.out.after hb69)
    have HTJ := Lib.hid (HT6.out.mono (Nat.le_refl _) hb69)
    have HB9 := Lib.hid (below_more HB6.out hb69 HB6.out.size)
    have HW9 := Lib.hid hW9
    clear k0 k1 HNW hpx htab hfst hb9 hb99 hb69 hW9 HT16 HT26 HR6 HT6 HB6
    go_upto_region 10 with fail
    rw [← HW9.out]
    have HGX := Lib.hid (genus_of px nn mm J P W9 HTX.out.1 HTX.out.2 HJS.out.1 HJS.out.2 HJC.out)
    go_wp2_with fail
    refine HGX.out.mono ?_
    rintro e w12 ⟨gl, rfl, hgl, hrl, hb12⟩
    have HG1' := Lib.hid (genus_of p1 n m T L w12 (HT19.out.1.mono (Nat.le_refl _) hb12) (HT19.out.2.mono (Nat.le_refl _) hb12) HS1.out HL.out HCM.out)
    clear HGX
    go_wp2_with fail
    refine HG1'.out.mono ?_
    rintro e w13 ⟨g1, rfl, hg1, hr1, hb13⟩
    have hb913 : Below W9.heap.size W9 w13 := below_more hb12 hb13 hb12.size
    have HG2' := Lib.hid (genus_of p2 n' m' U K w13 (HT29.out.1.mono (Nat.le_refl _) hb913) (HT29.out.2.mono (Nat.le_refl _) hb913) HS2.out HKK.out HCM'.out)
    clear HG1'
    go_wp2_with fail
    refine HG2'.out.mono ?_
    rintro e w14 ⟨g2, rfl, hg2, hr2, hb14⟩
    clear HG2'
    have hb914 : Below W9.heap.size W9 w14 := below_more hb913 hb14 hb913.size
    have HOWN := Lib.hid (show w14.ownsRow w12.heap.size 33 6 (.slice (some ⟨g1, 0, none⟩) m m) m (iv (genF T L n) (6 * m)) from (hr1.after hb14).owns hg1 (by rw [iv_length]; omega) (by unfold maxLen; omega))
    have HNEWS := Lib.hid (show ∀ j u, (iv (genF U K n') (6 * m'))[j]? = some u → w14.cell? ((⟨g2, 0, none⟩ : Addr).add j) = some u from fun j u hj => by
      rw [Addr.add_lit, Nat.zero_add]
      exact hr2.cell hj)
    have HONE := Lib.hid (show ∀ u ∈ iv (genF U K n') (6 * m'), u.oneCell' = true from fun u hu => by
      obtain ⟨x, -, rfl⟩ := List.mem_map.1 hu
      rfl)
    have HLN := Lib.hid (show (iv (genF U K n') (6 * m')).length = m' * 6 from by rw [iv_length]; omega)
    have HRL14 := Lib.hid ((hrl.after hb13).after hb14)
    have HGL := Lib.hid hrl.lt
    have hsz14 : w12.heap.size ≤ w14.heap.size := Nat.le_trans hb13.size hb14.size
    have HS12 := Lib.hid hb12.size
    have HB914 := Lib.hid hb914
    have HG1L := Lib.hid hg1
    clear hgl hrl hb12 hg1 hr1 hb13 hb913 hg2 hr2 hb14 hb914
    go_wp2_with (at_builtin; refine wpList_append_own _ rfl _ _ 28 rfl w12.heap.size 33 i0 _ 6 48 (by kernel_rfl) hi hz0 hz1 hz2 rfl (by decide) _ m (iv (genF T L n) (6 * m)) rfl HOWN.out ⟨g2, 0, none⟩ m' m' (iv (genF U K n') (6 * m')) rfl HLN.out HNEWS.out HONE.out (by unfold maxLen; omega) (by omega) hsz14 ?_)
    intro v' w15 hown hgr _
    rw [← HMM.out] at hown
    obtain ⟨va, vc, rfl⟩ := owns_slice hown
    have hb15 : Below w12.heap.size w14 w15 := (Below.refl _ _).grown hgr hsz14 (fun k hk => by cases hk; exact HG1L.out)
    have HB15 := Lib.hid (show Below W9.heap.size W9 w15 from HB914.out.trans (hb15.mono HS12.out))
    have HRL15 := Lib.hid (HRL14.out.below hb15 HGL.out)
    have HOW15 := Lib.hid hown
    clear hown hgr hb15 HOWN HNEWS HONE HLN HRL14 hsz14
    have HSPL := Lib.hid (split_L HJS.out.1 HJS.out.2 HJC.out w15 px (HTX.out.1.mono (Nat.le_refl _) HB15.out))
    go_wp2_with fail
    refine HSPL.out.mono ?_
    rintro e w16 ⟨pa, pcap, rfl, hpa, hb16⟩
    have HPA := Lib.hid hpa
    have HRL := Lib.hid (HRL15.out.after hb16)
    have HOW := Lib.hid (owns_below HOW15.out hb16)
    have hb916 : Below W9.heap.size W9 w16 := below_more HB15.out hb16 HB15.out.size
    have HB16 := Lib.hid (below_more HB9.out hb916 HB9.out.size)
    have HRS := Lib.hid (HR9.out.after hb916)
    have HTJ16 := Lib.hid (HTJ.out.mono (Nat.le_refl _) hb916)
    have HWR := Lib.hid (show ∀ k i, k < mm → i < 6 → (iv (genF T L n) (6 * m) ++ iv (genF U K n') (6 * m'))[k * 6 + i]? = some (.int .i64 (genF J P nn (k * 6 + i))) from fun k i hk hi6 => by
      have hmm := HMM.out
      by_cases e : k < m
      · rw [List.getElem?_append_left (by rw [iv_length]; omega), iv_get _ (by omega), HJL.out k i e hi6]
      · obtain ⟨j, rfl⟩ : ∃ j, k = m + j := ⟨k - m, by omega⟩
        rw [List.getElem?_append_right (by rw [iv_length]; omega), iv_length, show (m + j) * 6 + i - 6 * m = j * 6 + i by omega, iv_get _ (by omega), HJR.out j i hi6])
    have hne : ((mm : Int) != (mm : Int)) = false := by simp
    have hmm40 : mm ≤ 40 := by have := HMM.out; omega
    clear hpa hb16 hb916 HSPL HRL15 HOW15 HB15 HB914 HJL HJR
    go_wp2
    go_loopw [80] (fun i ws => ∃ k : Nat, k ≤ mm ∧ i = .int .i64 k ∧ Below w16.heap.size w16 ws) (fun i _ => mm - (intOf i).toNat)
    case atStart => exact ⟨0, by omega, rfl, Below.refl _ _⟩
    case round =>
    obtain ⟨k, hk, rfl, hb⟩ := hrel
    obtain ⟨X, rfl⟩ : ∃ X : World, X = wr := ⟨_, rfl⟩
    have HB := Lib.hid hb
    clear hb
    by_cases hkm : k < mm
    case neg =>
      obtain rfl : mm = k := by omega
      have hrs := HRS.out.after HB.out
      have k0 := hrs.cell (i := 0) rfl
      have k1 := hrs.cell (i := 1) rfl
      obtain ⟨E, ok, hKE⟩ := kind_exists (nn : Int) J
      obtain rfl : ok = true := hKE.ok.2 HJS.out.1
      have htj := HTJ16.out.mono (Nat.le_refl _) HB.out
      have HSS := Lib.hid (gsame_any (nn : Int) (nn : Int) jo jo jc jc J J E E true true X htj htj HJS.out.1.t1 HJS.out.1.t1 hKE hKE)
      have HBF := Lib.hid (below_more HB16.out HB.out HB16.out.size)
      clear hrs hKE htj
      go_wp2_with fail
      refine HSS.out.mono ?_
      rintro e w23 ⟨rfl, hb23⟩
      have HF := Lib.hid (below_more HB0.out (below_more HBF.out hb23 HBF.out.size) HB0.out.size)
      clear hb23 k0 k1 HSS
      simp only [decide_true, Bool.and_self]
      go_wp2
      exact bodyPost_ret (v := .bool true) (by simp [results, Tryz.results7, go_sem]) rfl ⟨rfl, HF.out⟩
    case pos =>
    obtain ⟨pb, rfl, hpb, hpk⟩ := HPA.out (by omega)
    obtain ⟨aoS, cS, aoV, cV, aoT, cT, q0, q1, -, -, hTS, -, -⟩ := hpk k hkm
    obtain ⟨S, hS⟩ : ∃ S, S = subS J (ofShell P J.length k) := ⟨_, rfl⟩
    obtain ⟨nk, hnk⟩ : ∃ nk, nk = (vertsP J (ofShell P J.length k)).length := ⟨_, rfl⟩
    have HPS := Lib.hid (show Surf (nk : Int) S from by rw [hS, hnk]; exact part_surf HJS.out.1 HJS.out.2 k)
    obtain ⟨Mk, hMk⟩ := shells_exist (Adj S) S.length
    have HP1 := Lib.hid (show cnt Mk S.length = 1 ∧ ∀ i, i < 6 → genF S Mk nk (0 * 6 + i) = genF J P nn (k * 6 + i) from by
      rw [hS] at hMk ⊢
      rw [hnk]
      exact ⟨part_one HJS.out.1 HJS.out.2 HJC.out hkm hMk, fun i hi6 => part_gen HJS.out.1 HJS.out.2 HJC.out hkm hMk hi6⟩)
    have HMK := Lib.hid hMk
    have q0' : X.cell? ⟨pb, k * 4, none⟩ = some (.int .i64 (nk : Int)) := (HB.out.cell (p := ⟨pb, k * 4, none⟩) hpb).trans (by rw [hnk]; exact q0)
    have q1' : X.cell? ⟨pb, k * 4 + 1, none⟩ = some (.slice aoS S.length cS) := (HB.out.cell (p := ⟨pb, k * 4 + 1, none⟩) hpb).trans (by rw [hS]; exact q1)
    have HTS := Lib.hid (show TrisAt X aoS S from by rw [hS]; exact hTS.mono (Nat.le_refl _) HB.out)
    have HNS := Lib.hid (new_first (nk : Int) aoS cS S X HTS.out HPS.out)
    have hk0 : (0 : Int) ≤ (k : Int) := by omega
    have hk1 : (k : Int) < (mm : Int) := by omega
    clear q0 q1 hpk hTS hS hnk hMk hpb
    go_wp2_with fail
    refine HNS.out.mono ?_
    rintro e v9 ⟨py, rfl, -, ⟨htaby, hfsty⟩, hb9⟩
    obtain ⟨V9, hV9⟩ : ∃ V9, V9 = v9.alloc (.cells #[.int .i64 0, .int .i64 0, .int .i64 0] 52) := ⟨_, rfl⟩
    have hb99 : Below v9.heap.size v9 V9 := by rw [hV9]; exact (Below.refl _ _).alloc (Nat.le_refl _) _
    have hbV : Below w16.heap.size w16 V9 := below_more HB.out (below_more hb9 hb99 hb9.size) HB.out.size
    have HBV := Lib.hid hbV
    have HTY := Lib.hid (show Tab V9 py nk S ∧ FirstAt V9 py S nk from ⟨htaby.mono (Nat.le_refl _) hb99, (hfsty nk rfl).mono (Nat.le_refl _) hb99⟩)
    have HV9 := Lib.hid hV9
    have hrl := HRL.out.after hbV
    obtain ⟨gv, cu, hu, hgb, hgl, -, -, hcell, -⟩ := owns_block (owns_below HOW.out hbV) (by omega)
    simp only [Value.slice.injEq, true_and] at hu
    obtain ⟨rfl, rfl⟩ := hu
    have hgl1 := hrl.lt
    obtain ⟨f, hf⟩ : ∃ f : Nat → Int, f = fun i => genF J P nn (k * 6 + i) := ⟨_, rfl⟩
    have hfi : ∀ i, genF J P nn (k * 6 + i) = f i := fun i => by rw [hf]
    have a0 := hrl.cell (iv_get (genF J P nn) (show k * 6 + 0 < 6 * mm by omega))
    have a1 := hrl.cell (iv_get (genF J P nn) (show k * 6 + 1 < 6 * mm by omega))
    have a2 := hrl.cell (iv_get (genF J P nn) (show k * 6 + 2 < 6 * mm by omega))
    have a3 := hrl.cell (iv_get (genF J P nn) (show k * 6 + 3 < 6 * mm by omega))
    have a4 := hrl.cell (iv_get (genF J P nn) (show k * 6 + 4 < 6 * mm by omega))
    have a5 := hrl.cell (iv_get (genF J P nn) (show k * 6 + 5 < 6 * mm by omega))
    have b0 := hcell _ _ (HWR.out k 0 hkm (by omega))
    have b1 := hcell _ _ (HWR.out k 1 hkm (by omega))
    have b2 := hcell _ _ (HWR.out k 2 hkm (by omega))
    have b3 := hcell _ _ (HWR.out k 3 hkm (by omega))
    have b4 := hcell _ _ (HWR.out k 4 hkm (by omega))
    have b5 := hcell _ _ (HWR.out k 5 hkm (by omega))
    rw [hfi] at a0 a1 a2 a3 a4 a5 b0 b1 b2 b3 b4 b5
    have HWY := Lib.hid (show ∀ Y, Hid (Below V9.heap.size V9 Y) → Calls Tryz.prog 12 #[.pointer (some ⟨py, 0, none⟩)] Y fun e w' => e = .returned (.agg #[.int .i64 (f 0), .int .i64 (f 1), .int .i64 (f 2), .int .i64 (f 3), .int .i64 (f 4), .int .i64 (f 5)]) ∧ Hid (Below V9.heap.size V9 w') from fun Y h =>
      (whole_ok py nk 1 S Mk Y (HTY.out.1.mono (Nat.le_refl _) h.out) (HTY.out.2.mono (Nat.le_refl _) h.out) HPS.out HMK.out (by rw [HP1.out.1]; rfl)).mono fun e w' ⟨h1, h3⟩ => ⟨by
        rw [h1, sum_of_one, sum_of_one, sum_of_one, sum_of_one, sum_of_one, sum_of_one, HP1.out.2 0 (by omega), HP1.out.2 1 (by omega), HP1.out.2 2 (by omega), HP1.out.2 3 (by omega), HP1.out.2 4 (by omega), HP1.out.2 5 (by omega), hfi, hfi, hfi, hfi, hfi, hfi], below_more h.out h3 h.out.size⟩)
    generalize f 0 = f0 at a0 b0 HWY
    generalize f 1 = f1 at a1 b1 HWY
    generalize f 2 = f2 at a2 b2 HWY
    generalize f 3 = f3 at a3 b3 HWY
    generalize f 4 = f4 at a4 b4 HWY
    generalize f 5 = f5 at a5 b5 HWY
    have HKA := Lib.hid (show ∀ Y, Hid (Below V9.heap.size V9 Y) → (Y.cell? ⟨gl, k * 6, none⟩ = some (.int .i64 f0) ∧ Y.cell? ⟨gl, k * 6 + 1, none⟩ = some (.int .i64 f1) ∧ Y.cell? ⟨gl, k * 6 + 2, none⟩ = some (.int .i64 f2) ∧ Y.cell? ⟨gl, k * 6 + 3, none⟩ = some (.int .i64 f3) ∧ Y.cell? ⟨gl, k * 6 + 4, none⟩ = some (.int .i64 f4) ∧ Y.cell? ⟨gl, k * 6 + 5, none⟩ = some (.int .i64 f5) ∧ Y.cell? ⟨gv, k * 6, none⟩ = some (.int .i64 f0) ∧ Y.cell? ⟨gv, k * 6 + 1, none⟩ = some (.int .i64 f1) ∧ Y.cell? ⟨gv, k * 6 + 2, none⟩ = some (.int .i64 f2) ∧ Y.cell? ⟨gv, k * 6 + 3, none⟩ = some (.int .i64 f3) ∧ Y.cell? ⟨gv, k * 6 + 4, none⟩ = some (.int .i64 f4) ∧ Y.cell? ⟨gv, k * 6 + 5, none⟩ = some (.int .i64 f5)) from fun Y h =>
      ⟨(h.out.cell (p := ⟨gl, k * 6, none⟩) hgl1).trans a0, (h.out.cell (p := ⟨gl, k * 6 + 1, none⟩) hgl1).trans a1, (h.out.cell (p := ⟨gl, k * 6 + 2, none⟩) hgl1).trans a2, (h.out.cell (p := ⟨gl, k * 6 + 3, none⟩) hgl1).trans a3, (h.out.cell (p := ⟨gl, k * 6 + 4, none⟩) hgl1).trans a4, (h.out.cell (p := ⟨gl, k * 6 + 5, none⟩) hgl1).trans a5,
       (h.out.cell (p := ⟨gv, k * 6, none⟩) hgl).trans b0, (h.out.cell (p := ⟨gv, k * 6 + 1, none⟩) hgl).trans b1, (h.out.cell (p := ⟨gv, k * 6 + 2, none⟩) hgl).trans b2, (h.out.cell (p := ⟨gv, k * 6 + 3, none⟩) hgl).trans b3, (h.out.cell (p := ⟨gv, k * 6 + 4, none⟩) hgl).trans b4, (h.out.cell (p := ⟨gv, k * 6 + 5, none⟩) hgl).trans b5⟩)
    have hcmp : ∀ X : World, (Op.equalIn 10000 33 (.agg #[.int .i64 f0, .int .i64 f1, .int .i64 f2, .int .i64 f3, .int .i64 f4, .int .i64 f5]) (.agg #[.int .i64 f0, .int .i64 f1, .int .i64 f2, .int .i64 f3, .int .i64 f4, .int .i64 f5])).run Tryz.prog X = .ok true X := fun X => num_one f0 f1 f2 f3 f4 f5 X
    have HRF := Lib.hid (Below.refl V9.heap.size V9)
    have HDR := Lib.hid (show Below V9.heap.size V9 V9.drew from ⟨rfl, rfl, rfl, Nat.le_refl _, fun _ _ => rfl⟩)
    clear hf hfi a0 a1 a2 a3 a4 a5 b0 b1 b2 b3 b4 b5 hcell hgb hgl hgl1 hrl hbV hb99 hV9 htaby hfsty hb9 HNS q0' q1'
    go_upto_region 20 with fail
    rw [← HV9.out]
    go_region_held3 (fun Y => Y.cell? ⟨gl, k * 6, none⟩ = some (.int .i64 f0) ∧ Y.cell? ⟨gl, k * 6 + 1, none⟩ = some (.int .i64 f1) ∧ Y.cell? ⟨gl, k * 6 + 2, none⟩ = some (.int .i64 f2) ∧ Y.cell? ⟨gl, k * 6 + 3, none⟩ = some (.int .i64 f3) ∧ Y.cell? ⟨gl, k * 6 + 4, none⟩ = some (.int .i64 f4) ∧ Y.cell? ⟨gl, k * 6 + 5, none⟩ = some (.int .i64 f5) ∧ Y.cell? ⟨gv, k * 6, none⟩ = some (.int .i64 f0) ∧ Y.cell? ⟨gv, k * 6 + 1, none⟩ = some (.int .i64 f1) ∧ Y.cell? ⟨gv, k * 6 + 2, none⟩ = some (.int .i64 f2) ∧ Y.cell? ⟨gv, k * 6 + 3, none⟩ = some (.int .i64 f3) ∧ Y.cell? ⟨gv, k * 6 + 4, none⟩ = some (.int .i64 f4) ∧ Y.cell? ⟨gv, k * 6 + 5, none⟩ = some (.int .i64 f5))
      (exact HKA.out _ (by assumption))
      (first | (go_at_call 12; (with_reducible refine (HWY.out _ (by assumption)).mono ?_); rintro e wY ⟨rfl, hY⟩))
    all_goals
      have HBR := Lib.hid (below_more HBV.out hY.out HBV.out.size)
      go_wp2
      go_roundw
      case rel => exact ⟨k + 1, by omega, by go_num, HBR.out⟩
      case measure => simp [intOf]; omega
end Go.Proofs.YtbeefabboabfgaaGreat

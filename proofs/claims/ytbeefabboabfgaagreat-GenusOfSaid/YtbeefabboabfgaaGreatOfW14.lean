/- gypsumlaw14.GenusOf: the walk. -/
import Derived.Test.YtbeefabboabfgaaGreatSolid14
import Derived.Test.YtbeefabboabfgaaGreatTabSoup
import Derived.Test.YtbeefabboabfgaaGreatOf14
import Derived.Test.YtbeefabboabfgaaGreatNumEq
namespace Go.Proofs.YtbeefabboabfgaaGreat
set_option linter.unusedVariables false
set_option linter.unusedSimpArgs false
open Go.RowKit
theorem num_same (a b c d e f : Int) (w : World) : (Op.equalIn 10000 33 (.agg #[.int .i64 a, .int .i64 b, .int .i64 c, .int .i64 d, .int .i64 e, .int .i64 f]) (.agg #[.int .i64 a, .int .i64 b, .int .i64 c, .int .i64 d, .int .i64 e, .int .i64 f])).run Tryz.prog w = .ok true w := by
  have := num_equal a b c d e f a b c d e f w
  simpa using this
set_option maxRecDepth 100000 in
set_option maxHeartbeats 6000000 in
theorem ofW14 (N : Int) (ao : Option Addr) (cap : Nat) (T : List Tr) (w : World) (hT : TrisAt w ao T) (hm : T.length ≤ 9223372036854775807) :
    Calls Tryz.prog 3 #[.agg #[.int .i64 N, .slice ao T.length cap]] w fun e w' => e = .returned (.bool true) ∧ Below w.heap.size w w' := by
  obtain ⟨W0, hW0⟩ : ∃ W0, W0 = w.alloc (.cells #[.int .i64 N, .slice ao T.length cap] 24) := ⟨_, rfl⟩
  have hb0 : Below w.heap.size w W0 := by rw [hW0]; exact (Below.refl _ _).alloc (Nat.le_refl _) _
  have hr0 : RowIs W0 w.heap.size 24 [.int .i64 N, .slice ao T.length cap] := by rw [hW0]; exact RowIs.made w 24 [.int .i64 N, .slice ao T.length cap]
  have HT := Lib.hid (hT.mono (Nat.le_refl _) hb0)
  have HM := Lib.hid hm
  obtain ⟨xb, hxb⟩ : ∃ x, x = w.heap.size := ⟨_, rfl⟩
  rw [← hxb] at hr0
  have HXB := Lib.hid hxb
  have HR := Lib.hid hr0
  have HB0 := Lib.hid hb0
  have HW0 := Lib.hid hW0
  clear hb0 hr0 hW0 hT hm hxb
  go_enter Tryz.func3, Tryz.ntmps3
  go_upto_region 1 with fail
  simp only [← HXB.out]
  rw [← HW0.out]
  go_wp2_with fail
  refine (awake14 _).mono ?_
  rintro e w1 ⟨rfl, hb1⟩
  have HB1 := Lib.hid hb1
  have hr1 := HR.out.after hb1
  have x0 := hr1.cell (i := 0) rfl
  have x1 := hr1.cell (i := 1) rfl
  clear hb1 hr1
  go_wp2_with fail
  refine (laid_any N ao cap T w1 (HT.out.mono (Nat.le_refl _) HB1.out) HM.out).mono ?_
  intro e w2 hpost
  clear x0 x1
  rcases hpost with ⟨n, p, rfl, rfl, hp, htab, hfst, hs, hl40, hn60, hb2⟩ | ⟨rfl, -, hb2⟩
  case inr =>
    have HF := Lib.hid (below_more HB0.out (below_more HB1.out hb2 HB1.out.size) HB0.out.size)
    clear hb2
    go_wp2
    exact bodyPost_ret (v := .bool true) (by simp [results, Tryz.results3, go_sem]) rfl ⟨rfl, HF.out⟩
  case inl =>
  have HB12 := Lib.hid (below_more HB1.out hb2 HB1.out.size)
  have HB2 := Lib.hid (below_more HB0.out HB12.out HB0.out.size)
  obtain ⟨L, hL⟩ := shells_exist (Adj T) T.length
  obtain ⟨m, hm⟩ := Int.eq_ofNat_of_zero_le (cnt_nonneg L T.length)
  have hmn : m ≤ 40 := by have := hL.cnt_le; omega
  have hTW := HT.out.mono (Nat.le_refl _) HB12.out
  have hbx := HR.out.after HB12.out
  have HGA := Lib.hid (show ∀ X, Hid (Below w2.heap.size w2 X) → Calls Tryz.prog 10 #[.pointer (some ⟨p, 0, none⟩)] X fun e w' => ∃ g, e = .returned (.slice (some ⟨g, 0, none⟩) m m) ∧ Hid (RowIs w' g 33 (iv (genF T L n) (6 * m))) ∧ Hid (Below X.heap.size X w') ∧ Hid (Below w2.heap.size w2 w') from fun X h =>
    (genus_of p n m T L X (htab.mono (Nat.le_refl _) h.out) (hfst.mono (Nat.le_refl _) h.out) hs hL hm.symm).mono fun e w' ⟨g, h1, _, h2, h3⟩ => ⟨g, h1, h2, h3, below_more h.out h3 h.out.size⟩)
  have HGB := Lib.hid (show ∀ X, Hid (Below w2.heap.size w2 X) → Calls Tryz.prog 11 #[.agg #[.int .i64 (n : Int), .slice ao T.length cap]] X fun e w' => ∃ ua uc, e = .returned (.slice ua m uc) ∧ Hid (w'.ownsRow w2.heap.size 35 6 (.slice ua m uc) m (iv (genF T L n) (6 * m))) ∧ Hid (Below X.heap.size X w') ∧ Hid (Below w2.heap.size w2 w') from fun X h =>
    (of14 n ao cap T L m X (hTW.mono (Nat.le_refl _) h.out) hs hL hm.symm).mono fun e w' ⟨u, h1, h2, h3⟩ => by
      obtain ⟨ua, uc, rfl⟩ := owns_slice h2
      exact ⟨ua, uc, h1, owns_base h2 h.out.size, h3, below_more h.out h3 h.out.size⟩)
  have HWA := Lib.hid (show ∀ X, Hid (Below w2.heap.size w2 X) → Calls Tryz.prog 12 #[.pointer (some ⟨p, 0, none⟩)] X fun e w' => e = .returned (.agg #[.int .i64 (sumF (genF T L n) m 0), .int .i64 (sumF (genF T L n) m 1), .int .i64 (sumF (genF T L n) m 2), .int .i64 (sumF (genF T L n) m 3), .int .i64 (sumF (genF T L n) m 4), .int .i64 (sumF (genF T L n) m 5)]) ∧ Hid (Below X.heap.size X w') ∧ Hid (Below w2.heap.size w2 w') from fun X h =>
    (whole_ok p n m T L X (htab.mono (Nat.le_refl _) h.out) (hfst.mono (Nat.le_refl _) h.out) hs hL hm.symm).mono fun e w' ⟨h1, h3⟩ => ⟨h1, h3, below_more h.out h3 h.out.size⟩)
  have HWB := Lib.hid (show ∀ X, Hid (Below w2.heap.size w2 X) → Calls Tryz.prog 13 #[.agg #[.int .i64 (n : Int), .slice ao T.length cap]] X fun e w' => e = .returned (.agg #[.int .i64 (sumF (genF T L n) m 0), .int .i64 (sumF (genF T L n) m 1), .int .i64 (sumF (genF T L n) m 2), .int .i64 (sumF (genF T L n) m 3), .int .i64 (sumF (genF T L n) m 4), .int .i64 (sumF (genF T L n) m 5)]) ∧ Hid (Below X.heap.size X w') ∧ Hid (Below w2.heap.size w2 w') from fun X h =>
    (whole14 n ao cap T L m X (hTW.mono (Nat.le_refl _) h.out) hs hL hm.symm).mono fun e w' ⟨h1, h3⟩ => ⟨h1, h3, below_more h.out h3 h.out.size⟩)
  have HK := Lib.hid (show ∀ X, Hid (Below w2.heap.size w2 X) → X.cell? ⟨xb, 0, none⟩ = some (.int .i64 (n : Int)) ∧ X.cell? ⟨xb, 1, none⟩ = some (.slice ao T.length cap) from fun X h => ⟨(hbx.after h.out).cell (i := 0) rfl, (hbx.after h.out).cell (i := 1) rfl⟩)
  have HRF := Lib.hid (Below.refl w2.heap.size w2)
  have HDR := Lib.hid (show Below w2.heap.size w2 w2.drew from ⟨rfl, rfl, rfl, Nat.le_refl _, fun _ _ => rfl⟩)
  obtain ⟨Φ, hΦ⟩ : ∃ Φ, Φ = genF T L n := ⟨_, rfl⟩
  rw [← hΦ] at HGA HGB HWA HWB
  obtain ⟨s0, hs0⟩ : ∃ x, x = sumF Φ m 0 := ⟨_, rfl⟩
  obtain ⟨s1, hs1⟩ : ∃ x, x = sumF Φ m 1 := ⟨_, rfl⟩
  obtain ⟨s2, hs2⟩ : ∃ x, x = sumF Φ m 2 := ⟨_, rfl⟩
  obtain ⟨s3, hs3⟩ : ∃ x, x = sumF Φ m 3 := ⟨_, rfl⟩
  obtain ⟨s4, hs4⟩ : ∃ x, x = sumF Φ m 4 := ⟨_, rfl⟩
  obtain ⟨s5, hs5⟩ : ∃ x, x = sumF Φ m 5 := ⟨_, rfl⟩
  simp only [← hs0, ← hs1, ← hs2, ← hs3, ← hs4, ← hs5] at HWA HWB
  have HB12' := HB12
  clear hs0 hs1 hs2 hs3 hs4 hs5 htab hfst hs hL hm hl40 hn60 hTW hbx hΦ hb2 hp HT HR HB12 HB12'
  go_upto_region 6 with fail
  go_region_held3 (fun w' => w'.cell? ⟨xb, 0, none⟩ = some (.int .i64 (n : Int)) ∧ w'.cell? ⟨xb, 1, none⟩ = some (.slice ao T.length cap))
    (exact HK.out _ (by assumption))
    (first
      | (go_at_call 10; (with_reducible refine (HGA.out _ (by assumption)).mono ?_); rintro e wG ⟨go, rfl, hro, hbG, hG⟩)
      | (go_at_call 11; (with_reducible refine (HGB.out _ (by assumption)).mono ?_); rintro e wR ⟨ua, uc, rfl, hown, hbR, hR⟩))
  all_goals
    have HRG := Lib.hid (hro.out.after hbR.out)
    have HDR2 := Lib.hid (show Below w2.heap.size w2 wR.drew from hR.out.trans ⟨rfl, rfl, rfl, Nat.le_refl _, fun _ _ => rfl⟩)
    have hcmp : ∀ X : World, (Op.equalIn 10000 33 (.agg #[.int .i64 s0, .int .i64 s1, .int .i64 s2, .int .i64 s3, .int .i64 s4, .int .i64 s5]) (.agg #[.int .i64 s0, .int .i64 s1, .int .i64 s2, .int .i64 s3, .int .i64 s4, .int .i64 s5])).run Tryz.prog X = .ok true X := fun X => num_same s0 s1 s2 s3 s4 s5 X
    have hne : ((m : Int) != (m : Int)) = false := by simp
    go_upto_region 7 with fail
    go_region_held3 (fun w' => w'.cell? ⟨xb, 0, none⟩ = some (.int .i64 (n : Int)) ∧ w'.cell? ⟨xb, 1, none⟩ = some (.slice ao T.length cap))
      (exact HK.out _ (by assumption))
      (first
        | (go_at_call 12; (with_reducible refine (HWA.out _ (by assumption)).mono ?_); rintro e wG2 ⟨rfl, hbG2, hG2⟩)
        | (go_at_call 13; (with_reducible refine (HWB.out _ (by assumption)).mono ?_); rintro e wR2 ⟨rfl, hbR2, hR2⟩))
    all_goals
      have HRG2 := Lib.hid (((HRG.out.drew1).after hbG2.out).after hbR2.out)
      have HOW2 := Lib.hid (owns_below (owns_below hown.out.drew hbG2.out) hbR2.out)
      have HB3 := Lib.hid (below_more HB2.out hR2.out HB2.out.size)
      clear hro hown hbG hG hbR hR HRG HDR2 hbG2 hbR2 hG2 hR2 hcmp HGA HGB HWA HWB HK HRF HDR HB1 HB2
      go_wp2
      clear hne
      go_loopw [31] (fun i ws => ∃ k : Nat, k ≤ m ∧ i = .int .i64 k ∧ Below wR2.heap.size wR2 ws) (fun i _ => m - (intOf i).toNat)
      case atStart => exact ⟨0, by omega, rfl, Below.refl _ _⟩
      case round =>
      obtain ⟨k, hk, rfl, hb⟩ := hrel
      obtain ⟨X, rfl⟩ : ∃ X : World, X = wr := ⟨_, rfl⟩
      have HB := Lib.hid hb
      by_cases hkm : k < m
      case neg =>
        obtain rfl : m = k := by omega
        have HF := Lib.hid (below_more HB3.out hb HB3.out.size)
        clear hb
        go_wp2
        exact bodyPost_ret (v := .bool true) (by simp [results, Tryz.results3, go_sem]) rfl ⟨rfl, HF.out⟩
      case pos =>
      have hro := HRG2.out.after hb
      have p0 := hro.cell (iv_get Φ (show k * 6 < 6 * m by omega))
      have p1 := hro.cell (iv_get Φ (show k * 6 + 1 < 6 * m by omega))
      have p2 := hro.cell (iv_get Φ (show k * 6 + 2 < 6 * m by omega))
      have p3 := hro.cell (iv_get Φ (show k * 6 + 3 < 6 * m by omega))
      have p4 := hro.cell (iv_get Φ (show k * 6 + 4 < 6 * m by omega))
      have p5 := hro.cell (iv_get Φ (show k * 6 + 5 < 6 * m by omega))
      obtain ⟨gu, cu, hu, hgb, hgl, -, -, hcell, -⟩ := owns_block (owns_below HOW2.out hb) (by omega)
      simp only [Value.slice.injEq, true_and] at hu
      obtain ⟨rfl, rfl⟩ := hu
      have q0 := hcell _ _ (iv_get Φ (show k * 6 < 6 * m by omega))
      have q1 := hcell _ _ (iv_get Φ (show k * 6 + 1 < 6 * m by omega))
      have q2 := hcell _ _ (iv_get Φ (show k * 6 + 2 < 6 * m by omega))
      have q3 := hcell _ _ (iv_get Φ (show k * 6 + 3 < 6 * m by omega))
      have q4 := hcell _ _ (iv_get Φ (show k * 6 + 4 < 6 * m by omega))
      have q5 := hcell _ _ (iv_get Φ (show k * 6 + 5 < 6 * m by omega))
      generalize Φ (k * 6) = f0 at p0 q0
      generalize Φ (k * 6 + 1) = f1 at p1 q1
      generalize Φ (k * 6 + 2) = f2 at p2 q2
      generalize Φ (k * 6 + 3) = f3 at p3 q3
      generalize Φ (k * 6 + 4) = f4 at p4 q4
      generalize Φ (k * 6 + 5) = f5 at p5 q5
      have hcmp : ∀ X : World, (Op.equalIn 10000 33 (.agg #[.int .i64 f0, .int .i64 f1, .int .i64 f2, .int .i64 f3, .int .i64 f4, .int .i64 f5]) (.agg #[.int .i64 f0, .int .i64 f1, .int .i64 f2, .int .i64 f3, .int .i64 f4, .int .i64 f5])).run Tryz.prog X = .ok true X := fun X => num_same f0 f1 f2 f3 f4 f5 X
      have hkz : (0 : Int) ≤ (k : Int) := by omega
      have hkl : (k : Int) < (m : Int) := by omega
      clear hro hgb hgl hcell hb
      go_upto_region 12 with fail
      go_quiet (fail)
      go_wp2
      go_roundw
      case rel => exact ⟨k + 1, by omega, by go_num, HB.out.trans ⟨rfl, rfl, rfl, Nat.le_refl _, fun _ _ => rfl⟩⟩
      case measure => simp [intOf]; omega
end Go.Proofs.YtbeefabboabfgaaGreat

/- gypsumlaw14.GenusFew: the walk. -/
import Derived.Test.YtbeefabboabfgaaSolid14
import Derived.Test.YtbeefabboabfgaaLaid10
import Derived.Test.YtbeefabboabfgaaDartLaw
namespace Go.Proofs.Ytbeefabboabfgaa
set_option linter.unusedVariables false
set_option linter.unusedSimpArgs false
open Go.RowKit
set_option maxRecDepth 100000 in
set_option maxHeartbeats 4000000 in
theorem few14_any (N : Int) (ao : Option Addr) (cap : Nat) (T : List Tr) (w : World) (hT : TrisAt w ao T) (hm : T.length ≤ 9223372036854775807) :
    Calls Try.prog 4 #[.agg #[.int .i64 N, .slice ao T.length cap]] w fun e w' => e = .returned (.bool true) ∧ Below w.heap.size w w' := by
  obtain ⟨W0, hW0⟩ : ∃ W0, W0 = w.alloc (.cells #[.int .i64 N, .slice ao T.length cap] 24) := ⟨_, rfl⟩
  have hb0 : Below w.heap.size w W0 := by rw [hW0]; exact (Below.refl _ _).alloc (Nat.le_refl _) _
  have hr0 : RowIs W0 w.heap.size 24 [.int .i64 N, .slice ao T.length cap] := by rw [hW0]; exact RowIs.made w 24 [.int .i64 N, .slice ao T.length cap]
  have HT := Lib.hid (hT.mono (Nat.le_refl _) hb0)
  have HM := Lib.hid hm
  have HR := Lib.hid hr0
  have HB0 := Lib.hid hb0
  have HW0 := Lib.hid hW0
  clear hb0 hr0 hW0 hT hm
  go_enter Try.func4, Try.ntmps4
  go_upto_region 1 with fail
  rw [← HW0.out]
  go_wp2_with fail
  refine (awake14 _).mono ?_
  rintro e w1 ⟨rfl, hb1⟩
  have HB1 := Lib.hid hb1
  have hr1 := HR.out.after hb1
  have x0 := hr1.cell (i := 0) rfl
  have x1 := hr1.cell (i := 1) rfl
  clear hb1 hr1
  go_wp2_with fail
  refine (laid_any N ao cap T w1 (HT.out.mono (Nat.le_refl _) HB1.out) HM.out).mono ?_
  intro e w2 hpost
  clear x0 x1
  rcases hpost with ⟨n, p, rfl, rfl, hp, htab, hfst, hs, hl40, hn60, hb2⟩ | ⟨rfl, -, hb2⟩
  case inr =>
    have HF := Lib.hid (below_more HB0.out (below_more HB1.out hb2 HB1.out.size) HB0.out.size)
    clear hb2
    go_wp2
    exact bodyPost_ret (v := .bool true) (by simp [results, Try.results4, go_sem]) rfl ⟨rfl, HF.out⟩
  case inl =>
  have HB2 := Lib.hid (below_more HB0.out (below_more HB1.out hb2 HB1.out.size) HB0.out.size)
  obtain ⟨L, hL⟩ := shells_exist (Adj T) T.length
  obtain ⟨m, hm⟩ := Int.eq_ofNat_of_zero_le (cnt_nonneg L T.length)
  have hmn : m ≤ 40 := by have := hL.cnt_le; omega
  have HG := Lib.hid (genus_of p n m T L w2 htab hfst hs hL hm.symm)
  have HFW := Lib.hid (show ∀ k : Nat, k < m → _ from fun k hk => few_ok hs hL (k := k) (by omega))
  have HV := Lib.hid (show ∀ k, nV T L n k ≤ 60 ∧ nF T L k ≤ 40 ∧ nB T L n k ≤ 60 ∧ nT T L k ≤ 240 from fun k =>
    ⟨by have := cntK_le (shV T L) n k; unfold nV; omega, by have := cntK_le L T.length k; unfold nF; omega, by
      have h1 := cntK_le (keyB T L n) (headsB (bordE T (3 * T.length)) n).length k
      have h2 := headsB_le (bordE T (3 * T.length)) n
      unfold nB; omega, by have := twn_le T L (3 * T.length) k; unfold nT; omega⟩)
  clear hb2 hp htab hfst hs hL hm hl40 hn60
  go_wp2_with fail
  refine HG.out.mono ?_
  rintro e W1 ⟨go, rfl, hgo, hro, hb3⟩
  have HRO := Lib.hid hro
  have HB3 := Lib.hid (below_more HB2.out hb3 HB2.out.size)
  clear hgo hro hb3 HG HB2
  go_wp2
  go_loopw [15] (fun i ws => ∃ k : Nat, k ≤ m ∧ i = .int .i64 k ∧ Below W1.heap.size W1 ws) (fun i _ => m - (intOf i).toNat)
  case atStart => exact ⟨0, by omega, rfl, Below.refl _ _⟩
  case round =>
  obtain ⟨k, hk, rfl, hb⟩ := hrel
  obtain ⟨X, rfl⟩ : ∃ X : World, X = wr := ⟨_, rfl⟩
  have HB := Lib.hid hb
  by_cases hkm : k < m
  case neg =>
    obtain rfl : m = k := by omega
    have HF := Lib.hid (below_more HB3.out hb HB3.out.size)
    clear hb
    go_wp2
    exact bodyPost_ret (v := .bool true) (by simp [results, Try.results4, go_sem]) rfl ⟨rfl, HF.out⟩
  case pos =>
  have hro := HRO.out.after hb
  have p0 := hro.cell (iv_get (genF T L n) (show k * 6 < 6 * m by omega))
  have p1 := hro.cell (iv_get (genF T L n) (show k * 6 + 1 < 6 * m by omega))
  have p2 := hro.cell (iv_get (genF T L n) (show k * 6 + 2 < 6 * m by omega))
  have p3 := hro.cell (iv_get (genF T L n) (show k * 6 + 3 < 6 * m by omega))
  have p4 := hro.cell (iv_get (genF T L n) (show k * 6 + 4 < 6 * m by omega))
  have p5 := hro.cell (iv_get (genF T L n) (show k * 6 + 5 < 6 * m by omega))
  rw [gen0] at p0
  rw [gen1] at p1
  rw [gen2] at p2
  rw [gen3] at p3
  rw [gen4] at p4
  rw [gen5] at p5
  have hfw := HFW.out k hkm
  obtain ⟨bV, bF, bB, bT⟩ := HV.out k
  generalize nV T L n k = V at p0 hfw bV
  generalize hE : nT T L k / 2 = E at p1 hfw
  have bE : E ≤ 240 := by omega
  generalize nF T L k = F at p2 hfw bF
  generalize nB T L n k = B at p3 hfw bB
  generalize euK T L n k = Q at p4
  generalize gnK T L n k = G at p5 hfw
  obtain ⟨v1, hv1⟩ : ∃ v1 : Int, v1 = (V : Int) - 1 := ⟨_, rfl⟩
  obtain ⟨pr, hpr⟩ : ∃ pr : Nat, (V : Int) * v1 = (pr : Int) ∧ pr ≤ 3600 := by
    rcases Nat.eq_zero_or_pos V with rfl | h
    · exact ⟨0, by simp, by omega⟩
    · refine ⟨V * (V - 1), by rw [hv1, Int.natCast_mul, Int.natCast_sub h]; rfl, ?_⟩
      have := Nat.mul_le_mul bV (show V - 1 ≤ 60 by omega)
      omega
  obtain ⟨q, hq⟩ : ∃ q : Nat, (pr : Int) / 2 = (q : Int) := ⟨pr / 2, by omega⟩
  have s1 : (V : Int) - 1 = v1 := hv1.symm
  have s2 : (V : Int) * v1 = (pr : Int) := hpr.1
  have bp := hpr.2
  obtain ⟨f1, f2, f3⟩ := hfw
  rw [s1, s2, tdiv_two (by omega), hq] at f1
  have d1 : decide ((E : Int) > (q : Int)) = false := by simp; omega
  have d1' : decide ((q : Int) < (E : Int)) = false := by simp; omega
  have d1n : decide (q < E) = false := by simp; omega
  have bv1 : -1 ≤ v1 ∧ v1 ≤ 60 := by omega
  have HF2 := Lib.hid f2
  have HF3 := Lib.hid f3
  have hkz : (0 : Int) ≤ (k : Int) := by omega
  have hkl : (k : Int) < (m : Int) := by omega
  clear hE bT hv1 hpr f1 f2 f3 hro hb
  obtain ⟨X1, hX1⟩ : ∃ X1, X1 = X.alloc (.cells #[.int .i64 (V : Int), .int .i64 (E : Int), .int .i64 (F : Int), .int .i64 (B : Int), .int .i64 Q, .int .i64 G] 35) := ⟨_, rfl⟩
  have hrX : RowIs X1 X.heap.size 35 [.int .i64 (V : Int), .int .i64 (E : Int), .int .i64 (F : Int), .int .i64 (B : Int), .int .i64 Q, .int .i64 G] := by rw [hX1]; exact RowIs.made X 35 [.int .i64 (V : Int), .int .i64 (E : Int), .int .i64 (F : Int), .int .i64 (B : Int), .int .i64 Q, .int .i64 G]
  have HBX := Lib.hid (show Below W1.heap.size W1 X1 from by rw [hX1]; exact HB.out.alloc HB.out.size _)
  have q0 := hrX.cell (i := 0) rfl
  have q1 := hrX.cell (i := 1) rfl
  have q2 := hrX.cell (i := 2) rfl
  have q3 := hrX.cell (i := 3) rfl
  have q5 := hrX.cell (i := 5) rfl
  have HX1 := Lib.hid hX1
  clear hX1 hrX
  go_upto_region 9 with fail
  rw [← HX1.out]
  clear p0 p1 p2 p3 p4 p5
  by_cases hB0 : B = 0
  case pos =>
    subst hB0
    have e1 : (2 : Int) * (E : Int) = 3 * (F : Int) := (HF2.out rfl).1
    have e2 : decide ((V : Int) < 4) = false := by have := (HF2.out rfl).2; simp; omega
    have e3 : (((3 : Int) * (F : Int)) != (3 : Int) * (F : Int)) = false := by simp
    by_cases hG : 0 < G
    · have d2 : decide (G > 0) = true := by simpa using hG
      have d2' : decide ((0 : Int) < G) = true := by simpa using hG
      have d3 : decide ((V : Int) < 7) = false := by have := HF3.out hG rfl; simp; omega
      clear hG
      go_wp2
      go_roundw
      case rel => exact ⟨k + 1, by omega, by go_num, HBX.out⟩
      case measure => simp [intOf]; omega
    · have d2 : decide (G > 0) = false := by simpa using hG
      have d2' : decide ((0 : Int) < G) = false := by simpa using hG
      clear hG
      go_wp2
      go_roundw
      case rel => exact ⟨k + 1, by omega, by go_num, HBX.out⟩
      case measure => simp [intOf]; omega
  case neg =>
    have e1 : ((B : Int) == 0) = false := by simp; omega
    clear hB0
    by_cases hG : 0 < G
    · have d2 : decide (G > 0) = true := by simpa using hG
      have d2' : decide ((0 : Int) < G) = true := by simpa using hG
      clear hG
      cases d3 : decide ((V : Int) < 7)
      · go_wp2
        go_roundw
        case rel => exact ⟨k + 1, by omega, by go_num, HBX.out⟩
        case measure => simp [intOf]; omega
      · go_wp2
        go_roundw
        case rel => exact ⟨k + 1, by omega, by go_num, HBX.out⟩
        case measure => simp [intOf]; omega
    · have d2 : decide (G > 0) = false := by simpa using hG
      have d2' : decide ((0 : Int) < G) = false := by simpa using hG
      clear hG
      go_wp2
      go_roundw
      case rel => exact ⟨k + 1, by omega, by go_num, HBX.out⟩
      case measure => simp [intOf]; omega
end Go.Proofs.Ytbeefabboabfgaa

/- gypsumref14.Of: the walk. gypsumref14.Whole: the walk. -/
import Derived.Test.YtbeefabboabfgaaGreatSpread10
import Derived.Test.YtbeefabboabfgaaGreatRef10
import Derived.Test.YtbeefabboabfgaaGreatCycLaw
import Derived.Test.YtbeefabboabfgaaGreatGenusOf
import Derived.StillTailTactics
namespace Go.Proofs.YtbeefabboabfgaaGreat
set_option linter.unusedVariables false
set_option linter.unusedSimpArgs false
open Go.RowKit
theorem infoRN : (Tryz.prog.info? 35).map (fun i => (i.zero, i.size, i.bytes)) = some (some (.agg #[.int .i64 0, .int .i64 0, .int .i64 0, .int .i64 0, .int .i64 0, .int .i64 0]), 6, 48) := by kernel_rfl
theorem iv_six (Φ : Nat → Int) (s : Nat) : iv Φ (6 * (s + 1)) = iv Φ (6 * s) ++ [.int .i64 (Φ (s * 6)), .int .i64 (Φ (s * 6 + 1)), .int .i64 (Φ (s * 6 + 2)), .int .i64 (Φ (s * 6 + 3)), .int .i64 (Φ (s * 6 + 4)), .int .i64 (Φ (s * 6 + 5))] := by
  have : 6 * (s + 1) = 6 * s + 1 + 1 + 1 + 1 + 1 + 1 := by omega
  rw [this, show s * 6 = 6 * s by omega]
  simp [iv, List.range_succ]
/-- A box of six numbers. -/
def Six (X : World) (g : Nat) (V E F B Q G : Int) : Prop := RowIs X g 35 [.int .i64 V, .int .i64 E, .int .i64 F, .int .i64 B, .int .i64 Q, .int .i64 G]
theorem Six.after {X Y : World} {g : Nat} {V E F B Q G : Int} (h : Six X g V E F B Q G) (hb : Below X.heap.size X Y) : Six Y g V E F B Q G := RowIs.after h hb
set_option maxRecDepth 100000 in
set_option maxHeartbeats 6000000 in
theorem of14 (n : Nat) (ao : Option Addr) (cap : Nat) (T : List Tr) (L : Nat → Int) (m : Nat) (w : World) (hT : TrisAt w ao T) (hs : Surf n T) (hL : IsShells (Adj T) T.length L) (hm : (m : Int) = cnt L T.length) :
    Calls Tryz.prog 11 #[.agg #[.int .i64 (n : Int), .slice ao T.length cap]] w fun e w' => ∃ u, e = .returned u ∧ w'.ownsRow w.heap.size 35 6 u m (iv (genF T L n) (6 * m)) ∧ Below w.heap.size w w' := by
  obtain ⟨i0, hi, hz0, hz1, hz2⟩ := info_parts infoRN
  have hl : T.length ≤ 8192 := by have := hs.t1; omega
  have hn : n ≤ 4096 := by have := hs.n1; omega
  obtain ⟨W0, hW0⟩ : ∃ W0, W0 = w.alloc (.cells #[.int .i64 (n : Int), .slice ao T.length cap] 24) := ⟨_, rfl⟩
  have hb0 : Below w.heap.size w W0 := by rw [hW0]; exact (Below.refl _ _).alloc (Nat.le_refl _) _
  have hr0 : RowIs W0 w.heap.size 24 [.int .i64 (n : Int), .slice ao T.length cap] := by rw [hW0]; exact RowIs.made w 24 [.int .i64 (n : Int), .slice ao T.length cap]
  have HT := Lib.hid (hT.mono (Nat.le_refl _) hb0)
  have HO := Lib.hid (fun (X : World) (c : Nat) (h : TrisAt X ao T) (hc : c < 3 * T.length) => opp10 (n : Int) ao cap T c X h hs hc)
  have HC := Lib.hid (fun (X : World) (v : Int) (h : TrisAt X ao T) => corner10 (n : Int) ao cap T v X h (by omega))
  have HSH := Lib.hid (fun (X : World) (h : TrisAt X ao T) => shells10 (n : Int) ao cap T L m X h hs hL hm)
  have HLO := Lib.hid (fun (X : World) (bo : Option Addr) (cb k : Nat) (h : TrisAt X ao T) (h2 : IntsAt X bo (il L T.length)) => loops10 n ao cap T L bo cb k X h hs hL h2)
  have HVC := Lib.hid (show ∀ (v : Nat) (r : Int), v < n → FirstP T (v : Int) r → ∃ c : Nat, r = c ∧ c < 3 * T.length ∧ shV T L v = L (c / 3) from fun v r hv h => by
    rcases h with ⟨c, rfl, hc, he⟩ | ⟨-, hno⟩
    · exact ⟨c, rfl, hc, (shV_at hs hL hc he).2⟩
    · obtain ⟨c, hc, he, -⟩ := shV_corner (L := L) hs hv
      exact absurd he (hno c hc))
  have HEC := Lib.hid (fun k => edge_count hs hL k)
  have hml : m ≤ 8192 := by have := hL.cnt_le; omega
  have HV := Lib.hid (show ∀ k, nV T L n k ≤ 4096 ∧ nF T L k ≤ 8192 ∧ nB T L n k ≤ 4096 ∧ nT T L k / 2 ≤ 24576 from fun k =>
    ⟨by have := cntK_le (shV T L) n k; unfold nV; omega, by have := cntK_le L T.length k; unfold nF; omega, by
      have h1 := cntK_le (keyB T L n) (headsB (bordE T (3 * T.length)) n).length k
      have h2 := headsB_le (bordE T (3 * T.length)) n
      unfold nB; omega, by rw [← HEC.out k]; have := ecP_le T L (3 * T.length) k; omega⟩)
  obtain ⟨len, hlen⟩ : ∃ n, n = T.length := ⟨_, rfl⟩
  obtain ⟨l3, hl3⟩ : ∃ x, x = 3 * len := ⟨_, rfl⟩
  simp only [← hlen] at hl hW0 hr0 HO HC HSH HLO HVC HEC
  have h3 : (3 : Int) * (len : Int) = (l3 : Int) := by omega
  have hl3' : l3 ≤ 30000 := by omega
  rw [← hlen] at ⊢
  have HL := Lib.hid hlen
  have HL3 := Lib.hid hl3
  have HB0 := Lib.hid hb0
  have HR0 := Lib.hid hr0
  have HW0 := Lib.hid hW0
  have c0 := hr0.cell (i := 0) rfl
  have c1 := hr0.cell (i := 1) rfl
  clear hT hb0 hr0 hlen hl3 hW0 hs hL hm
  go_enter Tryz.func11, Tryz.ntmps11
  go_upto_region 1 with fail
  rw [← HW0.out]
  obtain ⟨Wz, hWz⟩ : ∃ Wz, Wz = W0.alloc (.cells #[] 35) := ⟨_, rfl⟩
  have HBZ := Lib.hid (show Below W0.heap.size W0 Wz from by rw [hWz]; exact (Below.refl _ _).alloc (Nat.le_refl _) _)
  have HOZ := Lib.hid (show Wz.ownsRow W0.heap.size 35 6 (.slice (some ⟨W0.heap.size, 0, none⟩) 0 0) 0 [] from by rw [hWz]; exact RowIs.owns (RowIs.made W0 35 []) (Nat.le_refl _) (by simp) (by unfold maxLen; omega))
  have HWZ := Lib.hid hWz
  have hrz := HR0.out.after HBZ.out
  have d0 := hrz.cell (i := 0) rfl
  have d1 := hrz.cell (i := 1) rfl
  clear hWz c0 c1 hrz
  go_upto_region 2 with fail
  rw [← HWZ.out]
  go_wp2_with fail
  refine (HSH.out Wz (HT.out.mono (Nat.le_refl _) HBZ.out)).mono ?_
  rintro e W1 ⟨bo, cb, rfl, -, hI, hb1⟩
  have HI1 := Lib.hid hI
  have HB1 := Lib.hid (below_more HBZ.out hb1 HBZ.out.size)
  have HO1 := Lib.hid (owns_below HOZ.out hb1)
  clear d0 d1 hI hb1 HSH HOZ
  go_wp2
  go_loopw [3, 6] (fun u i ws => ∃ s : Nat, s ≤ m ∧ i = .int .i64 s ∧ Hid (ws.ownsRow W0.heap.size 35 6 u s (iv (genF T L n) (6 * s)) ∧ (0 < len → ∃ gs, bo = some ⟨gs, 0, none⟩ ∧ IRow ws gs L len)) ∧ Below W0.heap.size W0 ws) (fun _ i _ => m - (intOf i).toNat)
  case atStart => exact ⟨0, by omega, rfl, ⟨HO1.out, HI1.out⟩, HB1.out⟩
  case round =>
  clear HO1 HI1
  obtain ⟨s, hsm, rfl, HS0, hb⟩ := hrel
  obtain ⟨X, rfl⟩ : ∃ X : World, X = wr := ⟨_, rfl⟩
  have HOWN := Lib.hid HS0.out.1
  have HI := Lib.hid (show IntsAt X bo (il L len) from fun hne => by
    obtain ⟨gs, rfl, hr⟩ := HS0.out.2 (by have := List.length_pos_iff.2 hne; rw [il_length] at this; exact this)
    exact hr.ints hne)
  have HB := Lib.hid hb
  clear hb
  by_cases hlt : s < m
  case neg =>
    obtain rfl : s = m := by omega
    have HF := Lib.hid (show X.ownsRow w.heap.size 35 6 u3 s (iv (genF T L n) (6 * s)) from owns_base HOWN.out HB0.out.size)
    have HBF := Lib.hid (below_more HB0.out HB.out HB0.out.size)
    go_wp2
    exact bodyPost_ret (v := u3) (by simp [results, Tryz.results11, go_sem]) rfl ⟨u3, rfl, HF.out, HBF.out⟩
  case pos =>
  have HVs := HV.out s
  obtain ⟨g, hg⟩ : ∃ g, g = X.heap.size := ⟨_, rfl⟩
  obtain ⟨Xz, hXz⟩ : ∃ Xz, Xz = X.alloc (.cells #[.int .i64 0, .int .i64 0, .int .i64 0, .int .i64 0, .int .i64 0, .int .i64 0] 35) := ⟨_, rfl⟩
  have HBX := Lib.hid (show Below X.heap.size X Xz from by rw [hXz]; exact (Below.refl _ _).alloc (Nat.le_refl _) _)
  have HSX := Lib.hid (show Six Xz g 0 0 0 0 0 0 from by rw [hXz, hg]; exact RowIs.made X 35 [.int .i64 0, .int .i64 0, .int .i64 0, .int .i64 0, .int .i64 0, .int .i64 0])
  have HG := Lib.hid hg
  have HXZ := Lib.hid hXz
  have HW1 := Lib.hid (show ∀ Y, Below X.heap.size X Y → Below W0.heap.size W0 Y from fun Y h => below_more HB.out h HB.out.size)
  have HGS := Lib.hid (show ∀ (Y : World) (i : Nat) (v : Value), Below X.heap.size X Y → Below X.heap.size X (Y.setCell ⟨g, i, none⟩ v) from fun Y i v h => h.setCell (p := ⟨g, i, none⟩) (by rw [hg]; exact Nat.le_refl _) v)
  clear hXz hg
  go_upto_region 7 with fail
  rw [← HXZ.out]
  simp only [← HG.out]
  go_wp2
  -- the vertices
  go_loopw [8] (fun i ws => ∃ v : Nat, v ≤ n ∧ i = .int .i64 v ∧ Six ws g (cntK (shV T L) v s : Nat) 0 0 0 0 0 ∧ Below X.heap.size X ws) (fun i _ => n - (intOf i).toNat)
  case atStart => exact ⟨0, by omega, rfl, HSX.out, HBX.out⟩
  case round =>
  clear HSX HBX
  obtain ⟨v, hv, rfl, hsix, hb⟩ := hrel
  obtain ⟨X1, rfl⟩ : ∃ X : World, X = wr := ⟨_, rfl⟩
  have hrb := HR0.out.after (HW1.out X1 hb)
  have c0 := hrb.cell (i := 0) rfl
  have c1 := hrb.cell (i := 1) rfl
  have HSI := Lib.hid hsix
  have HBV := Lib.hid hb
  clear hrb hsix hb
  by_cases hvn : v < n
  case pos =>
    have HCC := Lib.hid (HC.out X1 (v : Int) (HT.out.mono (Nat.le_refl _) (HW1.out X1 HBV.out)))
    go_wp2_with fail
    refine HCC.out.mono ?_
    rintro e X2 ⟨r, rfl, hfp, hb2⟩
    obtain ⟨c, rfl, hc, hsv⟩ := HVC.out v r hvn hfp
    have HB2 := Lib.hid (below_more HBV.out hb2 HBV.out.size)
    have HS2 := Lib.hid (HSI.out.after hb2)
    clear hfp hb2 HCC c0 c1
    obtain ⟨c3, hc3⟩ : ∃ x, x = c / 3 := ⟨_, rfl⟩
    obtain ⟨b, off, y, hbo, hy, cy, hbl, hbl2⟩ := HI.out.get (Nat.le_refl _) HB2.out (i := c3) (by rw [il_length]; omega)
    have hyL : y = L (c / 3) := by rw [← hy.out, il_get L (by omega), hc3]
    subst hbo
    have hq3 : (c : Int) / 3 = (c3 : Int) := by omega
    have hc30 : (0 : Int) ≤ (c3 : Int) := by omega
    have hc31 : (c3 : Int) < (len : Int) := by omega
    have d1 : decide ((c : Int) ≥ 0) = true := by simp
    have d1' : decide ((0 : Int) ≤ (c : Int)) = true := by simp
    have hcl : c ≤ 30000 := by omega
    have HK := Lib.hid (cntK_succ (shV T L) v s)
    rw [hsv, ← hyL] at HK
    have hcv := cntK_le (shV T L) v s
    obtain ⟨cv, hcv'⟩ : ∃ x, x = cntK (shV T L) v s := ⟨_, rfl⟩
    rw [← hcv'] at HK HS2 hcv
    have e0 := HS2.out.cell (i := 0) rfl
    have f0 := HS2.out.free 0
    clear hy hc3 hyL hsv hcv' HSI hc
    by_cases h1 : y = (s : Int)
    case neg =>
      have d0 : (y == (s : Int)) = false := by simpa using h1
      have HN := Lib.hid (show cntK (shV T L) (v + 1) s = cv from by rw [HK.out, if_neg h1]; rfl)
      clear h1
      go_wp2
      go_roundw
      case rel => exact ⟨v + 1, by omega, by go_num, by rw [HN.out]; exact HS2.out, HB2.out⟩
      case measure => simp [intOf]; omega
    case pos =>
    subst h1
    have HN := Lib.hid (show cntK (shV T L) (v + 1) s = cv + 1 from by rw [HK.out, if_pos rfl])
    have HS3 := Lib.hid (show Six (X2.setCell ⟨g, 0, none⟩ (.int .i64 ((cv + 1 : Nat) : Int))) g ((cv + 1 : Nat) : Int) 0 0 0 0 0 from RowIs.set HS2.out 0 (.int .i64 ((cv + 1 : Nat) : Int)))
    have hs1 : (cv : Int) + 1 = ((cv + 1 : Nat) : Int) := by omega
    have HB3 := Lib.hid (HGS.out X2 0 (.int .i64 ((cv + 1 : Nat) : Int)) HB2.out)
    obtain ⟨cv1, hcv1⟩ : ∃ x, x = cv + 1 := ⟨_, rfl⟩
    rw [← hcv1] at HN HS3 hs1 HB3
    clear hcv1
    go_wp2
    go_roundw
    case rel => exact ⟨v + 1, by omega, by go_num, by rw [HN.out]; exact HS3.out, HB3.out⟩
    case measure => simp [intOf]; omega
  case neg =>
  obtain rfl : v = n := by omega
  have HSV := Lib.hid (show Six X1 g (nV T L v s : Nat) 0 0 0 0 0 from HSI.out)
  clear HSI
  go_wp2
  clear c0 c1
  obtain ⟨vV, hvV⟩ : ∃ x, x = nV T L v s := ⟨_, rfl⟩
  rw [← hvV] at HSV HVs
  have HVV := Lib.hid hvV
  clear hvV
  -- the edges
  go_loopw [10] (fun i ws => ∃ c : Nat, c ≤ l3 ∧ i = .int .i64 c ∧ Six ws g (vV : Int) (ecP T L c s : Nat) 0 0 0 0 ∧ Below X.heap.size X ws) (fun i _ => l3 - (intOf i).toNat)
  case atStart => exact ⟨0, by omega, rfl, HSV.out, HBV.out⟩
  case round =>
  clear HSV HBV
  obtain ⟨c, hc, rfl, hsix, hb⟩ := hrel
  obtain ⟨X2, rfl⟩ : ∃ X : World, X = wr := ⟨_, rfl⟩
  have hrb := HR0.out.after (HW1.out X2 hb)
  have c0 := hrb.cell (i := 0) rfl
  have c1 := hrb.cell (i := 1) rfl
  have HSI := Lib.hid hsix
  have HBV := Lib.hid hb
  clear hrb hsix hb
  by_cases hcl : c < l3
  case pos =>
    obtain ⟨c3, hc3⟩ : ∃ x, x = c / 3 := ⟨_, rfl⟩
    obtain ⟨b, off, y, hbo, hy, cy, hbl, hbl2⟩ := HI.out.get (Nat.le_refl _) HBV.out (i := c3) (by rw [il_length]; omega)
    have hyL : y = L (c / 3) := by rw [← hy.out, il_get L (by omega), hc3]
    subst hbo
    have hq3 : (c : Int) / 3 = (c3 : Int) := by omega
    have hc30 : (0 : Int) ≤ (c3 : Int) := by omega
    have hc31 : (c3 : Int) < (len : Int) := by omega
    have HK := Lib.hid (ecP_succ T L c s)
    rw [← hyL] at HK
    have hcv := ecP_le T L c s
    obtain ⟨cv, hcv'⟩ : ∃ x, x = ecP T L c s := ⟨_, rfl⟩
    rw [← hcv'] at HK HSI hcv
    clear hy hc3 hyL hcv'
    by_cases h1 : y = (s : Int)
    case neg =>
      have d0 : (y == (s : Int)) = false := by simpa using h1
      have HN := Lib.hid (show ecP T L (c + 1) s = cv from by rw [HK.out, if_neg fun h => h1 h.1]; rfl)
      clear h1
      go_wp2
      go_roundw
      case rel => exact ⟨c + 1, by omega, by go_num, by rw [HN.out]; exact HSI.out, HBV.out⟩
      case measure => simp [intOf]; omega
    case pos =>
    subst h1
    have HOC := Lib.hid (HO.out X2 c (HT.out.mono (Nat.le_refl _) (HW1.out X2 HBV.out)) (by have := HL3.out; omega))
    obtain ⟨o, ho⟩ : ∃ o, o = opp T (c : Nat) := ⟨_, rfl⟩
    rw [← ho] at HOC HK
    clear ho
    by_cases h2 : o < (c : Int)
    case neg =>
      have d1 : decide (o < (c : Int)) = false := by simpa using h2
      have HN := Lib.hid (show ecP T L (c + 1) s = cv from by rw [HK.out, if_neg fun h => h2 h.2]; rfl)
      clear h2
      go_wp2_with fail
      refine HOC.out.mono ?_
      rintro e X4 ⟨rfl, hb4⟩
      have HS4 := Lib.hid (HSI.out.after hb4)
      have HB4 := Lib.hid (below_more HBV.out hb4 HBV.out.size)
      clear c0 c1 cy hb4
      go_wp2
      go_roundw
      case rel => exact ⟨c + 1, by omega, by go_num, by rw [HN.out]; exact HS4.out, HB4.out⟩
      case measure => simp [intOf]; omega
    case pos =>
    have d1 : decide (o < (c : Int)) = true := by simpa using h2
    have HN := Lib.hid (show ecP T L (c + 1) s = cv + 1 from by rw [HK.out, if_pos ⟨rfl, h2⟩])
    clear h2
    go_wp2_with fail
    refine HOC.out.mono ?_
    rintro e X4 ⟨rfl, hb4⟩
    have HS4 := Lib.hid (HSI.out.after hb4)
    have HB4 := Lib.hid (below_more HBV.out hb4 HBV.out.size)
    have e1 := HS4.out.cell (i := 1) rfl
    have f1 := HS4.out.free 1
    have HS5 := Lib.hid (show Six (X4.setCell ⟨g, 1, none⟩ (.int .i64 ((cv + 1 : Nat) : Int))) g (vV : Int) ((cv + 1 : Nat) : Int) 0 0 0 0 from RowIs.set HS4.out 1 (.int .i64 ((cv + 1 : Nat) : Int)))
    have hs1 : (cv : Int) + 1 = ((cv + 1 : Nat) : Int) := by omega
    have HB5 := Lib.hid (HGS.out X4 1 (.int .i64 ((cv + 1 : Nat) : Int)) HB4.out)
    obtain ⟨cv1, hcv1⟩ : ∃ x, x = cv + 1 := ⟨_, rfl⟩
    rw [← hcv1] at HN HS5 hs1 HB5
    clear c0 c1 cy hb4 hcv1
    go_wp2
    go_roundw
    case rel => exact ⟨c + 1, by omega, by go_num, by rw [HN.out]; exact HS5.out, HB5.out⟩
    case measure => simp [intOf]; omega
  case neg =>
  obtain rfl : c = l3 := by omega
  obtain ⟨vE, hvE⟩ : ∃ x, x = nT T L s / 2 := ⟨_, rfl⟩
  have HSE := Lib.hid (show Six X2 g (vV : Int) (vE : Int) 0 0 0 0 from by
    have := HSI.out
    rw [HL3.out, HEC.out s, ← hvE] at this
    exact this)
  rw [← hvE] at HVs
  have HVE := Lib.hid hvE
  clear HSI hvE
  go_wp2
  clear c0 c1
  -- the triangles
  go_loopw [11] (fun i ws => ∃ t : Nat, t ≤ len ∧ i = .int .i64 t ∧ Six ws g (vV : Int) (vE : Int) (cntK L t s : Nat) 0 0 0 ∧ Below X.heap.size X ws) (fun i _ => len - (intOf i).toNat)
  case atStart => exact ⟨0, by omega, rfl, HSE.out, HBV.out⟩
  case round =>
  clear HSE HBV
  obtain ⟨t, ht, rfl, hsix, hb⟩ := hrel
  obtain ⟨X3, rfl⟩ : ∃ X : World, X = wr := ⟨_, rfl⟩
  have hrb := HR0.out.after (HW1.out X3 hb)
  have c0 := hrb.cell (i := 0) rfl
  have c1 := hrb.cell (i := 1) rfl
  have HSI := Lib.hid hsix
  have HBV := Lib.hid hb
  clear hrb hsix hb
  by_cases htl : t < len
  case pos =>
    obtain ⟨b, off, y, hbo, hy, cy, hbl, hbl2⟩ := HI.out.get (Nat.le_refl _) HBV.out (i := t) (by rw [il_length]; omega)
    have hyL : y = L t := by rw [← hy.out, il_get L (by omega)]
    subst hbo
    have ht0 : (0 : Int) ≤ (t : Int) := by omega
    have ht1 : (t : Int) < (len : Int) := by omega
    have HK := Lib.hid (cntK_succ L t s)
    rw [← hyL] at HK
    have hcv := cntK_le L t s
    obtain ⟨cv, hcv'⟩ : ∃ x, x = cntK L t s := ⟨_, rfl⟩
    rw [← hcv'] at HK HSI hcv
    have e2 := HSI.out.cell (i := 2) rfl
    have f2 := HSI.out.free 2
    clear hy hyL hcv'
    by_cases h1 : y = (s : Int)
    case neg =>
      have d0 : (y == (s : Int)) = false := by simpa using h1
      have HN := Lib.hid (show cntK L (t + 1) s = cv from by rw [HK.out, if_neg h1]; rfl)
      clear h1
      go_wp2
      go_roundw
      case rel => exact ⟨t + 1, by omega, by go_num, by rw [HN.out]; exact HSI.out, HBV.out⟩
      case measure => simp [intOf]; omega
    case pos =>
    subst h1
    have HN := Lib.hid (show cntK L (t + 1) s = cv + 1 from by rw [HK.out, if_pos rfl])
    have HS5 := Lib.hid (show Six (X3.setCell ⟨g, 2, none⟩ (.int .i64 ((cv + 1 : Nat) : Int))) g (vV : Int) (vE : Int) ((cv + 1 : Nat) : Int) 0 0 0 from RowIs.set HSI.out 2 (.int .i64 ((cv + 1 : Nat) : Int)))
    have hs1 : (cv : Int) + 1 = ((cv + 1 : Nat) : Int) := by omega
    have HB5 := Lib.hid (HGS.out X3 2 (.int .i64 ((cv + 1 : Nat) : Int)) HBV.out)
    obtain ⟨cv1, hcv1⟩ : ∃ x, x = cv + 1 := ⟨_, rfl⟩
    rw [← hcv1] at HN HS5 hs1 HB5
    clear hcv1
    go_wp2
    go_roundw
    case rel => exact ⟨t + 1, by omega, by go_num, by rw [HN.out]; exact HS5.out, HB5.out⟩
    case measure => simp [intOf]; omega
  case neg =>
  obtain rfl : t = len := by omega
  obtain ⟨vF, hvF⟩ : ∃ x, x = nF T L s := ⟨_, rfl⟩
  have HSF := Lib.hid (show Six X3 g (vV : Int) (vE : Int) (vF : Int) 0 0 0 from by
    have := HSI.out
    rw [HL.out] at this
    rw [hvF]
    exact this)
  rw [← hvF] at HVs
  have HVF := Lib.hid hvF
  have HLL := Lib.hid (HLO.out X3 bo cb s (HT.out.mono (Nat.le_refl _) (HW1.out X3 HBV.out)) (by
    have := HI.out.mono (Nat.le_refl _) HBV.out
    exact this))
  obtain ⟨vB, hvB⟩ : ∃ x, x = nB T L v s := ⟨_, rfl⟩
  rw [← hvB] at HVs HLL
  have HVB := Lib.hid hvB
  clear HSI hvF hvB
  obtain ⟨vQ, hvQ⟩ : ∃ x, x = (vV : Int) - (vE : Int) + (vF : Int) := ⟨_, rfl⟩
  obtain ⟨vG, hvG⟩ : ∃ x, x = ((2 : Int) - (vB : Int) - vQ).tdiv 2 := ⟨_, rfl⟩
  have HVQ := Lib.hid (show vQ = euK T L v s from by
    rw [hvQ, HVV.out, HVE.out, HVF.out]; rfl)
  have HVG := Lib.hid (show vG = gnK T L v s from by
    rw [hvG, HVB.out, HVQ.out]; rfl)
  have bG : -300000 ≤ vG ∧ vG ≤ 300000 := by
    have := genF_le (L := L) hn (by rw [← HL.out]; exact hl) (s * 6 + 5)
    rw [gen5, ← HVG.out] at this
    exact this
  have bQ : -30000 ≤ vQ ∧ vQ ≤ 30000 := by omega
  have sQ : (vV : Int) - (vE : Int) + (vF : Int) = vQ := hvQ.symm
  have sG : ((2 : Int) - (vB : Int) - vQ).tdiv 2 = vG := hvG.symm
  clear hvQ hvG
  go_wp2_with fail
  refine HLL.out.mono ?_
  rintro e X4 ⟨rfl, hb4⟩
  have HS4 := Lib.hid (HSF.out.after hb4)
  have HB4 := Lib.hid (below_more HBV.out hb4 HBV.out.size)
  have f3 := HS4.out.free 3
  have k3 := HS4.out.cell (i := 3) rfl
  obtain ⟨X5, hX5⟩ : ∃ X5, X5 = X4.setCell ⟨g, 3, none⟩ (.int .i64 (vB : Int)) := ⟨_, rfl⟩
  have HS5 := Lib.hid (show Six X5 g (vV : Int) (vE : Int) (vF : Int) (vB : Int) 0 0 from by rw [hX5]; exact RowIs.set HS4.out 3 (.int .i64 (vB : Int)))
  have HB5 := Lib.hid (show Below X.heap.size X X5 from by rw [hX5]; exact HGS.out X4 3 _ HB4.out)
  have HX5 := Lib.hid hX5
  clear c0 c1 hb4 hX5 HSF HLL
  go_upto_region 24 with fail
  rw [← HX5.out]
  clear f3 k3
  have e0 := HS5.out.cell (i := 0) rfl
  have e1 := HS5.out.cell (i := 1) rfl
  have e2 := HS5.out.cell (i := 2) rfl
  have k4 := HS5.out.cell (i := 4) rfl
  have f4 := HS5.out.free 4
  obtain ⟨X6, hX6⟩ : ∃ X6, X6 = X5.setCell ⟨g, 4, none⟩ (.int .i64 vQ) := ⟨_, rfl⟩
  have HS6 := Lib.hid (show Six X6 g (vV : Int) (vE : Int) (vF : Int) (vB : Int) vQ 0 from by rw [hX6]; exact RowIs.set HS5.out 4 (.int .i64 vQ))
  have HB6 := Lib.hid (show Below X.heap.size X X6 from by rw [hX6]; exact HGS.out X5 4 _ HB5.out)
  have HX6 := Lib.hid hX6
  clear hX6
  go_upto_region 25 with fail
  rw [← HX6.out]
  clear e0 e1 e2 k4 f4 sQ
  have e3 := HS6.out.cell (i := 3) rfl
  have e4 := HS6.out.cell (i := 4) rfl
  have k5 := HS6.out.cell (i := 5) rfl
  have f5 := HS6.out.free 5
  obtain ⟨X7, hX7⟩ : ∃ X7, X7 = X6.setCell ⟨g, 5, none⟩ (.int .i64 vG) := ⟨_, rfl⟩
  have HS7 := Lib.hid (show Six X7 g (vV : Int) (vE : Int) (vF : Int) (vB : Int) vQ vG from by rw [hX7]; exact RowIs.set HS6.out 5 (.int .i64 vG))
  have HB7 := Lib.hid (show Below X.heap.size X X7 from by rw [hX7]; exact HGS.out X6 5 _ HB6.out)
  have HX7 := Lib.hid hX7
  clear hX7
  go_upto_region 26 with fail
  rw [← HX7.out]
  clear e3 e4 k5 f5 sG
  have q0 := HS7.out.cell (i := 0) rfl
  have q1 := HS7.out.cell (i := 1) rfl
  have q2 := HS7.out.cell (i := 2) rfl
  have q3 := HS7.out.cell (i := 3) rfl
  have q4 := HS7.out.cell (i := 4) rfl
  have q5 := HS7.out.cell (i := 5) rfl
  have HO7 := Lib.hid (owns_below HOWN.out HB7.out)
  have HBB := Lib.hid (HW1.out X7 HB7.out)
  have HIX := Lib.hid (show 0 < t → ∃ gs, bo = some ⟨gs, 0, none⟩ ∧ IRow X7 gs L t from fun h => by
    obtain ⟨gs, h1, h2⟩ := HS0.out.2 h
    exact ⟨gs, h1, h2.after HB7.out⟩)
  have HNEW := Lib.hid (show iv (genF T L v) (6 * (s + 1)) = iv (genF T L v) (6 * s) ++ [.int .i64 (vV : Int), .int .i64 (vE : Int), .int .i64 (vF : Int), .int .i64 (vB : Int), .int .i64 vQ, .int .i64 vG] from by
    rw [iv_six, gen0, gen1, gen2, gen3, gen4, gen5, HVV.out, HVE.out, HVF.out, HVB.out, HVQ.out, HVG.out])
  go_wp2_with (at_builtin; refine wpList_append_new _ rfl _ _ 30 rfl W0.heap.size 35 i0 _ 6 48 (by kernel_rfl) hi hz0 hz1 hz2 rfl (by decide) _ _ _ rfl HO7.out _ _ _ rfl (by first | rfl | simp) rfl ?_ ?_ ?_ ?_ ?_)
  all_goals first | rfl | omega | (unfold maxLen; omega) | exact ⟨rfl, rfl⟩ | exact ⟨rfl, rfl, rfl, rfl, rfl, rfl⟩ | exact HBB.out.size | skip
  · intro v' w5 hown5 hbel hgr
    have HW6 := Lib.hid hown5
    have HB8 := Lib.hid (hbel W0.heap.size _ (Nat.le_refl _) HBB.out)
    have HI8 := Lib.hid (show 0 < t → ∃ gs, bo = some ⟨gs, 0, none⟩ ∧ IRow w5 gs L t from fun h => by
      obtain ⟨gs, h1, ys, h2, h3⟩ := HIX.out h
      exact ⟨gs, h1, ys, (h2.alloc _).grown hgr (owns_not HO7.out h2 (by decide)), h3⟩)
    clear hown5 hbel hgr
    go_wp2
    go_roundw
    case rel => exact ⟨s + 1, by omega, by go_num, by
      rw [HNEW.out]
      exact ⟨HW6.out, HI8.out⟩, HB8.out⟩
    case measure => simp [intOf]; omega
set_option maxRecDepth 100000 in
set_option maxHeartbeats 6000000 in
theorem whole14 (n : Nat) (ao : Option Addr) (cap : Nat) (T : List Tr) (L : Nat → Int) (m : Nat) (w : World) (hT : TrisAt w ao T) (hs : Surf n T) (hL : IsShells (Adj T) T.length L) (hm : (m : Int) = cnt L T.length) :
    Calls Tryz.prog 13 #[.agg #[.int .i64 (n : Int), .slice ao T.length cap]] w fun e w' => e = .returned (.agg #[.int .i64 (sumF (genF T L n) m 0), .int .i64 (sumF (genF T L n) m 1), .int .i64 (sumF (genF T L n) m 2), .int .i64 (sumF (genF T L n) m 3), .int .i64 (sumF (genF T L n) m 4), .int .i64 (sumF (genF T L n) m 5)]) ∧ Below w.heap.size w w' := by
  obtain ⟨len, hlen⟩ : ∃ l, l = T.length := ⟨_, rfl⟩
  obtain ⟨Wa, hWa⟩ : ∃ Wa, Wa = ((w.alloc (.cells #[.int .i64 (n : Int), .slice ao T.length cap] 24)).alloc (.cells #[.int .i64 0, .int .i64 0, .int .i64 0, .int .i64 0, .int .i64 0, .int .i64 0] 35)).alloc (.cells #[.int .i64 0, .int .i64 0, .int .i64 0, .int .i64 0, .int .i64 0, .int .i64 0] 35) := ⟨_, rfl⟩
  have hba : Below w.heap.size w Wa := by rw [hWa]; exact (((Below.refl _ _).alloc (Nat.le_refl _) _).alloc (by simp) _).alloc (by simp; omega) _
  have hs0 : RowIs Wa w.heap.size 24 [.int .i64 (n : Int), .slice ao T.length cap] := by rw [hWa]; exact ((RowIs.made w 24 [.int .i64 (n : Int), .slice ao T.length cap]).alloc _).alloc _
  have ha0 : RowIs Wa (w.heap.size + 1) 35 (iv (fun _ => 0) 6) := by rw [hWa]; exact (RowIs.made' _ 35 (iv (fun _ => 0) 6) _ (by simp)).alloc _
  have ha1 : RowIs Wa (w.heap.size + 2) 35 (iv (fun _ => 0) 6) := by rw [hWa]; exact RowIs.made' _ _ (iv (fun _ => 0) 6) _ (by simp)
  obtain ⟨W0, hW0⟩ : ∃ W0, W0 = Wa := ⟨_, rfl⟩
  have hb0 : Below w.heap.size w W0 := by rw [hW0]; exact hba
  have hrs : RowIs W0 w.heap.size 24 [.int .i64 (n : Int), .slice ao T.length cap] := by rw [hW0]; exact hs0
  have hr0 : RowIs W0 (w.heap.size + 1) 35 (iv (fun _ => 0) 6) := by rw [hW0]; exact ha0
  have hr1 : RowIs W0 (w.heap.size + 2) 35 (iv (fun _ => 0) 6) := by rw [hW0]; exact ha1
  have hn4 : n ≤ 4096 := by have := hs.n1; omega
  have ht8 := hs.t1
  have hmle : m ≤ 8192 := by have := hL.cnt_le; omega
  have HG := Lib.hid (of14 n ao cap T L m W0 (hT.mono (Nat.le_refl _) hb0) hs hL hm)
  obtain ⟨Φ, hΦ⟩ : ∃ Φ, Φ = genF T L n := ⟨_, rfl⟩
  have HLE := Lib.hid (show ∀ i, -300000 ≤ Φ i ∧ Φ i ≤ 300000 from fun i => by rw [hΦ]; exact genF_le hn4 ht8 i)
  rw [← hΦ] at HG ⊢
  have HB0 := Lib.hid hb0
  have c0 := hrs.cell (i := 0) rfl
  have c1 := hrs.cell (i := 1) rfl
  have HR0 := Lib.hid hr0
  have HR1 := Lib.hid hr1
  simp only [← hlen] at HG hWa c0 c1 ⊢
  have HWa := Lib.hid hWa
  obtain ⟨xb, hxb⟩ : ∃ x, x = w.heap.size := ⟨_, rfl⟩
  rw [← hxb] at HR0 HR1 c0 c1
  have HXB := Lib.hid hxb
  clear hT hs hL hm hb0 hr0 hr1 hΦ ht8 hxb hWa hba hs0 ha0 ha1 hrs hlen
  go_enter Tryz.func13, Tryz.ntmps13
  go_upto_region 2 with fail
  rw [← HWa.out, ← hW0]
  clear hW0 HWa
  simp only [← HXB.out]
  go_wp2_with fail
  refine HG.out.mono ?_
  rintro e W1 ⟨u, rfl, hown, hb1⟩
  have HOWN := Lib.hid hown
  obtain ⟨ua, uc, rfl⟩ := owns_slice hown
  have HB1 := Lib.hid hb1
  have hx0 := (HR0.out.lt)
  have hx1 := HR1.out.lt
  have HROW1 := Lib.hid (HR1.out.after hb1)
  have HROW0 := Lib.hid (HR0.out.after hb1)
  clear hown hb1 HG c0 c1
  go_wp2
  go_loopw [5] (fun i ws => ∃ k : Nat, k ≤ m ∧ i = .int .i64 k ∧ RowIs ws (xb + 2) 35 (iv (sumF Φ k) 6) ∧ But W1.heap.size (xb + 2) W1 ws ∧ W1.heap.size ≤ ws.heap.size) (fun i _ => m - (intOf i).toNat)
  case atStart => exact ⟨0, by omega, rfl, HROW1.out, But.refl _ _ _, Nat.le_refl _⟩
  case round =>
  obtain ⟨k, hk, rfl, hrow, hbut, hsz⟩ := hrel
  obtain ⟨X, rfl⟩ : ∃ X : World, X = wr := ⟨_, rfl⟩
  have HROW := Lib.hid hrow
  have HBUT := Lib.hid hbut
  have HSZ := Lib.hid hsz
  clear hrow hbut hsz
  by_cases hkm : k < m
  case neg =>
    obtain rfl : m = k := by omega
    obtain ⟨s0, hs0⟩ : ∃ x, x = sumF Φ m 0 := ⟨_, rfl⟩
    have p0 := HROW.out.cell (iv_get (sumF Φ m) (show 0 < 6 by omega))
    rw [← hs0] at p0
    have HQ0 := Lib.hid hs0
    obtain ⟨s1, hs1⟩ : ∃ x, x = sumF Φ m 1 := ⟨_, rfl⟩
    have p1 := HROW.out.cell (iv_get (sumF Φ m) (show 1 < 6 by omega))
    rw [← hs1] at p1
    have HQ1 := Lib.hid hs1
    obtain ⟨s2, hs2⟩ : ∃ x, x = sumF Φ m 2 := ⟨_, rfl⟩
    have p2 := HROW.out.cell (iv_get (sumF Φ m) (show 2 < 6 by omega))
    rw [← hs2] at p2
    have HQ2 := Lib.hid hs2
    obtain ⟨s3, hs3⟩ : ∃ x, x = sumF Φ m 3 := ⟨_, rfl⟩
    have p3 := HROW.out.cell (iv_get (sumF Φ m) (show 3 < 6 by omega))
    rw [← hs3] at p3
    have HQ3 := Lib.hid hs3
    obtain ⟨s4, hs4⟩ : ∃ x, x = sumF Φ m 4 := ⟨_, rfl⟩
    have p4 := HROW.out.cell (iv_get (sumF Φ m) (show 4 < 6 by omega))
    rw [← hs4] at p4
    have HQ4 := Lib.hid hs4
    obtain ⟨s5, hs5⟩ : ∃ x, x = sumF Φ m 5 := ⟨_, rfl⟩
    have p5 := HROW.out.cell (iv_get (sumF Φ m) (show 5 < 6 by omega))
    rw [← hs5] at p5
    have HQ5 := Lib.hid hs5
    have hr0 := HBUT.out.row HROW0.out (by have := HROW0.out.lt; exact this) (by omega)
    have z0 := hr0.cell (iv_get (fun _ => 0) (show 0 < 6 by omega))
    have z1 := hr0.cell (iv_get (fun _ => 0) (show 1 < 6 by omega))
    have z2 := hr0.cell (iv_get (fun _ => 0) (show 2 < 6 by omega))
    have z3 := hr0.cell (iv_get (fun _ => 0) (show 3 < 6 by omega))
    have z4 := hr0.cell (iv_get (fun _ => 0) (show 4 < 6 by omega))
    have z5 := hr0.cell (iv_get (fun _ => 0) (show 5 < 6 by omega))
    have zf := fun i => hr0.free i
    have hrF := ((((((hr0.set 0 (.int .i64 s0)).set 1 (.int .i64 s1)).set 2 (.int .i64 s2)).set 3 (.int .i64 s3)).set 4 (.int .i64 s4)).set 5 (.int .i64 s5))
    rw [iv_set, iv_set, iv_set, iv_set, iv_set, iv_set] at hrF
    have y0 := hrF.cell (iv_get _ (show 0 < 6 by omega))
    rw [show upd (upd (upd (upd (upd (upd (fun _ => 0) 0 s0) 1 s1) 2 s2) 3 s3) 4 s4) 5 s5 0 = s0 from by simp [upd]] at y0
    have y1 := hrF.cell (iv_get _ (show 1 < 6 by omega))
    rw [show upd (upd (upd (upd (upd (upd (fun _ => 0) 0 s0) 1 s1) 2 s2) 3 s3) 4 s4) 5 s5 1 = s1 from by simp [upd]] at y1
    have y2 := hrF.cell (iv_get _ (show 2 < 6 by omega))
    rw [show upd (upd (upd (upd (upd (upd (fun _ => 0) 0 s0) 1 s1) 2 s2) 3 s3) 4 s4) 5 s5 2 = s2 from by simp [upd]] at y2
    have y3 := hrF.cell (iv_get _ (show 3 < 6 by omega))
    rw [show upd (upd (upd (upd (upd (upd (fun _ => 0) 0 s0) 1 s1) 2 s2) 3 s3) 4 s4) 5 s5 3 = s3 from by simp [upd]] at y3
    have y4 := hrF.cell (iv_get _ (show 4 < 6 by omega))
    rw [show upd (upd (upd (upd (upd (upd (fun _ => 0) 0 s0) 1 s1) 2 s2) 3 s3) 4 s4) 5 s5 4 = s4 from by simp [upd]] at y4
    have y5 := hrF.cell (iv_get _ (show 5 < 6 by omega))
    rw [show upd (upd (upd (upd (upd (upd (fun _ => 0) 0 s0) 1 s1) 2 s2) 3 s3) 4 s4) 5 s5 5 = s5 from by simp [upd]] at y5
    have HBF := Lib.hid (show Below w.heap.size w ((((((X.setCell ⟨xb + 1, 0, none⟩ (.int .i64 s0)).setCell ⟨xb + 1, 1, none⟩ (.int .i64 s1)).setCell ⟨xb + 1, 2, none⟩ (.int .i64 s2)).setCell ⟨xb + 1, 3, none⟩ (.int .i64 s3)).setCell ⟨xb + 1, 4, none⟩ (.int .i64 s4)).setCell ⟨xb + 1, 5, none⟩ (.int .i64 s5)) from by
      have hbw : Below w.heap.size w X := (below_more HB0.out HB1.out HB0.out.size).trans (HBUT.out.below (by have := HB1.out.size; have := HB0.out.size; omega) (by rw [HXB.out]; omega))
      have hst : ∀ (Y : World) (i : Nat) (v : Value), Below w.heap.size w Y → Below w.heap.size w (Y.setCell ⟨xb + 1, i, none⟩ v) := fun Y i v h => h.setCell (p := ⟨xb + 1, i, none⟩) (by rw [HXB.out]; simp) v
      exact hst _ _ _ (hst _ _ _ (hst _ _ _ (hst _ _ _ (hst _ _ _ (hst _ _ _ hbw))))))
    clear hs0 hs1 hs2 hs3 hs4 hs5 hr0 hrF
    go_wp2
    exact bodyPost_ret (v := .agg #[.int .i64 s0, .int .i64 s1, .int .i64 s2, .int .i64 s3, .int .i64 s4, .int .i64 s5]) (by simp [results, Tryz.results13, go_sem, y0, y1, y2, y3, y4, y5]) rfl ⟨by rw [HQ0.out, HQ1.out, HQ2.out, HQ3.out, HQ4.out, HQ5.out], HBF.out⟩
  case pos =>
  obtain ⟨g, cu, hu, hgb, hgl, -, -, hcell, -⟩ := owns_block HOWN.out (by omega)
  simp only [Value.slice.injEq, true_and] at hu
  obtain ⟨rfl, rfl⟩ := hu
  have hgx : g ≠ xb + 2 := by have := HR1.out.lt; omega
  have hcl : ∀ i, i < 6 * m → X.cell? ⟨g, i, none⟩ = some (.int .i64 (Φ i)) := fun i hi => (HBUT.out.cell hgl hgx).trans (hcell i _ (iv_get Φ hi))
  have p0 := hcl (k * 6) (by omega)
  have p1 := hcl (k * 6 + 1) (by omega)
  have p2 := hcl (k * 6 + 2) (by omega)
  have p3 := hcl (k * 6 + 3) (by omega)
  have p4 := hcl (k * 6 + 4) (by omega)
  have p5 := hcl (k * 6 + 5) (by omega)
  obtain ⟨f0, hf0⟩ : ∃ x, x = Φ (k * 6) := ⟨_, rfl⟩
  obtain ⟨f1, hf1⟩ : ∃ x, x = Φ (k * 6 + 1) := ⟨_, rfl⟩
  obtain ⟨f2, hf2⟩ : ∃ x, x = Φ (k * 6 + 2) := ⟨_, rfl⟩
  obtain ⟨f3, hf3⟩ : ∃ x, x = Φ (k * 6 + 3) := ⟨_, rfl⟩
  obtain ⟨f4, hf4⟩ : ∃ x, x = Φ (k * 6 + 4) := ⟨_, rfl⟩
  obtain ⟨f5, hf5⟩ : ∃ x, x = Φ (k * 6 + 5) := ⟨_, rfl⟩
  rw [← hf0] at p0
  rw [← hf1] at p1
  rw [← hf2] at p2
  rw [← hf3] at p3
  rw [← hf4] at p4
  rw [← hf5] at p5
  obtain ⟨X1, hX1⟩ : ∃ X1, X1 = X.drew := ⟨_, rfl⟩
  have hbX : Below X.heap.size X X1 := by rw [hX1]; exact ⟨rfl, rfl, rfl, Nat.le_refl _, fun _ _ => rfl⟩
  have HX1 := Lib.hid hX1
  have HF0 := Lib.hid hf0
  have bf0 := HLE.out (k * 6)
  have HF1 := Lib.hid hf1
  have bf1 := HLE.out (k * 6 + 1)
  have HF2 := Lib.hid hf2
  have bf2 := HLE.out (k * 6 + 2)
  have HF3 := Lib.hid hf3
  have bf3 := HLE.out (k * 6 + 3)
  have HF4 := Lib.hid hf4
  have bf4 := HLE.out (k * 6 + 4)
  have HF5 := Lib.hid hf5
  have bf5 := HLE.out (k * 6 + 5)
  rw [← hf0] at bf0
  rw [← hf1] at bf1
  rw [← hf2] at bf2
  rw [← hf3] at bf3
  rw [← hf4] at bf4
  rw [← hf5] at bf5
  have hkm8 : k ≤ 8191 := by omega
  have o0 := HROW.out.cell (iv_get (sumF Φ k) (show 0 < 6 by omega))
  have v0 := (HROW.out.after hbX).cell (iv_get (sumF Φ k) (show 0 < 6 by omega))
  obtain ⟨s0, hs0⟩ : ∃ x, x = sumF Φ k 0 := ⟨_, rfl⟩
  rw [← hs0] at o0 v0
  have bs0 := sumF_le HLE.out 0 k
  rw [← hs0] at bs0
  have HS0 := Lib.hid hs0
  have o1 := HROW.out.cell (iv_get (sumF Φ k) (show 1 < 6 by omega))
  have v1 := (HROW.out.after hbX).cell (iv_get (sumF Φ k) (show 1 < 6 by omega))
  obtain ⟨s1, hs1⟩ : ∃ x, x = sumF Φ k 1 := ⟨_, rfl⟩
  rw [← hs1] at o1 v1
  have bs1 := sumF_le HLE.out 1 k
  rw [← hs1] at bs1
  have HS1 := Lib.hid hs1
  have o2 := HROW.out.cell (iv_get (sumF Φ k) (show 2 < 6 by omega))
  have v2 := (HROW.out.after hbX).cell (iv_get (sumF Φ k) (show 2 < 6 by omega))
  obtain ⟨s2, hs2⟩ : ∃ x, x = sumF Φ k 2 := ⟨_, rfl⟩
  rw [← hs2] at o2 v2
  have bs2 := sumF_le HLE.out 2 k
  rw [← hs2] at bs2
  have HS2 := Lib.hid hs2
  have o3 := HROW.out.cell (iv_get (sumF Φ k) (show 3 < 6 by omega))
  have v3 := (HROW.out.after hbX).cell (iv_get (sumF Φ k) (show 3 < 6 by omega))
  obtain ⟨s3, hs3⟩ : ∃ x, x = sumF Φ k 3 := ⟨_, rfl⟩
  rw [← hs3] at o3 v3
  have bs3 := sumF_le HLE.out 3 k
  rw [← hs3] at bs3
  have HS3 := Lib.hid hs3
  have o4 := HROW.out.cell (iv_get (sumF Φ k) (show 4 < 6 by omega))
  have v4 := (HROW.out.after hbX).cell (iv_get (sumF Φ k) (show 4 < 6 by omega))
  obtain ⟨s4, hs4⟩ : ∃ x, x = sumF Φ k 4 := ⟨_, rfl⟩
  rw [← hs4] at o4 v4
  have bs4 := sumF_le HLE.out 4 k
  rw [← hs4] at bs4
  have HS4 := Lib.hid hs4
  have o5 := HROW.out.cell (iv_get (sumF Φ k) (show 5 < 6 by omega))
  have v5 := (HROW.out.after hbX).cell (iv_get (sumF Φ k) (show 5 < 6 by omega))
  obtain ⟨s5, hs5⟩ : ∃ x, x = sumF Φ k 5 := ⟨_, rfl⟩
  rw [← hs5] at o5 v5
  have bs5 := sumF_le HLE.out 5 k
  rw [← hs5] at bs5
  have HS5 := Lib.hid hs5
  have a0 : -4000000000 ≤ s0 ∧ s0 ≤ 4000000000 := by omega
  have c0 : -300000 ≤ f0 ∧ f0 ≤ 300000 := bf0
  have a1 : -4000000000 ≤ s1 ∧ s1 ≤ 4000000000 := by omega
  have c1 : -300000 ≤ f1 ∧ f1 ≤ 300000 := bf1
  have a2 : -4000000000 ≤ s2 ∧ s2 ≤ 4000000000 := by omega
  have c2 : -300000 ≤ f2 ∧ f2 ≤ 300000 := bf2
  have a3 : -4000000000 ≤ s3 ∧ s3 ≤ 4000000000 := by omega
  have c3 : -300000 ≤ f3 ∧ f3 ≤ 300000 := bf3
  have a4 : -4000000000 ≤ s4 ∧ s4 ≤ 4000000000 := by omega
  have c4 : -300000 ≤ f4 ∧ f4 ≤ 300000 := bf4
  have a5 : -4000000000 ≤ s5 ∧ s5 ≤ 4000000000 := by omega
  have c5 : -300000 ≤ f5 ∧ f5 ≤ 300000 := bf5
  have of := fun i => (HROW.out.after hbX).free i
  obtain ⟨X2, hX2⟩ : ∃ X2, X2 = ((((((X1.setCell ⟨xb + 2, 0, none⟩ (.int .i64 (s0 + f0))).setCell ⟨xb + 2, 1, none⟩ (.int .i64 (s1 + f1))).setCell ⟨xb + 2, 2, none⟩ (.int .i64 (s2 + f2))).setCell ⟨xb + 2, 3, none⟩ (.int .i64 (s3 + f3))).setCell ⟨xb + 2, 4, none⟩ (.int .i64 (s4 + f4))).setCell ⟨xb + 2, 5, none⟩ (.int .i64 (s5 + f5))) := ⟨_, rfl⟩
  have HX2 := Lib.hid hX2
  have HR2 := Lib.hid (show RowIs X2 (xb + 2) 35 (iv (sumF Φ (k + 1)) 6) from by
    have h0 := (((((((HROW.out.after hbX).set 0 (.int .i64 (s0 + f0))).set 1 (.int .i64 (s1 + f1))).set 2 (.int .i64 (s2 + f2))).set 3 (.int .i64 (s3 + f3))).set 4 (.int .i64 (s4 + f4))).set 5 (.int .i64 (s5 + f5)))
    rw [iv_set, iv_set, iv_set, iv_set, iv_set, iv_set] at h0
    rw [hX2, iv_congr (h := upd (upd (upd (upd (upd (upd (sumF Φ k) 0 (s0 + f0)) 1 (s1 + f1)) 2 (s2 + f2)) 3 (s3 + f3)) 4 (s4 + f4)) 5 (s5 + f5)) (fun i hi => ?_)]
    · exact h0
    · unfold upd
      match i, hi with
      | 0, _ => simp [sumF, hs0, hf0, Nat.mul_comm]
      | 1, _ => simp [sumF, hs1, hf1, Nat.mul_comm]
      | 2, _ => simp [sumF, hs2, hf2, Nat.mul_comm]
      | 3, _ => simp [sumF, hs3, hf3, Nat.mul_comm]
      | 4, _ => simp [sumF, hs4, hf4, Nat.mul_comm]
      | 5, _ => simp [sumF, hs5, hf5, Nat.mul_comm])
  have hb1' := HBUT.out.more hbX HSZ.out
  have HB2 := Lib.hid (show But W1.heap.size (xb + 2) W1 X2 ∧ W1.heap.size ≤ X2.heap.size from by
    have hg := grown_tr (grown_tr (grown_tr (grown_tr (grown_tr (grown_set X1 (xb + 2) 0 (.int .i64 (s0 + f0))) (grown_set _ (xb + 2) 1 (.int .i64 (s1 + f1)))) (grown_set _ (xb + 2) 2 (.int .i64 (s2 + f2)))) (grown_set _ (xb + 2) 3 (.int .i64 (s3 + f3)))) (grown_set _ (xb + 2) 4 (.int .i64 (s4 + f4)))) (grown_set _ (xb + 2) 5 (.int .i64 (s5 + f5)))
    rw [← hX2] at hg
    have h1 := hbX.size
    have h2 := HSZ.out
    exact ⟨hb1'.grown hg (by omega) (fun q hq => .inr (by cases hq; rfl)), by have := hg.size; omega⟩)
  clear hf0 hs0 bf0 bs0 hf1 hs1 bf1 bs1 hf2 hs2 bf2 bs2 hf3 hs3 bf3 bs3 hf4 hs4 bf4 bs4 hf5 hs5 bf5 bs5 hX1 hX2 hbX hb1' hcl
  have hk0 : (0 : Int) ≤ (k : Int) := by omega
  have hk1 : (k : Int) < (m : Int) := by omega
  go_upto_region 6 with fail
  go_still_tail 48, (by kernel_rfl)
  change wpList _ _ _ _ _ X.drew
  rw [← HX1.out]
  clear o0 o1 o2 o3 o4 o5
  go_upto_region 5 with fail
  rw [← HX2.out]
  go_wp2
  go_roundw
  case rel => exact ⟨k + 1, by omega, by go_num, HR2.out, HB2.out.1, HB2.out.2⟩
  case measure => simp [intOf]; omega
end Go.Proofs.YtbeefabboabfgaaGreat

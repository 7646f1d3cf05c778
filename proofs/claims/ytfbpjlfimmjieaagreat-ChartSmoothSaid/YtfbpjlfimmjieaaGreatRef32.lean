/- gypsumref32.Open, Of, Sides: contracts. -/
import Derived.Test.YtfbpjlfimmjieaaGreatGroups
import Derived.Test.YtfbpjlfimmjieaaGreatRef15
import Derived.Deep.RegionHeld3
namespace Go.Proofs.YtfbpjlfimmjieaaGreat
set_option linter.unusedVariables false
set_option linter.unusedSimpArgs false
open Go.RowKit
set_option maxRecDepth 100000 in
set_option maxHeartbeats 2000000 in
theorem open32 (n : Nat) (ao : Option Addr) (cap : Nat) (T : List Tr) (ko : Option Addr) (kc : Nat) (K : List Int) (c : Nat) (w : World) (hT : TrisAt w ao T) (hs : Surf n T) (hK : IntsAt w ko K) (hl : K.length = 3 * T.length) (hc : c < 3 * T.length) :
    Calls Tryz.prog 51 #[.agg #[.int .i64 (n : Int), .slice ao T.length cap], .slice ko K.length kc, .int .i64 (c : Int)] w fun e w' => e = .returned (.bool (openB T K c)) ∧ Below w.heap.size w w' := by
  obtain ⟨kb, koff, rfl, hkb, hkc⟩ := hK (by intro e; rw [e] at hl; simp at hl; omega)
  have ht1 := hs.t1
  obtain ⟨W0, hW0⟩ : ∃ W0, W0 = w.alloc (.cells #[.int .i64 (n : Int), .slice ao T.length cap] 24) := ⟨_, rfl⟩
  have hb0 : Below w.heap.size w W0 := by rw [hW0]; exact (Below.refl _ _).alloc (Nat.le_refl _) _
  have hr0 : RowIs W0 w.heap.size 24 [.int .i64 (n : Int), .slice ao T.length cap] := by rw [hW0]; exact RowIs.made w 24 [.int .i64 (n : Int), .slice ao T.length cap]
  have HOP := Lib.hid (opp15 n ao cap T c W0 (hT.mono (Nat.le_refl _) hb0) hs hc)
  have HS := Lib.hid hs
  have HKC := Lib.hid (show ∀ i, i < K.length → W0.cell? ⟨kb, koff + i, none⟩ = some (.int .i64 (I! K i)) from fun i hi => (hb0.cell (p := ⟨kb, _, none⟩) hkb).trans (hkc i hi))
  have HL := Lib.hid hl
  have HKB := Lib.hid (show kb < W0.heap.size by have := hb0.size; omega)
  obtain ⟨len, hlen⟩ : ∃ n, n = K.length := ⟨_, rfl⟩
  have HLEN := Lib.hid hlen
  have hlen3 : len = 3 * T.length := by rw [hlen]; exact hl
  have hcl : c < len := by omega
  have hl3 : len ≤ 30000 := by omega
  have HC := Lib.hid hc
  rw [← hlen]
  obtain ⟨A, hA⟩ : ∃ A, A = opp T (c : Int) := ⟨_, rfl⟩
  rw [← hA] at HOP
  have HA := Lib.hid hA
  obtain ⟨ob, hob⟩ : ∃ ob, ob = openB T K c := ⟨_, rfl⟩
  rw [← hob]
  have HQ := Lib.hid hob
  obtain ⟨B, hB⟩ : ∃ B, B = w.heap.size := ⟨_, rfl⟩
  rw [← hB] at hr0
  have HB := Lib.hid hB
  have c0 := hr0.cell (i := 0) rfl
  have c1 := hr0.cell (i := 1) rfl
  have HB0 := Lib.hid hb0
  obtain ⟨tl, htl⟩ : ∃ t, t = T.length := ⟨_, rfl⟩
  rw [← htl] at HOP c1 hW0 ⊢
  have HW0 := Lib.hid hW0
  clear hob hs hkc hl hlen hlen3 hc hA ht1 hT hb0 hr0 hW0 hB hkb htl
  go_enter Tryz.func51, Tryz.ntmps51
  go_upto_region 1 with fail
  rw [← HW0.out, ← HB.out]
  go_wp2_with fail
  refine HOP.out.mono ?_
  rintro e w1 ⟨rfl, hb1⟩
  have HB1 := Lib.hid hb1
  clear hb1 c0 c1
  by_cases h0 : A < 0
  case pos =>
    have d0 : decide (A < 0) = true := by simpa using h0
    have HO := Lib.hid (show ob = false from by rw [HQ.out]; unfold openB; rw [← HA.out]; simp; omega)
    have HB2 := Lib.hid (below_more HB0.out HB1.out HB0.out.size)
    clear h0
    go_wp2
    exact bodyPost_ret (v := .bool false) (by simp [results, Tryz.results51, go_sem]) rfl ⟨by rw [HO.out], HB2.out⟩
  case neg =>
  have d0 : decide (A < 0) = false := by simpa using h0
  obtain ⟨o, ho, hol, -, -, -⟩ := HS.out.opp_opp HC.out (by rw [← HA.out]; omega)
  have hAo : A = (o : Int) := by rw [HA.out]; exact ho
  subst hAo
  have hlT : 3 * T.length = len := by rw [HLEN.out, HL.out]
  have HNC := Lib.hid (show ∀ q, Calls Tryz.prog 55 #[.int .i64 (c : Int)] (w1.drewN q) fun e w' => e = .returned (.int .i64 (nxn c : Int)) ∧ ∃ r, w' = w1.drewN r from fun q => (next15 c (w1.drewN q) (by omega)).mono fun e w' ⟨h1, h2⟩ => ⟨h1, q, h2.symm⟩)
  have HPC := Lib.hid (show ∀ q, Calls Tryz.prog 56 #[.int .i64 (c : Int)] (w1.drewN q) fun e w' => e = .returned (.int .i64 (pvn c : Int)) ∧ ∃ r, w' = w1.drewN r from fun q => (prev15 c (w1.drewN q) (by omega)).mono fun e w' ⟨h1, h2⟩ => ⟨h1, q, h2.symm⟩)
  have HNO := Lib.hid (show ∀ q, Calls Tryz.prog 55 #[.int .i64 (o : Int)] (w1.drewN q) fun e w' => e = .returned (.int .i64 (nxn o : Int)) ∧ ∃ r, w' = w1.drewN r from fun q => (next15 o (w1.drewN q) (by omega)).mono fun e w' ⟨h1, h2⟩ => ⟨h1, q, h2.symm⟩)
  have HPO := Lib.hid (show ∀ q, Calls Tryz.prog 56 #[.int .i64 (o : Int)] (w1.drewN q) fun e w' => e = .returned (.int .i64 (pvn o : Int)) ∧ ∃ r, w' = w1.drewN r from fun q => (prev15 o (w1.drewN q) (by omega)).mono fun e w' ⟨h1, h2⟩ => ⟨h1, q, h2.symm⟩)
  have hnc := nxn_lt HC.out
  have hpc := pvn_lt HC.out
  have hno := nxn_lt hol
  have hpo := pvn_lt hol
  have y1 := HKC.out (nxn c) (by rw [HL.out]; exact hnc)
  have y2 := HKC.out (pvn o) (by rw [HL.out]; exact hpo)
  have y3 := HKC.out (pvn c) (by rw [HL.out]; exact hpc)
  have y4 := HKC.out (nxn o) (by rw [HL.out]; exact hno)
  have HOB := Lib.hid (show ob = (I! K (nxn c) == I! K (pvn o) && I! K (pvn c) == I! K (nxn o)) from by
    rw [HQ.out]
    unfold openB
    rw [ho, Int.toNat_natCast]
    simp)
  rw [hlT] at hnc hpc hno hpo
  generalize nxn c = nc at HNC hnc y1 HOB
  generalize pvn c = pc at HPC hpc y3 HOB
  generalize nxn o = no at HNO hno y4 HOB
  generalize pvn o = po at HPO hpo y2 HOB
  generalize I! K nc = a1 at y1 HOB
  generalize I! K po = b1 at y2 HOB
  generalize I! K pc = a2 at y3 HOB
  generalize I! K no = b2 at y4 HOB
  have y1 := (HB1.out.cell (p := ⟨kb, koff + nc, none⟩) HKB.out).trans y1
  have y2 := (HB1.out.cell (p := ⟨kb, koff + po, none⟩) HKB.out).trans y2
  have y3 := (HB1.out.cell (p := ⟨kb, koff + pc, none⟩) HKB.out).trans y3
  have y4 := (HB1.out.cell (p := ⟨kb, koff + no, none⟩) HKB.out).trans y4
  have i1 : (0 : Int) ≤ (nc : Int) ∧ (nc : Int) < (len : Int) := by omega
  have i2 : (0 : Int) ≤ (po : Int) ∧ (po : Int) < (len : Int) := by omega
  have i3 : (0 : Int) ≤ (pc : Int) ∧ (pc : Int) < (len : Int) := by omega
  have i4 : (0 : Int) ≤ (no : Int) ∧ (no : Int) < (len : Int) := by omega
  have HBX := Lib.hid (show ∀ q, Below w.heap.size w (w1.drewN q) from fun q => below_more HB0.out (HB1.out.trans ⟨rfl, rfl, rfl, Nat.le_refl _, fun _ _ => rfl⟩) HB0.out.size)
  clear hlT h0 ho hol
  obtain ⟨g1, hg1⟩ : ∃ g, (a1 == b1) = g := ⟨_, rfl⟩
  obtain ⟨g2, hg2⟩ : ∃ g, (a2 == b2) = g := ⟨_, rfl⟩
  have HO := Lib.hid (show ob = (g1 && g2) from by rw [HOB.out, hg1, hg2])
  clear HOB
  cases g1
  all_goals cases g2
  all_goals
    go_upto_region 4 with fail
    go_quiet ((first | (go_at_call 55; first | with_reducible exact HNC.out _ | with_reducible exact HNO.out _) | (go_at_call 56; first | with_reducible exact HPC.out _ | with_reducible exact HPO.out _)))
    all_goals
      go_wp2
      first
        | exact bodyPost_ret (v := .bool false) (by simp [results, Tryz.results51, go_sem]) rfl ⟨by rw [HO.out]; rfl, HBX.out _⟩
        | exact bodyPost_ret (v := .bool true) (by simp [results, Tryz.results51, go_sem]) rfl ⟨by rw [HO.out]; rfl, HBX.out _⟩
def nfN (φ : Nat → Nat) : Nat → Int := fun i => (φ i : Int)
theorem nfN_join (φ : Nat → Nat) (a b : Nat) : upd (upd (nfN φ) a ((min (φ a) (φ b) : Nat) : Int)) b ((min (φ a) (φ b) : Nat) : Int) = nfN (joinF φ a b) := by
  funext i
  unfold upd nfN joinF updN
  by_cases e1 : i = b
  · simp [e1]
  · by_cases e2 : i = a
    · simp [e1, e2]
    · simp [e1, e2]
set_option maxRecDepth 100000 in
set_option maxHeartbeats 1000000 in
theorem join32 (w : World) (g n : Nat) (φ : Nat → Nat) (a b : Nat) (hrow : RowIs w g 3 (iv (nfN φ) n)) (ha : a < n) (hb : b < n) (hn : n ≤ 100000) :
    Calls Tryz.prog 54 #[.slice (some ⟨g, 0, none⟩) n n, .int .i64 (a : Int), .int .i64 (b : Int)] w fun e w' => e = .returned (.tuple #[]) ∧ RowIs w' g 3 (iv (nfN (joinF φ a b)) n) ∧ w.grownBy w' (some g) := by
  have c0 := hrow.cell (iv_get (nfN φ) ha)
  have c1 := hrow.cell (iv_get (nfN φ) hb)
  have f0 := hrow.free a
  have f1 := hrow.free b
  obtain ⟨x, hx⟩ : ∃ x, x = φ a := ⟨_, rfl⟩
  obtain ⟨y, hy⟩ : ∃ y, y = φ b := ⟨_, rfl⟩
  simp only [nfN, ← hx, ← hy] at c0 c1
  have HR := Lib.hid (show ∀ l : Nat, l = min (φ a) (φ b) → RowIs ((w.setCell ⟨g, a, none⟩ (.int .i64 (l : Int))).setCell ⟨g, b, none⟩ (.int .i64 (l : Int))) g 3 (iv (nfN (joinF φ a b)) n) from fun l hl => by
    have h := (hrow.set a (.int .i64 (l : Int))).set b (.int .i64 (l : Int))
    rw [iv_set, iv_set, hl, nfN_join] at h
    rw [hl]
    exact h)
  have HG := Lib.hid (show ∀ v1 v2, w.grownBy ((w.setCell ⟨g, a, none⟩ v1).setCell ⟨g, b, none⟩ v2) (some g) from fun v1 v2 => grown_tr (grown_set w g a v1) (grown_set _ g b v2))
  by_cases hxy : y < x
  · have d0 : decide ((y : Int) < (x : Int)) = true := by simp; omega
    have d1 : decide (y < x) = true := by simpa using hxy
    have HM := Lib.hid (show y = min (φ a) (φ b) from by rw [← hx, ← hy]; omega)
    have hset := hrow.set a (.int .i64 (y : Int))
    have fq := hset.free b
    rw [iv_set] at hset
    have hq := hset.cell (iv_get _ hb)
    generalize upd (nfN φ) a (y : Int) b = q at hq
    clear hrow hx hy hxy hset
    go_enter Tryz.func54, Tryz.ntmps54
    go_wp2
    exact bodyPost_end (v := .tuple #[]) (by simp [results, Tryz.results54, go_sem]) rfl ⟨rfl, HR.out y HM.out, HG.out _ _⟩
  · have d0 : decide ((y : Int) < (x : Int)) = false := by simp; omega
    have d1 : decide (y < x) = false := by simpa using hxy
    have HM := Lib.hid (show x = min (φ a) (φ b) from by rw [← hx, ← hy]; omega)
    have hset := hrow.set a (.int .i64 (x : Int))
    have fq := hset.free b
    rw [iv_set] at hset
    have hq := hset.cell (iv_get _ hb)
    generalize upd (nfN φ) a (x : Int) b = q at hq
    clear hrow hx hy hxy hset
    go_enter Tryz.func54, Tryz.ntmps54
    go_wp2
    exact bodyPost_end (v := .tuple #[]) (by simp [results, Tryz.results54, go_sem]) rfl ⟨rfl, HR.out x HM.out, HG.out _ _⟩
def SidesQ (w : World) (T : List Tr) (K : List Int) (e : Ending) (w' : World) : Prop :=
  ∃ g L, e = .returned (.slice (some ⟨g, 0, none⟩) (3 * T.length) (3 * T.length)) ∧ w.heap.size ≤ g ∧ RowIs w' g 3 (iv L (3 * T.length)) ∧ IsLeast (KSAdj T K) (3 * T.length) L ∧ Below w.heap.size w w'
set_option maxRecDepth 100000 in
set_option maxHeartbeats 4000000 in
theorem sides32 (n : Nat) (ao : Option Addr) (cap : Nat) (T : List Tr) (ko : Option Addr) (kc : Nat) (K : List Int) (w : World) (hT : TrisAt w ao T) (hs : Surf n T) (hK : IntsAt w ko K) (hkl : K.length = 3 * T.length) (hl : T.length ≤ 1000) :
    Calls Tryz.prog 19 #[.agg #[.int .i64 (n : Int), .slice ao T.length cap], .slice ko K.length kc] w (SidesQ w T K) := by
  obtain ⟨i0, hi, hz0, hz1, hz2⟩ := info_parts info3
  obtain ⟨W0, hW0⟩ : ∃ W0, W0 = w.alloc (.cells #[.int .i64 (n : Int), .slice ao T.length cap] 24) := ⟨_, rfl⟩
  have hb0 : Below w.heap.size w W0 := by rw [hW0]; exact (Below.refl _ _).alloc (Nat.le_refl _) _
  have hr0 : RowIs W0 w.heap.size 24 [.int .i64 (n : Int), .slice ao T.length cap] := by rw [hW0]; exact RowIs.made w 24 [.int .i64 (n : Int), .slice ao T.length cap]
  have hT0 := hT.mono (Nat.le_refl _) hb0
  have hK0 := hK.mono (Nat.le_refl _) hb0
  have HOPN := Lib.hid (show ∀ (c : Nat) (X : World), c < 3 * T.length → Below W0.heap.size W0 X → Calls Tryz.prog 51 #[.agg #[.int .i64 (n : Int), .slice ao T.length cap], .slice ko K.length kc, .int .i64 (c : Int)] X fun e w' => e = .returned (.bool (openB T K c)) ∧ Below X.heap.size X w' from fun c X hc hX => open32 n ao cap T ko kc K c X (hT0.mono (Nat.le_refl _) hX) hs (hK0.mono (Nat.le_refl _) hX) hkl hc)
  have HOPP := Lib.hid (show ∀ (c : Nat) (X : World), c < 3 * T.length → Below W0.heap.size W0 X → Calls Tryz.prog 52 #[.agg #[.int .i64 (n : Int), .slice ao T.length cap], .int .i64 (c : Int)] X fun e w' => e = .returned (.int .i64 (opp T (c : Nat))) ∧ Below X.heap.size X w' from fun c X hc hX => opp15 n ao cap T c X (hT0.mono (Nat.le_refl _) hX) hs hc)
  have HS := Lib.hid hs
  have HB0 := Lib.hid hb0
  have HR0 := Lib.hid hr0
  obtain ⟨len, hlen⟩ : ∃ l, l = T.length := ⟨_, rfl⟩
  obtain ⟨kl, hkle⟩ : ∃ l, l = K.length := ⟨_, rfl⟩
  obtain ⟨l3, hl3⟩ : ∃ l, l = 3 * T.length := ⟨_, rfl⟩
  have HL := Lib.hid hlen
  have HL3 := Lib.hid hl3
  have h3l : (3 : Int) * (len : Int) = (l3 : Int) := by omega
  have hl3b : l3 ≤ 3000 := by omega
  have h3len : l3 = 3 * len := by omega
  rw [← hkle] at HOPN ⊢
  rw [← hlen] at hW0 HR0 hl ⊢
  simp only [← hlen] at HOPP HOPN
  have HW0 := Lib.hid hW0
  have H3 := Lib.hid h3len
  obtain ⟨xb, hxb⟩ : ∃ x, x = w.heap.size := ⟨_, rfl⟩
  rw [← hxb] at HR0
  have HXB := Lib.hid hxb
  clear hT hK hT0 hK0 hb0 hr0 hW0 hlen hl3 hs hkl hkle hxb h3len
  go_enter Tryz.func19, Tryz.ntmps19
  go_upto_region 1 with fail
  rw [← HW0.out, ← HXB.out]
  have c0 := HR0.out.cell (i := 0) rfl
  have c1 := HR0.out.cell (i := 1) rfl
  go_wp2_with (at_make; refine wpList_make_full _ rfl _ _ _ rfl W0.heap.size 3 i0 (.int .i64 0) 1 (by kernel_rfl) hi hz0 hz1 _ _ _ _ l3 rfl rfl rfl rfl (by rw [hz2]; omega) (by unfold maxLen; omega) (by simp) ?_)
  intro w3 hown hgr
  rw [madeCells_iv] at hown
  have hrow := RowIs.of_owns hown
  have HB3 := Lib.hid (show Below W0.heap.size W0 w3 from (Below.refl _ _).grown hgr (Nat.le_refl _) (by simp))
  obtain ⟨g, hg⟩ : ∃ q, q = W0.heap.size := ⟨_, rfl⟩
  rw [← hg] at hrow
  have HG := Lib.hid hrow
  have HGE := Lib.hid hg
  clear hown hgr hrow c0 c1
  rw [← hg]
  clear hg
  go_wp2
  go_loopw [6] (fun i ws => ∃ k : Nat, k ≤ l3 ∧ i = .int .i64 k ∧ RowIs ws g 3 (iv (fun i => if i < k then (i : Int) else 0) l3) ∧ Below W0.heap.size W0 ws) (fun i _ => l3 - (intOf i).toNat)
  case atStart => exact ⟨0, by omega, rfl, by simpa using HG.out, HB3.out⟩
  case round =>
  clear HG HB3
  obtain ⟨k, hk, rfl, hrow, hb⟩ := hrel
  obtain ⟨X, rfl⟩ : ∃ X : World, X = wr := ⟨_, rfl⟩
  by_cases hkl : k < l3
  case pos =>
    have f0 := hrow.free k
    have r0 := hrow.cell (iv_get (fun i => if i < k then (i : Int) else 0) hkl)
    have s0 := hrow.set k (.int .i64 (k : Int))
    rw [iv_set] at s0
    have e1 : upd (fun i => if i < k then (i : Int) else 0) k (k : Int) = fun i => if i < k + 1 then (i : Int) else 0 := by
      funext i; unfold upd
      by_cases e : i = k
      · subst e; simp
      · by_cases h : i < k
        · have : i < k + 1 := by omega
          simp [e, h, this]
        · have : ¬ i < k + 1 := by omega
          simp [e, h, this]
    rw [e1] at s0
    have S0 := Lib.hid s0
    have HBS := Lib.hid (hb.setCell (p := ⟨g, k, none⟩) (by have := HGE.out; show W0.heap.size ≤ g; omega) (.int .i64 (k : Int)))
    generalize hq1 : (if k < k then (k : Int) else 0) = q1 at r0
    clear hrow hb s0 e1 hq1
    go_wp2
    go_roundw
    case rel => exact ⟨k + 1, by omega, by go_num, S0.out, HBS.out⟩
    case measure => simp [intOf]; omega
  case neg =>
  have hke : k = l3 := by omega
  subst hke
  have HG := Lib.hid (show RowIs X g 3 (iv (nfN fun i => i) k) from by
    rw [iv_congr (h := nfN fun i => i) (fun i hi => by simp [hi, nfN])] at hrow
    exact hrow)
  have HBX := Lib.hid hb
  clear hrow hb hkl hk
  go_wp2
  have HSY := Lib.hid (ksadj_symm (K := K) HS.out)
  have HIN := Lib.hid (ksadj_in (T := T) (K := K))
  rw [← HL3.out] at HIN
  go_loopw [7] (fun i ws => ∃ (r : Nat) (φ : Nat → Nat), r ≤ k ∧ i = .int .i64 r ∧ RowIs ws g 3 (iv (nfN φ) k) ∧ QInv (KSAdj T K) k r φ ∧ Below W0.heap.size W0 ws) (fun i _ => k - (intOf i).toNat)
  case atStart => exact ⟨0, _, by omega, rfl, HG.out, QInv.start _ _, HBX.out⟩
  case round =>
  clear HG HBX
  obtain ⟨r, φ0, hr, rfl, hrow, hq, hb⟩ := hrel
  obtain ⟨Y, rfl⟩ : ∃ X : World, X = wr := ⟨_, rfl⟩
  have HG := Lib.hid hrow
  have HQ := Lib.hid hq
  have HBY2 := Lib.hid hb
  clear hrow hq hb
  by_cases hrl : r < k
  case neg =>
    have hre : r = k := by omega
    have HF := Lib.hid (show SidesQ w T K (.returned (.slice (some ⟨g, 0, none⟩) k k)) Y from
      ⟨g, nfN φ0, by rw [HL3.out], by have := HGE.out; have := HB0.out.size; omega, by rw [← HL3.out]; exact HG.out, by
        rw [← HL3.out]
        have := HQ.out
        rw [hre] at this
        exact this.done.least HIN.out, below_more HB0.out HBY2.out HB0.out.size⟩)
    clear hre
    go_wp2
    exact bodyPost_ret (v := .slice (some ⟨g, 0, none⟩) k k) (by simp [results, Tryz.results19, go_sem]) rfl HF.out
  case pos =>
  go_wp2
  go_loopw [8] (fun i ws => ∃ (c : Nat) (φ : Nat → Nat), c ≤ k ∧ i = .int .i64 c ∧ RowIs ws g 3 (iv (nfN φ) k) ∧ JInv (KSAdj T K) k φ0 φ (CorP T K c) ∧ Below W0.heap.size W0 ws) (fun i _ => k - (intOf i).toNat)
  case atStart => exact ⟨0, φ0, by omega, rfl, HG.out, (JInv.start HQ.out.sp).more (fun i j h => by obtain ⟨c, o, hc, -⟩ := h; omega), HBY2.out⟩
  case round =>
  clear HG HBY2
  obtain ⟨c, φ, hc, rfl, hrow, hj, hb⟩ := hrel
  obtain ⟨Z, rfl⟩ : ∃ X : World, X = wr := ⟨_, rfl⟩
  have HG := Lib.hid hrow
  have HJ := Lib.hid hj
  have HBZ := Lib.hid hb
  have hbox := HR0.out.after hb
  have c0 := hbox.cell (i := 0) rfl
  have c1 := hbox.cell (i := 1) rfl
  clear hrow hj hb hbox
  by_cases hcl : c < k
  case neg =>
    have hce : c = k := by omega
    have HQ2 := Lib.hid (show QInv (KSAdj T K) k (r + 1) φ from by
      refine HQ.out.step HIN.out HSY.out (HJ.out.round HSY.out fun i j h => ?_)
      rw [hce, HL3.out]
      exact CorP.all h)
    clear hce
    go_wp2
    go_roundw
    case rel => exact ⟨r + 1, φ, by omega, by go_num, HG.out, HQ2.out, HBZ.out⟩
    case measure => simp [intOf]; omega
  case pos =>
  have hcT : c < 3 * T.length := by rw [← HL3.out]; exact hcl
  have HOC := Lib.hid (HOPN.out c Z (by have := H3.out; omega) HBZ.out)
  obtain ⟨ob, hob⟩ : ∃ ob, ob = openB T K c := ⟨_, rfl⟩
  rw [← hob] at HOC
  have HOB := Lib.hid hob
  clear hob
  go_wp2_with fail
  refine HOC.out.mono ?_
  rintro e w5 ⟨rfl, hb5⟩
  have HB5 := Lib.hid (below_more HBZ.out hb5 HBZ.out.size)
  have HG5 := Lib.hid (HG.out.after hb5)
  clear hb5 c0 c1 HOC
  cases ob
  case false =>
    have HJ2 := Lib.hid (HJ.out.more (Q := CorP T K (c + 1)) fun i j h => by
      rcases h.step with h | ⟨o', ho', -⟩
      · exact h
      · have := openB_iff.2 ⟨o', ho'⟩
        rw [← HOB.out] at this; cases this)
    go_wp2
    go_roundw
    case rel => exact ⟨c + 1, φ, by omega, by go_num, HG5.out, HJ2.out, HB5.out⟩
    case measure => simp [intOf]; omega
  case true =>
  obtain ⟨oc, ho⟩ := openB_iff.1 HOB.out.symm
  have hol' := (ho.symm HS.out hcT).1
  obtain ⟨ha1, ha2⟩ := open_sides HS.out hcT ho
  have hoc3 : oc ≤ 3000 := by have := HL3.out; omega
  have hp1 : nxn c < k := by rw [HL3.out]; exact nxn_lt hcT
  have hp2 : pvn oc < k := by rw [HL3.out]; exact pvn_lt hol'
  have hp3 : pvn c < k := by rw [HL3.out]; exact pvn_lt hcT
  have hp4 : nxn oc < k := by rw [HL3.out]; exact nxn_lt hol'
  have HJ2 := Lib.hid (show JInv (KSAdj T K) k φ0 (joinF (joinF φ (nxn c) (pvn oc)) (pvn c) (nxn oc)) (CorP T K (c + 1)) from
    ((HJ.out.join hp1 hp2 ha1 HSY.out).join hp3 hp4 ha2 HSY.out).more fun i j h => by
      rcases h.step with h | ⟨o', ho', h⟩
      · exact .inl (.inl h)
      · obtain rfl : o' = oc := by have := ho'.1; have := ho.1; omega
        rcases h with h | h | h | h
        · exact .inl (.inr (.inl h))
        · exact .inl (.inr (.inr h))
        · exact .inr (.inl h)
        · exact .inr (.inr h))
  have HOC := HOPP.out c w5 (by have := H3.out; omega) HB5.out
  rw [ho.1] at HOC
  have HOC := Lib.hid HOC
  obtain ⟨p1, hp1e⟩ : ∃ q, q = nxn c := ⟨_, rfl⟩
  obtain ⟨p2, hp2e⟩ : ∃ q, q = pvn oc := ⟨_, rfl⟩
  obtain ⟨p3, hp3e⟩ : ∃ q, q = pvn c := ⟨_, rfl⟩
  obtain ⟨p4, hp4e⟩ : ∃ q, q = nxn oc := ⟨_, rfl⟩
  have HN1 := Lib.hid (fun X : World => next15 c X (by omega))
  have HN2 := Lib.hid (fun X : World => prev15 oc X (by omega))
  have HN3 := Lib.hid (fun X : World => prev15 c X (by omega))
  have HN4 := Lib.hid (fun X : World => next15 oc X (by omega))
  rw [← hp1e] at hp1
  rw [← hp2e] at hp2
  rw [← hp3e] at hp3
  rw [← hp4e] at hp4
  simp only [← hp1e] at HN1
  simp only [← hp2e] at HN2
  simp only [← hp3e] at HN3
  simp only [← hp4e] at HN4
  rw [← hp1e, ← hp2e, ← hp3e, ← hp4e] at HJ2
  have hbx5 := HR0.out.after HB5.out
  have c0 := hbx5.cell (i := 0) rfl
  have c1 := hbx5.cell (i := 1) rfl
  clear ha1 ha2 hol' hp1e hp2e hp3e hp4e ho hbx5
  go_wp2_with fail
  refine HOC.out.mono ?_
  rintro e w6 ⟨rfl, hb6⟩
  have HB6 := Lib.hid (below_more HB5.out hb6 HB5.out.size)
  have HG6 := Lib.hid (HG5.out.after hb6)
  have HJC1 := Lib.hid (join32 w6 g k φ p1 p2 HG6.out hp1 hp2 (by omega))
  clear hb6 c0 c1 HOC
  go_wp2_with fail
  refine (HN1.out _).mono ?_
  rintro e wN ⟨rfl, rfl⟩
  go_wp2_with fail
  refine (HN2.out _).mono ?_
  rintro e wN ⟨rfl, rfl⟩
  go_wp2_with fail
  refine HJC1.out.mono ?_
  rintro e w7 ⟨rfl, hr7, hg7⟩
  have HB7 := Lib.hid (HB6.out.grown hg7 HB6.out.size (fun q hq => by cases hq; have := HGE.out; omega))
  have HJC2 := Lib.hid (join32 w7 g k (joinF φ p1 p2) p3 p4 hr7 hp3 hp4 (by omega))
  clear hr7 hg7 HJC1
  go_wp2_with fail
  refine (HN3.out _).mono ?_
  rintro e wN ⟨rfl, rfl⟩
  go_wp2_with fail
  refine (HN4.out _).mono ?_
  rintro e wN ⟨rfl, rfl⟩
  go_wp2_with fail
  refine HJC2.out.mono ?_
  rintro e w8 ⟨rfl, hr8, hg8⟩
  have HB8 := Lib.hid (HB7.out.grown hg8 HB7.out.size (fun q hq => by cases hq; have := HGE.out; omega))
  have HG8 := Lib.hid hr8
  clear hr8 hg8 HJC2
  go_wp2
  go_roundw
  case rel => exact ⟨c + 1, _, by omega, by go_num, HG8.out, HJ2.out, HB8.out⟩
  case measure => simp [intOf]; omega
def NumQ (w : World) (A : Nat → Nat → Prop) (n : Nat) (e : Ending) (w' : World) : Prop :=
  ∃ g M, e = .returned (.slice (some ⟨g, 0, none⟩) n n) ∧ w.heap.size ≤ g ∧ RowIs w' g 3 (iv M n) ∧ IsShells A n M ∧ Below w.heap.size w w'
set_option maxRecDepth 100000 in
set_option maxHeartbeats 2000000 in
theorem number32 (A : Nat → Nat → Prop) (n gl : Nat) (φ : Nat → Nat) (w : World) (hn : n ≤ 10000) (hrow : RowIs w gl 3 (iv (nfN φ) n)) (hr : Rep A n φ) :
    Calls Tryz.prog 53 #[.slice (some ⟨gl, 0, none⟩) n n] w (NumQ w A n) := by
  obtain ⟨i0, hi, hz0, hz1, hz2⟩ := info_parts info3
  have HR := Lib.hid hr
  have HROW := Lib.hid hrow
  have HGL := Lib.hid hrow.lt
  clear hr hrow
  go_enter Tryz.func53, Tryz.ntmps53
  go_wp2_with (at_make; refine wpList_make_full _ rfl _ _ _ rfl w.heap.size 3 i0 (.int .i64 0) 1 (by kernel_rfl) hi hz0 hz1 _ _ _ _ n rfl rfl rfl rfl (by rw [hz2]; omega) (by unfold maxLen; omega) (by simp) ?_)
  intro w3 hown hgr
  rw [madeCells_iv] at hown
  have hrow := RowIs.of_owns hown
  obtain ⟨g, hg⟩ : ∃ q, q = w.heap.size := ⟨_, rfl⟩
  rw [← hg] at hrow
  have HG := Lib.hid (show RowIs w3 g 3 (iv (fun _ => 0) n) ∧ Below w.heap.size w w3 from ⟨hrow, (Below.refl _ _).grown hgr (Nat.le_refl _) (by simp)⟩)
  have HGE := Lib.hid hg
  clear hown hgr hrow
  rw [← hg]
  clear hg
  go_wp2
  go_loopw [4, 5] (fun cv iv' ws => ∃ (i c : Nat) (M : Nat → Int), i ≤ n ∧ iv' = .int .i64 i ∧ cv = .int .i64 c ∧ NInv φ i c M ∧ RowIs ws g 3 (iv M n) ∧ Below w.heap.size w ws) (fun _ i _ => n - (intOf i).toNat)
  case atStart => exact ⟨0, 0, fun _ => 0, by omega, rfl, rfl, NInv.start _ _, HG.out.1, HG.out.2⟩
  case round =>
  clear HG
  obtain ⟨i, c, M, hin, rfl, rfl, hni, hrow, hb⟩ := hrel
  obtain ⟨X, rfl⟩ : ∃ X : World, X = wr := ⟨_, rfl⟩
  have HNI := Lib.hid hni
  have HRW := Lib.hid hrow
  have HB := Lib.hid hb
  have hcn := hni.le
  by_cases hlt : i < n
  case neg =>
    have hie : i = n := by omega
    have HP := Lib.hid (show NumQ w A n (.returned (.slice (some ⟨g, 0, none⟩) n n)) X from ⟨g, M, rfl, by rw [HGE.out]; exact Nat.le_refl _, hrow, by rw [hie] at hni; exact hni.done HR.out, hb⟩)
    clear hni hrow hb hie
    go_wp2
    exact bodyPost_ret (v := .slice (some ⟨g, 0, none⟩) n n) (by simp [results, Tryz.results53, go_sem]) rfl HP.out
  case pos =>
  have hsp := (HR.out.sp i hlt).1
  have hcl := (HROW.out.after hb).cell (iv_get (nfN φ) hlt)
  obtain ⟨f, hf⟩ : ∃ f, f = φ i := ⟨_, rfl⟩
  simp only [nfN, ← hf] at hcl
  rw [← hf] at hsp
  have hco := hrow.cell (iv_get M hlt)
  have hfr := hrow.free i
  by_cases he : f = i
  case pos =>
    have hset := hrow.set i (.int .i64 (c : Int))
    rw [iv_set] at hset
    have HS := Lib.hid (show RowIs (X.setCell ⟨g, i, none⟩ (.int .i64 (c : Int))) g 3 (iv (upd M i c) n) ∧ Below w.heap.size w (X.setCell ⟨g, i, none⟩ (.int .i64 (c : Int))) ∧ NInv φ (i + 1) (c + 1) (upd M i c) from ⟨hset, hb.setCell (by show w.heap.size ≤ g; rw [HGE.out]; exact Nat.le_refl _) _, hni.fresh HR.out hlt (by rw [← hf]; exact he)⟩)
    have d0 : ((f : Int) == (i : Int)) = true := by simp [he]
    clear hset hrow hb hni he hf
    go_wp2
    go_roundw
    case rel => exact ⟨i + 1, c + 1, upd M i c, by omega, by go_num, by go_num, HS.out.2.2, HS.out.1, HS.out.2.1⟩
    case measure => simp [intOf]; omega
  case neg =>
    have hflt : f < i := by omega
    have hcf := hrow.cell (iv_get M (show f < n by omega))
    have hni2 := hni.same HR.out hlt (by rw [← hf]; exact he)
    rw [← hf] at hni2
    obtain ⟨v, hv⟩ : ∃ v, v = M f := ⟨_, rfl⟩
    rw [← hv] at hcf hni2
    have hset := hrow.set i (.int .i64 v)
    rw [iv_set] at hset
    have HS := Lib.hid (show RowIs (X.setCell ⟨g, i, none⟩ (.int .i64 v)) g 3 (iv (upd M i v) n) ∧ Below w.heap.size w (X.setCell ⟨g, i, none⟩ (.int .i64 v)) ∧ NInv φ (i + 1) c (upd M i v) from ⟨hset, hb.setCell (by show w.heap.size ≤ g; rw [HGE.out]; exact Nat.le_refl _) _, hni2.2⟩)
    have d0 : ((f : Int) == (i : Int)) = false := by simp; omega
    clear hset hrow hb hni hni2 he hf hv
    go_wp2
    go_roundw
    case rel => exact ⟨i + 1, c, upd M i v, by omega, by go_num, rfl, HS.out.2.2, HS.out.1, HS.out.2.1⟩
    case measure => simp [intOf]; omega
set_option maxRecDepth 100000 in
set_option maxHeartbeats 4000000 in
theorem of32 (n : Nat) (ao : Option Addr) (cap : Nat) (T : List Tr) (ko : Option Addr) (kc : Nat) (K : List Int) (w : World) (hT : TrisAt w ao T) (hs : Surf n T) (hK : IntsAt w ko K) (hkl : K.length = 3 * T.length) (hl : T.length ≤ 1000) :
    Calls Tryz.prog 18 #[.agg #[.int .i64 (n : Int), .slice ao T.length cap], .slice ko K.length kc] w (fun e w' => NumQ w (KAdj T K) T.length e w') := by
  obtain ⟨i0, hi, hz0, hz1, hz2⟩ := info_parts info3
  obtain ⟨W0, hW0⟩ : ∃ W0, W0 = w.alloc (.cells #[.int .i64 (n : Int), .slice ao T.length cap] 24) := ⟨_, rfl⟩
  have hb0 : Below w.heap.size w W0 := by rw [hW0]; exact (Below.refl _ _).alloc (Nat.le_refl _) _
  have hr0 : RowIs W0 w.heap.size 24 [.int .i64 (n : Int), .slice ao T.length cap] := by rw [hW0]; exact RowIs.made w 24 [.int .i64 (n : Int), .slice ao T.length cap]
  have hT0 := hT.mono (Nat.le_refl _) hb0
  have hK0 := hK.mono (Nat.le_refl _) hb0
  have HOPN := Lib.hid (show ∀ (c : Nat) (X : World), c < 3 * T.length → Below W0.heap.size W0 X → Calls Tryz.prog 51 #[.agg #[.int .i64 (n : Int), .slice ao T.length cap], .slice ko K.length kc, .int .i64 (c : Int)] X fun e w' => e = .returned (.bool (openB T K c)) ∧ Below X.heap.size X w' from fun c X hc hX => open32 n ao cap T ko kc K c X (hT0.mono (Nat.le_refl _) hX) hs (hK0.mono (Nat.le_refl _) hX) hkl hc)
  have HOPP := Lib.hid (show ∀ (c : Nat) (X : World), c < 3 * T.length → Below W0.heap.size W0 X → Calls Tryz.prog 52 #[.agg #[.int .i64 (n : Int), .slice ao T.length cap], .int .i64 (c : Int)] X fun e w' => e = .returned (.int .i64 (opp T (c : Nat))) ∧ Below X.heap.size X w' from fun c X hc hX => opp15 n ao cap T c X (hT0.mono (Nat.le_refl _) hX) hs hc)
  have HS := Lib.hid hs
  have HB0 := Lib.hid hb0
  have HR0 := Lib.hid hr0
  obtain ⟨len, hlen⟩ : ∃ l, l = T.length := ⟨_, rfl⟩
  obtain ⟨kl, hkle⟩ : ∃ l, l = K.length := ⟨_, rfl⟩
  obtain ⟨l3, hl3⟩ : ∃ l, l = 3 * T.length := ⟨_, rfl⟩
  have HL := Lib.hid hlen
  have HL3 := Lib.hid hl3
  have h3l : (3 : Int) * (len : Int) = (l3 : Int) := by omega
  have hl3b : l3 ≤ 3000 := by omega
  have h3len : l3 = 3 * len := by omega
  rw [← hkle] at HOPN ⊢
  rw [← hlen] at hW0 HR0 hl ⊢
  simp only [← hlen] at HOPP HOPN
  have HW0 := Lib.hid hW0
  have H3 := Lib.hid h3len
  obtain ⟨xb, hxb⟩ : ∃ x, x = w.heap.size := ⟨_, rfl⟩
  rw [← hxb] at HR0
  have HXB := Lib.hid hxb
  clear hT hK hT0 hK0 hb0 hr0 hW0 hlen hl3 hs hkl hkle hxb h3len
  go_enter Tryz.func18, Tryz.ntmps18
  go_upto_region 1 with fail
  rw [← HW0.out, ← HXB.out]
  have c0 := HR0.out.cell (i := 0) rfl
  have c1 := HR0.out.cell (i := 1) rfl
  go_wp2_with (at_make; refine wpList_make_full _ rfl _ _ _ rfl W0.heap.size 3 i0 (.int .i64 0) 1 (by kernel_rfl) hi hz0 hz1 _ _ _ _ len rfl rfl rfl rfl (by rw [hz2]; omega) (by unfold maxLen; omega) (by simp) ?_)
  intro w3 hown hgr
  rw [madeCells_iv] at hown
  have hrow := RowIs.of_owns hown
  have HB3 := Lib.hid (show Below W0.heap.size W0 w3 from (Below.refl _ _).grown hgr (Nat.le_refl _) (by simp))
  obtain ⟨g, hg⟩ : ∃ q, q = W0.heap.size := ⟨_, rfl⟩
  rw [← hg] at hrow
  have HG := Lib.hid hrow
  have HGE := Lib.hid hg
  clear hown hgr hrow c0 c1
  rw [← hg]
  clear hg
  go_wp2
  go_loopw [6] (fun i ws => ∃ k : Nat, k ≤ len ∧ i = .int .i64 k ∧ RowIs ws g 3 (iv (fun i => if i < k then (i : Int) else 0) len) ∧ Below W0.heap.size W0 ws) (fun i _ => len - (intOf i).toNat)
  case atStart => exact ⟨0, by omega, rfl, by simpa using HG.out, HB3.out⟩
  case round =>
  clear HG HB3
  obtain ⟨k, hk, rfl, hrow, hb⟩ := hrel
  obtain ⟨X, rfl⟩ : ∃ X : World, X = wr := ⟨_, rfl⟩
  by_cases hkl : k < len
  case pos =>
    have f0 := hrow.free k
    have r0 := hrow.cell (iv_get (fun i => if i < k then (i : Int) else 0) hkl)
    have s0 := hrow.set k (.int .i64 (k : Int))
    rw [iv_set] at s0
    have e1 : upd (fun i => if i < k then (i : Int) else 0) k (k : Int) = fun i => if i < k + 1 then (i : Int) else 0 := by
      funext i; unfold upd
      by_cases e : i = k
      · subst e; simp
      · by_cases h : i < k
        · have : i < k + 1 := by omega
          simp [e, h, this]
        · have : ¬ i < k + 1 := by omega
          simp [e, h, this]
    rw [e1] at s0
    have S0 := Lib.hid s0
    have HBS := Lib.hid (hb.setCell (p := ⟨g, k, none⟩) (by have := HGE.out; show W0.heap.size ≤ g; omega) (.int .i64 (k : Int)))
    generalize hq1 : (if k < k then (k : Int) else 0) = q1 at r0
    clear hrow hb s0 e1 hq1
    go_wp2
    go_roundw
    case rel => exact ⟨k + 1, by omega, by go_num, S0.out, HBS.out⟩
    case measure => simp [intOf]; omega
  case neg =>
  have hke : k = len := by omega
  subst hke
  have HG := Lib.hid (show RowIs X g 3 (iv (nfN fun i => i) k) from by
    rw [iv_congr (h := nfN fun i => i) (fun i hi => by simp [hi, nfN])] at hrow
    exact hrow)
  have HBX := Lib.hid hb
  clear hrow hb hkl hk
  go_wp2
  have HSY := Lib.hid (kadj_symm (K := K) HS.out)
  have HIN := Lib.hid (kadj_in (T := T) (K := K))
  rw [← HL.out] at HIN
  go_loopw [7] (fun i ws => ∃ (r : Nat) (φ : Nat → Nat), r ≤ k ∧ i = .int .i64 r ∧ RowIs ws g 3 (iv (nfN φ) k) ∧ QInv (KAdj T K) k r φ ∧ Below W0.heap.size W0 ws) (fun i _ => k - (intOf i).toNat)
  case atStart => exact ⟨0, _, by omega, rfl, HG.out, QInv.start _ _, HBX.out⟩
  case round =>
  clear HG HBX
  obtain ⟨r, φ0, hr, rfl, hrow, hq, hb⟩ := hrel
  obtain ⟨Y, rfl⟩ : ∃ X : World, X = wr := ⟨_, rfl⟩
  have HG := Lib.hid hrow
  have HQ := Lib.hid hq
  have HBY2 := Lib.hid hb
  clear hrow hq hb
  by_cases hrl : r < k
  case neg =>
    have hre : r = k := by omega
    have HNU := Lib.hid (number32 (KAdj T K) k g φ0 Y (by omega) HG.out (by have := HQ.out; rw [hre] at this; exact this.done))
    have HB02 := Lib.hid (below_more HB0.out HBY2.out HB0.out.size)
    clear hre
    go_wp2_with fail
    refine HNU.out.mono ?_
    rintro e w9 ⟨g9, M9, rfl, hg9, hr9, hs9, hb9⟩
    have HF := Lib.hid (show NumQ w (KAdj T K) T.length (.returned (.slice (some ⟨g9, 0, none⟩) k k)) w9 from ⟨g9, M9, by rw [HL.out], by have := HB02.out.size; omega, by rw [← HL.out]; exact hr9, by rw [← HL.out]; exact hs9, below_more HB02.out hb9 HB02.out.size⟩)
    clear hg9 hr9 hs9 hb9
    go_wp2
    exact bodyPost_ret (v := .slice (some ⟨g9, 0, none⟩) k k) (by simp [results, Tryz.results18, go_sem]) rfl (by have := HF.out; rwa [← HL.out] at this)
  case pos =>
  go_wp2
  go_loopw [8] (fun i ws => ∃ (c : Nat) (φ : Nat → Nat), c ≤ l3 ∧ i = .int .i64 c ∧ RowIs ws g 3 (iv (nfN φ) k) ∧ JInv (KAdj T K) k φ0 φ (TriP T K c) ∧ Below W0.heap.size W0 ws) (fun i _ => l3 - (intOf i).toNat)
  case atStart => exact ⟨0, φ0, by omega, rfl, HG.out, (JInv.start HQ.out.sp).more (fun i j h => by obtain ⟨c, o, hc, -⟩ := h; omega), HBY2.out⟩
  case round =>
  clear HG HBY2
  obtain ⟨c, φ, hc, rfl, hrow, hj, hb⟩ := hrel
  obtain ⟨Z, rfl⟩ : ∃ X : World, X = wr := ⟨_, rfl⟩
  have HG := Lib.hid hrow
  have HJ := Lib.hid hj
  have HBZ := Lib.hid hb
  have hbox := HR0.out.after hb
  have c0 := hbox.cell (i := 0) rfl
  have c1 := hbox.cell (i := 1) rfl
  clear hrow hj hb hbox
  by_cases hcl : c < l3
  case neg =>
    have hce : c = l3 := by omega
    have HQ2 := Lib.hid (show QInv (KAdj T K) k (r + 1) φ from by
      refine HQ.out.step HIN.out HSY.out (HJ.out.round HSY.out fun i j h => ?_)
      rw [hce, HL3.out]
      exact TriP.all h)
    clear hce
    go_wp2
    go_roundw
    case rel => exact ⟨r + 1, φ, by omega, by go_num, HG.out, HQ2.out, HBZ.out⟩
    case measure => simp [intOf]; omega
  case pos =>
  have hcT : c < 3 * T.length := by rw [← HL3.out]; exact hcl
  have HOC := Lib.hid (HOPN.out c Z (by have := H3.out; omega) HBZ.out)
  obtain ⟨ob, hob⟩ : ∃ ob, ob = openB T K c := ⟨_, rfl⟩
  rw [← hob] at HOC
  have HOB := Lib.hid hob
  clear hob
  go_wp2_with fail
  refine HOC.out.mono ?_
  rintro e w5 ⟨rfl, hb5⟩
  have HB5 := Lib.hid (below_more HBZ.out hb5 HBZ.out.size)
  have HG5 := Lib.hid (HG.out.after hb5)
  clear hb5 c0 c1 HOC
  cases ob
  case false =>
    have HJ2 := Lib.hid (HJ.out.more (Q := TriP T K (c + 1)) fun i j h => by
      rcases h.step with h | ⟨o', ho', -⟩
      · exact h
      · have := openB_iff.2 ⟨o', ho'⟩
        rw [← HOB.out] at this; cases this)
    go_wp2
    go_roundw
    case rel => exact ⟨c + 1, φ, by omega, by go_num, HG5.out, HJ2.out, HB5.out⟩
    case measure => simp [intOf]; omega
  case true =>
  obtain ⟨oc, ho⟩ := openB_iff.1 HOB.out.symm
  have hol' := (ho.symm HS.out hcT).1
  have hka : KAdj T K (c / 3) (oc / 3) := ⟨c, oc, hcT, hol', ho, rfl, rfl⟩
  have hoc3 : oc ≤ 3000 := by have := HL3.out; omega
  have hp1 : c / 3 < k := by have := HL.out; omega
  have hp2 : oc / 3 < k := by have := HL.out; omega
  have HJ2 := Lib.hid (show JInv (KAdj T K) k φ0 (joinF φ (c / 3) (oc / 3)) (TriP T K (c + 1)) from
    (HJ.out.join hp1 hp2 hka HSY.out).more fun i j h => by
      rcases h.step with h | ⟨o', ho', h⟩
      · exact .inl h
      · obtain rfl : o' = oc := by have := ho'.1; have := ho.1; omega
        exact .inr h)
  have HOC := HOPP.out c w5 (by have := H3.out; omega) HB5.out
  rw [ho.1] at HOC
  have HOC := Lib.hid HOC
  obtain ⟨a, ha⟩ : ∃ q, q = c / 3 := ⟨_, rfl⟩
  obtain ⟨b, hb⟩ : ∃ q, q = oc / 3 := ⟨_, rfl⟩
  have hda : (c : Int) / 3 = (a : Int) := by omega
  have hdb : (oc : Int) / 3 = (b : Int) := by omega
  rw [← ha, ← hb] at HJ2
  rw [← ha] at hp1
  rw [← hb] at hp2
  have hbx5 := HR0.out.after HB5.out
  have c0 := hbx5.cell (i := 0) rfl
  have c1 := hbx5.cell (i := 1) rfl
  clear hka hol' ha hb ho hbx5
  go_wp2_with fail
  refine HOC.out.mono ?_
  rintro e w6 ⟨rfl, hb6⟩
  have HB6 := Lib.hid (below_more HB5.out hb6 HB5.out.size)
  have hrow := HG5.out.after hb6
  have q0 := hrow.cell (iv_get (nfN φ) hp1)
  have q1 := hrow.cell (iv_get (nfN φ) hp2)
  have f0 := hrow.free a
  have f1 := hrow.free b
  obtain ⟨x, hx⟩ : ∃ x, x = φ a := ⟨_, rfl⟩
  obtain ⟨y, hy⟩ : ∃ y, y = φ b := ⟨_, rfl⟩
  simp only [nfN, ← hx, ← hy] at q0 q1
  have HRW := Lib.hid (show ∀ l : Nat, l = min (φ a) (φ b) → RowIs ((w6.setCell ⟨g, a, none⟩ (.int .i64 (l : Int))).setCell ⟨g, b, none⟩ (.int .i64 (l : Int))) g 3 (iv (nfN (joinF φ a b)) k) from fun l hl => by
    have h := (hrow.set a (.int .i64 (l : Int))).set b (.int .i64 (l : Int))
    rw [iv_set, iv_set, hl, nfN_join] at h
    rw [hl]
    exact h)
  have HBB := Lib.hid (show ∀ v1 v2, Below W0.heap.size W0 ((w6.setCell ⟨g, a, none⟩ v1).setCell ⟨g, b, none⟩ v2) from fun v1 v2 => (HB6.out.setCell (p := ⟨g, a, none⟩) (by show W0.heap.size ≤ g; rw [HGE.out]; exact Nat.le_refl _) v1).setCell (p := ⟨g, b, none⟩) (by show W0.heap.size ≤ g; rw [HGE.out]; exact Nat.le_refl _) v2)
  have ha0 : (0 : Int) ≤ (a : Int) ∧ (a : Int) < (k : Int) := by omega
  have hb0 : (0 : Int) ≤ (b : Int) ∧ (b : Int) < (k : Int) := by omega
  by_cases hxy : y < x
  case pos =>
    have d0 : decide ((y : Int) < (x : Int)) = true := by simp; omega
    have d1 : decide (y < x) = true := by simpa using hxy
    have HM := Lib.hid (show y = min (φ a) (φ b) from by rw [← hx, ← hy]; omega)
    have hset := hrow.set a (.int .i64 (y : Int))
    have fq := hset.free b
    rw [iv_set] at hset
    have hq := hset.cell (iv_get _ hp2)
    generalize upd (nfN φ) a (y : Int) b = q at hq
    clear hrow hx hy hxy hset hb6 c0 c1
    go_wp2
    go_roundw
    case rel => exact ⟨c + 1, _, by omega, by go_num, HRW.out y HM.out, HJ2.out, HBB.out _ _⟩
    case measure => simp [intOf]; omega
  case neg =>
    have d0 : decide ((y : Int) < (x : Int)) = false := by simp; omega
    have d1 : decide (y < x) = false := by simpa using hxy
    have HM := Lib.hid (show x = min (φ a) (φ b) from by rw [← hx, ← hy]; omega)
    have hset := hrow.set a (.int .i64 (x : Int))
    have fq := hset.free b
    rw [iv_set] at hset
    have hq := hset.cell (iv_get _ hp2)
    generalize upd (nfN φ) a (x : Int) b = q at hq
    clear hrow hx hy hxy hset hb6 c0 c1
    go_wp2
    go_roundw
    case rel => exact ⟨c + 1, _, by omega, by go_num, HRW.out x HM.out, HJ2.out, HBB.out _ _⟩
    case measure => simp [intOf]; omega
end Go.Proofs.YtfbpjlfimmjieaaGreat

/- gypsumlaw32.ChartSurface: the walk. -/
import Derived.Test.YtfbpjlfimmjieaaGreatQuad32
import Derived.Test.YtfbpjlfimmjieaaGreatSurf32
import Derived.Test.YtfbpjlfimmjieaaGreatSame08
namespace Go.Proofs.YtfbpjlfimmjieaaGreat
set_option linter.unusedVariables false
set_option linter.unusedSimpArgs false
open Go.RowKit
set_option maxRecDepth 100000 in
set_option maxHeartbeats 16000000 in
theorem chartsurf_any (N : Int) (ao : Option Addr) (cap : Nat) (T : List Tr) (ko : Option Addr) (kc : Nat) (K : List Int) (k : Int) (w : World) (hT : TrisAt w ao T) (hTl : T.length ≤ 9223372036854775807) (hK : IntsAt w ko K) (hKl : K.length ≤ 9223372036854775807) :
    Calls Tryz.prog 4 #[.agg #[.int .i64 N, .slice ao T.length cap], .slice ko K.length kc, .int .i64 k] w fun e w' => e = .returned (.bool true) ∧ Below w.heap.size w w' := by
  obtain ⟨W0, hW0⟩ : ∃ W0, W0 = w.alloc (.cells #[.int .i64 N, .slice ao T.length cap] 24) := ⟨_, rfl⟩
  have hb0 : Below w.heap.size w W0 := by rw [hW0]; exact (Below.refl _ _).alloc (Nat.le_refl _) _
  have hr0 : RowIs W0 w.heap.size 24 [.int .i64 N, .slice ao T.length cap] := by rw [hW0]; exact RowIs.made w 24 [.int .i64 N, .slice ao T.length cap]
  have HT := Lib.hid (hT.mono (Nat.le_refl _) hb0)
  have HK := Lib.hid (hK.mono (Nat.le_refl _) hb0)
  have HG := Lib.hid (fun X : World => great32 N ao T.length cap ko K.length kc X)
  have HIS := Lib.hid (fun (X : World) (h : TrisAt X ao T) (hl : T.length ≤ 10000) => is15 N ao cap T X h hl)
  have HCN := Lib.hid (fun (X : World) (h : TrisAt X ao T) (hl : T.length ≤ 8192) (hs : ¬ Surf N T) => csurf_none N ao cap T ko K.length kc k X h hl hs)
  have HCB := Lib.hid (fun (X : World) (h : TrisAt X ao T) (hs : Surf N T) (n : Nat) (hn : N = n) (hkl : K.length ≠ 3 * T.length) => (show N = (n : Int) from hn) ▸ csurf_bad n ao cap T ko K.length kc k X h (hn ▸ hs) hkl)
  have HNO := Lib.hid (fun (X : World) (h : TrisAt X ao T) (hs : Surf N T) (n : Nat) (hn : N = n) (hk : IntsAt X ko K) (hkl : K.length = 3 * T.length) (M : Nat → Int) (hM : IsShells (KAdj T K) T.length M) (h0 : sel (mL M T.length) k T.length = []) => (show N = (n : Int) from hn) ▸ csurf_no n ao cap T ko kc K k X h (hn ▸ hs) hk hkl hM h0)
  have HRN := Lib.hid (fun (X : World) (h : TrisAt X ao T) (hs : Surf N T) (n : Nat) (hn : N = n) (hn2 : n ≤ 10000) (hk : IntsAt X ko K) (hkl : K.length = 3 * T.length) (hl : T.length ≤ 1000) (M : Nat → Int) (hM : IsShells (KAdj T K) T.length M) (h0 : sel (mL M T.length) k T.length = []) => (show N = (n : Int) from hn) ▸ surf32_no n ao cap T ko kc K k X h (hn ▸ hs) hk hkl hl hn2 hM h0)
  have HCY := Lib.hid (show ∀ (X : World) (h : TrisAt X ao T) (hs : Surf N T) (n : Nat) (hn : N = n) (hk : IntsAt X ko K) (hkl : K.length = 3 * T.length) (M L : Nat → Int) (F : List Nat) (CT : List Tr) (V TR : List Int) (hM : IsShells (KAdj T K) T.length M) (hp : Piece (KSAdj T K) T (mL M T.length) k L F) (hne : sel (mL M T.length) k T.length ≠ []) (hCT : CT = cutT (mL M T.length) k L F T.length) (hV : V = cutV T F) (hTR : TR = nl (sel (mL M T.length) k T.length)),
      Calls Tryz.prog 20 #[.agg #[.int .i64 N, .slice ao T.length cap], .slice ko K.length kc, .int .i64 k] X fun e w' => ∃ a1 a2 a3 c1 c2 c3,
        e = .returned (.tuple #[.agg #[.int .i64 (V.length : Int), .slice a1 CT.length c1], .slice a2 V.length c2, .slice a3 TR.length c3, .int .i64 0]) ∧
        TrisAt w' a1 CT ∧ IntsAt w' a2 V ∧ IntsAt w' a3 TR ∧ Below X.heap.size X w' from fun X h hs n hn hk hkl M L F CT V TR hM hp hne hCT hV hTR => by
    subst hCT hV hTR hn
    have := csurf_yes n ao cap T ko kc K k X h hs hk hkl hM hp hne
    simpa only [show (cutV T F).length = F.length from by simp [cutV], show (nl (sel (mL M T.length) k T.length)).length = (sel (mL M T.length) k T.length).length from by simp [nl]] using this)
  have HRY := Lib.hid (show ∀ (X : World) (h : TrisAt X ao T) (hs : Surf N T) (n : Nat) (hn : N = n) (hn2 : n ≤ 10000) (hk : IntsAt X ko K) (hkl : K.length = 3 * T.length) (hl : T.length ≤ 1000) (M L : Nat → Int) (F : List Nat) (CT : List Tr) (V TR : List Int) (hM : IsShells (KAdj T K) T.length M) (hp : Piece (KSAdj T K) T (mL M T.length) k L F) (hne : sel (mL M T.length) k T.length ≠ []) (hCT : CT = cutT (mL M T.length) k L F T.length) (hV : V = cutV T F) (hTR : TR = nl (sel (mL M T.length) k T.length)),
      Calls Tryz.prog 21 #[.agg #[.int .i64 N, .slice ao T.length cap], .slice ko K.length kc, .int .i64 k] X fun e w' => ∃ a1 a2 a3 c1 c2 c3,
        e = .returned (.tuple #[.agg #[.int .i64 (V.length : Int), .slice a1 CT.length c1], .slice a2 V.length c2, .slice a3 TR.length c3, .bool true]) ∧
        TrisAt w' a1 CT ∧ IntsAt w' a2 V ∧ IntsAt w' a3 TR ∧ Below X.heap.size X w' from fun X h hs n hn hn2 hk hkl hl M L F CT V TR hM hp hne hCT hV hTR => by
    subst hCT hV hTR hn
    have := surf32_yes n ao cap T ko kc K k X h hs hk hkl hl hn2 hM hp hne
    simpa only [show (cutV T F).length = F.length from by simp [cutV], show (nl (sel (mL M T.length) k T.length)).length = (sel (mL M T.length) k T.length).length from by simp [nl]] using this)
  have HLE := Lib.hid (show ∀ (M L : Nat → Int) (F : List Nat) (CT : List Tr) (V TR : List Int), T.length ≤ 30 → Piece (KSAdj T K) T (mL M T.length) k L F → CT = cutT (mL M T.length) k L F T.length → V = cutV T F → TR = nl (sel (mL M T.length) k T.length) → CT.length ≤ 30 ∧ V.length ≤ 90 ∧ TR.length ≤ 30 from fun M L F CT V TR hl hp hCT hV hTR => by
    have h1 := hp.len
    have h2 : (sel (mL M T.length) k T.length).length ≤ T.length := by unfold sel; exact Nat.le_trans (List.length_filter_le _ _) (by simp)
    subst hCT hV hTR
    simp [cutT, cutV, nl]
    omega)
  have HMX := Lib.hid (show ∀ n : Nat, Surf n T → ∃ M L F, IsShells (KAdj T K) T.length M ∧ Piece (KSAdj T K) T (mL M T.length) k L F from fun n hs => by
    obtain ⟨M, hM⟩ := shells_exist (KAdj T K) T.length
    obtain ⟨L, hL⟩ := least_exists (A := KSAdj T K) (3 * T.length) ksadj_in
    exact ⟨M, L, _, hM, rowK_piece hs hM hL k⟩)
  obtain ⟨len, hlen⟩ : ∃ l, l = T.length := ⟨_, rfl⟩
  obtain ⟨kl, hkle⟩ : ∃ l, l = K.length := ⟨_, rfl⟩
  simp only [noSurf, ← hlen, ← hkle] at HG HIS HCN HCB HNO HRN HCY HRY HLE HMX hW0 hr0 hTl hKl
  rw [← hlen, ← hkle]
  have HL := Lib.hid hlen
  have HR0 := Lib.hid hr0
  have HB0 := Lib.hid hb0
  have HW0 := Lib.hid hW0
  clear hT hK hb0 hr0 hW0 hlen hkle
  go_enter Tryz.func4, Tryz.ntmps4
  go_upto_region 1 with fail
  rw [← HW0.out]
  go_wp2_with fail
  refine (awake32 _).mono ?_
  rintro e w1 ⟨rfl, hb1⟩
  have HB1 := Lib.hid (below_more HB0.out hb1 HB0.out.size)
  have HR1 := Lib.hid (HR0.out.after hb1)
  have HT1 := Lib.hid (HT.out.mono (Nat.le_refl _) hb1)
  have HK1 := Lib.hid (HK.out.mono (Nat.le_refl _) hb1)
  have c0 := HR1.out.cell (i := 0) rfl
  have c1 := HR1.out.cell (i := 1) rfl
  have HG1 := Lib.hid (HG.out w1)
  clear hb1
  cases hg : grB32 N len kl
  case true =>
    rw [hg] at HG1
    clear hg
    go_wp2_with fail
    refine HG1.out.mono ?_
    rintro e w2 ⟨rfl, hb2⟩
    have HB2 := Lib.hid (below_more HB1.out hb2 HB1.out.size)
    clear hb2
    go_wp2
    exact bodyPost_ret (v := .bool true) (by simp [results, Tryz.results4, go_sem]) rfl ⟨rfl, HB2.out⟩
  case false =>
    rw [hg] at HG1
    obtain ⟨hl30, hN, hk2⟩ := grB32_no hg
    clear hg
    go_wp2_with fail
    refine HG1.out.mono ?_
    rintro e w2 ⟨rfl, hb2⟩
    have HB2 := Lib.hid (below_more HB1.out hb2 HB1.out.size)
    have HR2 := Lib.hid (HR1.out.after hb2)
    have HT2 := Lib.hid (HT1.out.mono (Nat.le_refl _) hb2)
    have HK2 := Lib.hid (HK1.out.mono (Nat.le_refl _) hb2)
    have c0 := HR2.out.cell (i := 0) rfl
    have c1 := HR2.out.cell (i := 1) rfl
    clear hb2
    have e3 : IntKind.i64.wrap (3 * (len : Int)) = 3 * (len : Int) := IntWalk.i64_in _ (by omega)
    by_cases hs : Surf N T
    · obtain ⟨n, hn⟩ : ∃ n : Nat, N = n := ⟨N.toNat, by have := hs.n0; omega⟩
      have HS := Lib.hid hs
      have HNN := Lib.hid hn
      have HN2 := Lib.hid (show n ≤ 10000 by omega)
      clear hs hn
      by_cases hk : kl = 3 * len
      · have d2 : ((kl : Int) != 3 * (len : Int)) = false := by simp; omega
        have HKL := Lib.hid hk
        obtain ⟨M, L, F, hM, hp⟩ := HMX.out n (HNN.out ▸ HS.out)
        by_cases hsel : sel (mL M len) k len = []
        · have HC2 := Lib.hid (HNO.out w2 HT2.out HS.out n HNN.out HK2.out hk M hM hsel)
          have HRX := Lib.hid (fun (X : World) (h : TrisAt X ao T) (h' : IntsAt X ko K) => HRN.out X h HS.out n HNN.out HN2.out h' hk (by omega) M hM hsel)
          clear hk hM hp hsel
          go_wp2_with fail
          refine HC2.out.mono ?_
          rintro e w3 ⟨rfl, hb3⟩
          have HB3 := Lib.hid (below_more HB2.out hb3 HB2.out.size)
          have HR3 := Lib.hid (HR2.out.after hb3)
          have HT3 := Lib.hid (HT2.out.mono (Nat.le_refl _) hb3)
          have HK3 := Lib.hid (HK2.out.mono (Nat.le_refl _) hb3)
          clear hb3
          obtain ⟨W4, hW4⟩ : ∃ W4, W4 = w3.alloc (.cells #[.int .i64 0, .slice none 0 0] 24) := ⟨_, rfl⟩
          go_upto_region 6 with fail
          rw [← hW4]
          have hb4 : Below w3.heap.size w3 W4 := by rw [hW4]; exact (Below.refl _ _).alloc (Nat.le_refl _) _
          have HB4 := Lib.hid (below_more HB3.out hb4 HB3.out.size)
          have hr4 := HR3.out.after hb4
          have HR4 := Lib.hid hr4
          have HI4 := Lib.hid (HIS.out W4 (HT3.out.mono (Nat.le_refl _) hb4) (by omega))
          have HT4 := Lib.hid (HT3.out.mono (Nat.le_refl _) hb4)
          have HK4 := Lib.hid (HK3.out.mono (Nat.le_refl _) hb4)
          have hx4 : RowIs W4 w3.heap.size 24 [.int .i64 0, .slice none 0 0] := by rw [hW4]; exact RowIs.made w3 24 [.int .i64 0, .slice none 0 0]
          have c0 := hr4.cell (i := 0) rfl
          have c1 := hr4.cell (i := 1) rfl
          have x0 := hx4.cell (i := 0) rfl
          have x1 := hx4.cell (i := 1) rfl
          clear hb4 hr4 hx4 hW4
          go_wp2_with fail
          refine HI4.out.mono ?_
          rintro e w5 ⟨r, rfl, hr, hb5⟩
          obtain rfl : r = true := hr.2 HS.out
          have HB5 := Lib.hid (below_more HB4.out hb5 HB4.out.size)
          have HR5 := Lib.hid (HR4.out.after hb5)
          have HRX5 := Lib.hid (HRX.out w5 (HT4.out.mono (Nat.le_refl _) hb5) (HK4.out.mono (Nat.le_refl _) hb5))
          have c0 := HR5.out.cell (i := 0) rfl
          have c1 := HR5.out.cell (i := 1) rfl
          clear hr hb5
          go_wp2_with fail
          refine HRX5.out.mono ?_
          rintro e w6 ⟨rfl, hb6⟩
          have HB6 := Lib.hid ((below_more HB5.out hb6 HB5.out.size).alloc (below_more HB5.out hb6 HB5.out.size).size (.cells #[.int .i64 0, .slice none 0 0] 24))
          clear hb6
          go_wp2
          exact bodyPost_ret (v := .bool true) (by simp [results, Tryz.results4, go_sem]) rfl ⟨rfl, HB6.out⟩
        · obtain ⟨CT, hCT⟩ : ∃ C, C = cutT (mL M len) k L F len := ⟨_, rfl⟩
          obtain ⟨V, hV⟩ : ∃ C, C = cutV T F := ⟨_, rfl⟩
          obtain ⟨TR, hTR⟩ : ∃ C, C = nl (sel (mL M len) k len) := ⟨_, rfl⟩
          obtain ⟨l1, l2, l3⟩ := HLE.out M L F CT V TR hl30 hp hCT hV hTR
          have HC2 := Lib.hid (HCY.out w2 HT2.out HS.out n HNN.out HK2.out hk M L F CT V TR hM hp hsel hCT hV hTR)
          have HRX := Lib.hid (fun (X : World) (h : TrisAt X ao T) (h' : IntsAt X ko K) => HRY.out X h HS.out n HNN.out HN2.out h' hk (by omega) M L F CT V TR hM hp hsel hCT hV hTR)
          clear hk hM hp hsel hCT hV hTR
          obtain ⟨nV, hnV⟩ : ∃ l, l = V.length := ⟨_, rfl⟩
          obtain ⟨nC, hnC⟩ : ∃ l, l = CT.length := ⟨_, rfl⟩
          obtain ⟨nR, hnR⟩ : ∃ l, l = TR.length := ⟨_, rfl⟩
          have HSA := Lib.hid (fun (X : World) (a b : Option Addr) (c d : Nat) (h : TrisAt X a CT) (h' : TrisAt X b CT) => same08 (V.length : Int) a b c d CT X (by omega) h h')
          have HIV := Lib.hid (fun (X : World) (a b : Option Addr) (c d : Nat) (h : IntsAt X a V) (h' : IntsAt X b V) => ints08 a b c d V V X (by omega) h h')
          have HIR := Lib.hid (fun (X : World) (a b : Option Addr) (c d : Nat) (h : IntsAt X a TR) (h' : IntsAt X b TR) => ints08 a b c d TR TR X (by omega) h h')
          simp only [decide_true, ← hnV, ← hnC, ← hnR] at HC2 HRX HSA HIV HIR l1 l2 l3
          clear hnV hnC hnR
          go_wp2_with fail
          refine HC2.out.mono ?_
          rintro e w3 ⟨a1, a2, a3, d1, d2', d3, rfl, ht, hv, htr, hb3⟩
          have HB3 := Lib.hid (below_more HB2.out hb3 HB2.out.size)
          have HR3 := Lib.hid (HR2.out.after hb3)
          have HT3 := Lib.hid (HT2.out.mono (Nat.le_refl _) hb3)
          have HK3 := Lib.hid (HK2.out.mono (Nat.le_refl _) hb3)
          obtain ⟨W4, hW4⟩ : ∃ W4, W4 = w3.alloc (.cells #[.int .i64 (nV : Int), .slice a1 nC d1] 24) := ⟨_, rfl⟩
          have HVS := Lib.hid (show TrisAt w3 a1 CT ∧ IntsAt w3 a2 V ∧ IntsAt w3 a3 TR from ⟨ht, hv, htr⟩)
          clear hb3 ht hv htr
          go_upto_region 6 with fail
          rw [← hW4]
          have hb4 : Below w3.heap.size w3 W4 := by rw [hW4]; exact (Below.refl _ _).alloc (Nat.le_refl _) _
          have HB4 := Lib.hid (below_more HB3.out hb4 HB3.out.size)
          have hr4 := HR3.out.after hb4
          have HR4 := Lib.hid hr4
          have HI4 := Lib.hid (HIS.out W4 (HT3.out.mono (Nat.le_refl _) hb4) (by omega))
          have HT4 := Lib.hid (HT3.out.mono (Nat.le_refl _) hb4)
          have HK4 := Lib.hid (HK3.out.mono (Nat.le_refl _) hb4)
          have HVS4 := Lib.hid (show TrisAt W4 a1 CT ∧ IntsAt W4 a2 V ∧ IntsAt W4 a3 TR from ⟨HVS.out.1.mono (Nat.le_refl _) hb4, HVS.out.2.1.mono (Nat.le_refl _) hb4, HVS.out.2.2.mono (Nat.le_refl _) hb4⟩)
          have hx4 : RowIs W4 w3.heap.size 24 [.int .i64 (nV : Int), .slice a1 nC d1] := by rw [hW4]; exact RowIs.made w3 24 [.int .i64 (nV : Int), .slice a1 nC d1]
          have HX4 := Lib.hid hx4
          have c0 := hr4.cell (i := 0) rfl
          have c1 := hr4.cell (i := 1) rfl
          clear hb4 hr4 hx4 hW4
          go_wp2_with fail
          refine HI4.out.mono ?_
          rintro e w5 ⟨r, rfl, hr, hb5⟩
          obtain rfl : r = true := hr.2 HS.out
          have HB5 := Lib.hid (below_more HB4.out hb5 HB4.out.size)
          have HR5 := Lib.hid (HR4.out.after hb5)
          have HX5 := Lib.hid (HX4.out.after hb5)
          have HVS5 := Lib.hid (show TrisAt w5 a1 CT ∧ IntsAt w5 a2 V ∧ IntsAt w5 a3 TR from ⟨HVS4.out.1.mono (Nat.le_refl _) hb5, HVS4.out.2.1.mono (Nat.le_refl _) hb5, HVS4.out.2.2.mono (Nat.le_refl _) hb5⟩)
          have HRX5 := Lib.hid (HRX.out w5 (HT4.out.mono (Nat.le_refl _) hb5) (HK4.out.mono (Nat.le_refl _) hb5))
          have c0 := HR5.out.cell (i := 0) rfl
          have c1 := HR5.out.cell (i := 1) rfl
          clear hr hb5
          go_wp2_with fail
          refine HRX5.out.mono ?_
          rintro e w6 ⟨b1, b2, b3, f1, f2, f3, rfl, ht, hv, htr, hb6⟩
          have HB6 := Lib.hid (below_more HB5.out hb6 HB5.out.size)
          obtain ⟨W7, hW7⟩ : ∃ W7, W7 = w6.alloc (.cells #[.int .i64 (nV : Int), .slice b1 nC f1] 24) := ⟨_, rfl⟩
          have hb7 : Below w6.heap.size w6 W7 := by rw [hW7]; exact (Below.refl _ _).alloc (Nat.le_refl _) _
          have HB7 := Lib.hid (below_more HB6.out hb7 HB6.out.size)
          have HX7 := Lib.hid ((HX5.out.after hb6).after hb7)
          have hy7 : RowIs W7 w6.heap.size 24 [.int .i64 (nV : Int), .slice b1 nC f1] := by rw [hW7]; exact RowIs.made w6 24 [.int .i64 (nV : Int), .slice b1 nC f1]
          have HY7 := Lib.hid hy7
          have HVS7 := Lib.hid (show TrisAt W7 a1 CT ∧ IntsAt W7 a2 V ∧ IntsAt W7 a3 TR from ⟨(HVS5.out.1.mono (Nat.le_refl _) hb6).mono (Nat.le_refl _) hb7, (HVS5.out.2.1.mono (Nat.le_refl _) hb6).mono (Nat.le_refl _) hb7, (HVS5.out.2.2.mono (Nat.le_refl _) hb6).mono (Nat.le_refl _) hb7⟩)
          have HWS7 := Lib.hid (show TrisAt W7 b1 CT ∧ IntsAt W7 b2 V ∧ IntsAt W7 b3 TR from ⟨ht.mono (Nat.le_refl _) hb7, hv.mono (Nat.le_refl _) hb7, htr.mono (Nat.le_refl _) hb7⟩)
          have HS7 := Lib.hid (HSA.out W7 a1 b1 d1 f1 HVS7.out.1 HWS7.out.1)
          have HW7 := Lib.hid hW7
          clear ht hv htr hb6 hb7 hy7 hW7
          go_upto_region 13 with fail
          rw [← HW7.out]
          have x0 := HX7.out.cell (i := 0) rfl
          have x1 := HX7.out.cell (i := 1) rfl
          have y0 := HY7.out.cell (i := 0) rfl
          have y1 := HY7.out.cell (i := 1) rfl
          go_wp2_with fail
          refine HS7.out.mono ?_
          rintro e w8 ⟨rfl, hb8⟩
          have HB8 := Lib.hid (below_more HB7.out hb8 HB7.out.size)
          have HI8 := Lib.hid (HIV.out w8 a2 b2 d2' f2 (HVS7.out.2.1.mono (Nat.le_refl _) hb8) (HWS7.out.2.1.mono (Nat.le_refl _) hb8))
          have HP8 := Lib.hid (show IntsAt w8 a3 TR ∧ IntsAt w8 b3 TR from ⟨HVS7.out.2.2.mono (Nat.le_refl _) hb8, HWS7.out.2.2.mono (Nat.le_refl _) hb8⟩)
          clear hb8
          go_wp2_with fail
          refine HI8.out.mono ?_
          rintro e w9 ⟨rfl, hb9⟩
          have HB9 := Lib.hid (below_more HB8.out hb9 HB8.out.size)
          have HI9 := Lib.hid (HIR.out w9 a3 b3 d3 f3 (HP8.out.1.mono (Nat.le_refl _) hb9) (HP8.out.2.mono (Nat.le_refl _) hb9))
          clear hb9
          go_wp2_with fail
          refine HI9.out.mono ?_
          rintro e w10 ⟨rfl, hb10⟩
          have HB10 := Lib.hid (below_more HB9.out hb10 HB9.out.size)
          clear hb10
          go_wp2
          exact bodyPost_ret (v := .bool true) (by simp [results, Tryz.results4, go_sem]) rfl ⟨rfl, HB10.out⟩
      · have d2 : ((kl : Int) != 3 * (len : Int)) = true := by simp; omega
        have HC2 := Lib.hid (HCB.out w2 HT2.out HS.out n HNN.out hk)
        clear hk
        go_wp2_with fail
        refine HC2.out.mono ?_
        rintro e w3 ⟨rfl, hb3⟩
        have HB3 := Lib.hid (below_more HB2.out hb3 HB2.out.size)
        have HR3 := Lib.hid (HR2.out.after hb3)
        have HT3 := Lib.hid (HT2.out.mono (Nat.le_refl _) hb3)
        clear hb3
        obtain ⟨W4, hW4⟩ : ∃ W4, W4 = w3.alloc (.cells #[.int .i64 0, .slice none 0 0] 24) := ⟨_, rfl⟩
        go_upto_region 6 with fail
        rw [← hW4]
        have hb4 : Below w3.heap.size w3 W4 := by rw [hW4]; exact (Below.refl _ _).alloc (Nat.le_refl _) _
        have HB4 := Lib.hid (below_more HB3.out hb4 HB3.out.size)
        have hr4 := HR3.out.after hb4
        have HR4 := Lib.hid hr4
        have HI4 := Lib.hid (HIS.out W4 (HT3.out.mono (Nat.le_refl _) hb4) (by omega))
        have hx4 : RowIs W4 w3.heap.size 24 [.int .i64 0, .slice none 0 0] := by rw [hW4]; exact RowIs.made w3 24 [.int .i64 0, .slice none 0 0]
        have c0 := hr4.cell (i := 0) rfl
        have c1 := hr4.cell (i := 1) rfl
        have x0 := hx4.cell (i := 0) rfl
        have x1 := hx4.cell (i := 1) rfl
        clear hb4 hr4 hx4 hW4
        go_wp2_with fail
        refine HI4.out.mono ?_
        rintro e w5 ⟨r, rfl, hr, hb5⟩
        obtain rfl : r = true := hr.2 HS.out
        have HB5 := Lib.hid (below_more HB4.out hb5 HB4.out.size)
        have HR5 := Lib.hid (HR4.out.after hb5)
        have c0 := HR5.out.cell (i := 0) rfl
        have c1 := HR5.out.cell (i := 1) rfl
        clear hr hb5
        go_wp2
        exact bodyPost_ret (v := .bool true) (by simp [results, Tryz.results4, go_sem]) rfl ⟨rfl, HB5.out⟩
    · have HC2 := Lib.hid (HCN.out w2 HT2.out (by omega) hs)
      have HS := Lib.hid hs
      clear hs
      go_wp2_with fail
      refine HC2.out.mono ?_
      rintro e w3 ⟨rfl, hb3⟩
      have HB3 := Lib.hid (below_more HB2.out hb3 HB2.out.size)
      have HR3 := Lib.hid (HR2.out.after hb3)
      have HT3 := Lib.hid (HT2.out.mono (Nat.le_refl _) hb3)
      clear hb3
      obtain ⟨W4, hW4⟩ : ∃ W4, W4 = w3.alloc (.cells #[.int .i64 0, .slice none 0 0] 24) := ⟨_, rfl⟩
      go_upto_region 6 with fail
      rw [← hW4]
      have hb4 : Below w3.heap.size w3 W4 := by rw [hW4]; exact (Below.refl _ _).alloc (Nat.le_refl _) _
      have HB4 := Lib.hid (below_more HB3.out hb4 HB3.out.size)
      have hr4 := HR3.out.after hb4
      have HI4 := Lib.hid (HIS.out W4 (HT3.out.mono (Nat.le_refl _) hb4) (by omega))
      have hx4 : RowIs W4 w3.heap.size 24 [.int .i64 0, .slice none 0 0] := by rw [hW4]; exact RowIs.made w3 24 [.int .i64 0, .slice none 0 0]
      have c0 := hr4.cell (i := 0) rfl
      have c1 := hr4.cell (i := 1) rfl
      have x0 := hx4.cell (i := 0) rfl
      have x1 := hx4.cell (i := 1) rfl
      clear hb4 hr4 hx4 hW4
      go_wp2_with fail
      refine HI4.out.mono ?_
      rintro e w5 ⟨r, rfl, hr, hb5⟩
      obtain rfl : r = false := by
        cases r
        · rfl
        · exact absurd (hr.1 rfl) HS.out
      have HB5 := Lib.hid (below_more HB4.out hb5 HB4.out.size)
      clear hr hb5
      go_wp2
      exact bodyPost_ret (v := .bool true) (by simp [results, Tryz.results4, go_sem]) rfl ⟨rfl, HB5.out⟩
end Go.Proofs.YtfbpjlfimmjieaaGreat

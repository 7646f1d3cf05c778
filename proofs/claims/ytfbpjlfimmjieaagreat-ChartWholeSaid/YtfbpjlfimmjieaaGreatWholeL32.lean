/- gypsumlaw32.ChartWhole: the walk. -/
import Derived.Test.YtfbpjlfimmjieaaGreatQuad32
import Derived.Test.YtfbpjlfimmjieaaGreatSurf32
import Derived.Test.YtfbpjlfimmjieaaGreatGroups
import Derived.Test.YtfbpjlfimmjieaaGreatIsAny
import Derived.Test.YtfbpjlfimmjieaaGreatSame08
namespace Go.Proofs.YtfbpjlfimmjieaaGreat
set_option linter.unusedVariables false
set_option linter.unusedSimpArgs false
open Go.RowKit
set_option maxRecDepth 100000 in
set_option maxHeartbeats 16000000 in
theorem chartwhole_any (N : Int) (ao : Option Addr) (cap : Nat) (T : List Tr) (ko : Option Addr) (kc : Nat) (K : List Int) (w : World) (hT : TrisAt w ao T) (hTl : T.length ≤ 9223372036854775807) (hK : IntsAt w ko K) (hKl : K.length ≤ 9223372036854775807) :
    Calls Tryz.prog 7 #[.agg #[.int .i64 N, .slice ao T.length cap], .slice ko K.length kc] w fun e w' => e = .returned (.bool true) ∧ Below w.heap.size w w' := by
  obtain ⟨i0, hi0, hz0, hz1, hz2⟩ := info_parts info3
  obtain ⟨W0, hW0⟩ : ∃ W0, W0 = w.alloc (.cells #[.int .i64 N, .slice ao T.length cap] 24) := ⟨_, rfl⟩
  have hb0 : Below w.heap.size w W0 := by rw [hW0]; exact (Below.refl _ _).alloc (Nat.le_refl _) _
  have hr0 : RowIs W0 w.heap.size 24 [.int .i64 N, .slice ao T.length cap] := by rw [hW0]; exact RowIs.made w 24 [.int .i64 N, .slice ao T.length cap]
  have HT := Lib.hid (hT.mono (Nat.le_refl _) hb0)
  have HK := Lib.hid (hK.mono (Nat.le_refl _) hb0)
  have HG := Lib.hid (fun (X : World) (h : TrisAt X ao T) => right32 N ao cap T ko K.length kc X h)
  have HRI := Lib.hid (show Right32 N T K.length → T.length ≤ 30 ∧ K.length = 3 * T.length ∧ Surf N T from id)
  have HTY := Lib.hid (fun (X : World) (h : TrisAt X ao T) (n : Nat) (hn : N = n) (hs : Surf n T) (hl : T.length ≤ 40) => (show N = (n : Int) from hn) ▸ table12 n ao cap T X h hs hl)
  have HOO := Lib.hid (fun (X : World) (p : Nat) (h : Tab X p N T) (hs : Surf N T) (hn : K.length = 3 * T.length) (hk : IntsAt X ko K) => (cof_ok p N T ko kc K X h hs hn hk).mono (R' := fun e w' => OfP X T K e w') fun _ _ h => h)
  have HCF := Lib.hid (show ∀ (n : Nat) (hn : N = n) (M : Nat → Int), Surf N T → T.length ≤ 1000 → K.length = 3 * T.length → IsShells (KAdj T K) T.length M → ∀ (k : Nat), (k : Int) < cnt M T.length → ∃ (nF : Nat) (CT : List Tr) (V : List Int) (S : List Nat), Surf nF CT ∧ CT.length = S.length ∧ V.length = nF ∧ S.length ≤ T.length ∧
      (∀ R, IsShells (Adj CT) CT.length R → cnt R CT.length = 1) ∧ (∀ R, IsShells (KAdj CT (ownK K S)) CT.length R → cnt R CT.length = 1) ∧
      (∀ i t, S[i]? = some t → t < T.length ∧ M t = (k : Int) ∧ ∃ a b c : Nat, T! CT i = ((a : Int), (b : Int), (c : Int)) ∧ a < nF ∧ b < nF ∧ c < nF ∧ T! T t = (I! V a, I! V b, I! V c)) ∧
      seenN M T.length (k + 1) = seenN M T.length k + S.length ∧
      (∀ (X : World), TrisAt X ao T → IntsAt X ko K →
        Calls Tryz.prog 20 #[.agg #[.int .i64 N, .slice ao T.length cap], .slice ko K.length kc, .int .i64 (k : Int)] X fun e w' => ∃ a1 a2 a3 c1 c2 c3,
          e = .returned (.tuple #[.agg #[.int .i64 (nF : Int), .slice a1 S.length c1], .slice a2 nF c2, .slice a3 S.length c3, .int .i64 0]) ∧ TrisAt w' a1 CT ∧ IntsAt w' a2 V ∧ IntsAt w' a3 (nl S) ∧ Below X.heap.size X w') from fun n hn M hs hl hkl hM k hk => by
    subst hn
    obtain ⟨nF, CT, V, S, h⟩ := chart_facts hs hl hkl hM k hk
    exact ⟨nF, CT, V, S, h.surf, h.lenC, h.lenV, h.le, h.one, h.own, h.tri, h.seen, fun X hT hK => h.call ao cap ko kc X hT hK⟩)
  have HSA := Lib.hid (show ∀ (M : Nat → Int) (k : Nat), cnt M T.length = k → seenN M T.length k = T.length from fun M k h => seenN_all h)
  obtain ⟨len, hlen⟩ : ∃ l, l = T.length := ⟨_, rfl⟩
  obtain ⟨kl, hkle⟩ : ∃ l, l = K.length := ⟨_, rfl⟩
  simp only [OfP, ← hlen, ← hkle] at HG HRI HTY HOO HCF HSA hW0 hr0 hTl hKl
  rw [← hlen, ← hkle]
  have HL := Lib.hid hlen
  have HKE := Lib.hid hkle
  have HR0 := Lib.hid hr0
  have HB0 := Lib.hid hb0
  have HW0 := Lib.hid hW0
  clear hT hK hb0 hr0 hW0 hlen hkle
  go_enter Tryz.func7, Tryz.ntmps7
  go_upto_region 1 with fail
  rw [← HW0.out]
  go_wp2_with fail
  refine (awake32 _).mono ?_
  rintro e w1 ⟨rfl, hb1⟩
  have HB1 := Lib.hid (below_more HB0.out hb1 HB0.out.size)
  have HR1 := Lib.hid (HR0.out.after hb1)
  have HT1 := Lib.hid (HT.out.mono (Nat.le_refl _) hb1)
  have HK1 := Lib.hid (HK.out.mono (Nat.le_refl _) hb1)
  have c0 := HR1.out.cell (i := 0) rfl
  have c1 := HR1.out.cell (i := 1) rfl
  have HG1 := Lib.hid (HG.out w1 HT1.out)
  clear hb1
  go_wp2_with fail
  refine HG1.out.mono ?_
  rintro e w2 ⟨r, rfl, hr, hb2⟩
  have HB2 := Lib.hid (below_more HB1.out hb2 HB1.out.size)
  cases r
  case false =>
    clear hr hb2
    go_wp2
    exact bodyPost_ret (v := .bool true) (by simp [results, Tryz.results7, go_sem]) rfl ⟨rfl, HB2.out⟩
  case true =>
  obtain ⟨hl30, hk3, hs⟩ := HRI.out (hr.1 rfl)
  have HK3 := Lib.hid hk3
  have HR2 := Lib.hid (HR1.out.after hb2)
  have HT2 := Lib.hid (HT1.out.mono (Nat.le_refl _) hb2)
  have HK2 := Lib.hid (HK1.out.mono (Nat.le_refl _) hb2)
  have c0 := HR2.out.cell (i := 0) rfl
  have c1 := HR2.out.cell (i := 1) rfl
  obtain ⟨n, hn⟩ : ∃ n : Nat, N = n := ⟨N.toNat, by have := hs.n0; omega⟩
  have HS := Lib.hid hs
  have HNN := Lib.hid hn
  have hklb : kl ≤ 90 := by omega
  have HTX := Lib.hid (HTY.out w2 HT2.out n hn (hn ▸ hs) (by omega))
  clear hr hb2 hs hn hk3
  go_wp2_with fail
  refine HTX.out.mono ?_
  rintro e w3 ⟨p, rfl, -, htab, hb3⟩
  have htab : Tab w3 p N T := by first | exact htab | (rw [HNN.out]; exact htab)
  have HB3 := Lib.hid (below_more HB2.out hb3 HB2.out.size)
  have HR3 := Lib.hid (HR2.out.after hb3)
  have HT3 := Lib.hid (HT2.out.mono (Nat.le_refl _) hb3)
  have HK3' := Lib.hid (HK2.out.mono (Nat.le_refl _) hb3)
  have HO1 := Lib.hid (HOO.out w3 p htab HS.out HK3.out HK3'.out)
  clear hb3 htab
  go_wp2_with fail
  refine HO1.out.mono ?_
  rintro e w4 ⟨g1, M, rfl, -, hr1, hm1, hb4⟩
  have HB4 := Lib.hid (below_more HB3.out hb4 HB3.out.size)
  have HR4 := Lib.hid (HR3.out.after hb4)
  have HT4 := Lib.hid (HT3.out.mono (Nat.le_refl _) hb4)
  have HK4 := Lib.hid (HK3'.out.mono (Nat.le_refl _) hb4)
  have HRM := Lib.hid hr1
  have HMB := Lib.hid (show ∀ i, i < len → 0 ≤ M i ∧ M i ≤ i from fun i hi => ⟨hm1.nonneg i hi, hm1.le i hi⟩)
  obtain ⟨nc, hnc⟩ : ∃ n : Nat, cnt M len = n := ⟨(cnt M len).toNat, by have := cnt_nonneg M len; omega⟩
  have hncb : nc ≤ 30 := by
    by_cases h0 : 0 < cnt M len
    · obtain ⟨i, hi, e⟩ := cnt_has M len h0
      have := (HMB.out i hi).2
      omega
    · omega
  obtain ⟨W4, rfl⟩ : ∃ X : World, X = w4 := ⟨_, rfl⟩
  have HMY := Lib.hid (show ∀ X, Below W4.heap.size W4 X → Calls Tryz.prog 24 #[.slice (some ⟨g1, 0, none⟩) len len] X fun e w' => e = .returned (.int .i64 (nc : Int)) ∧ w' = X from fun X hX => by
    have := many32 g1 len M X (by omega) (HRM.out.after hX) (fun i hi => ⟨(HMB.out i hi).1, by have := (HMB.out i hi).2; omega⟩)
    rwa [hnc] at this)
  have HCH := Lib.hid (HCF.out n HNN.out M HS.out (by omega) HK3.out hm1)
  rw [hnc] at HCH
  have HSN := Lib.hid (HSA.out M nc hnc)
  have HS0 := Lib.hid (show seenN M len 0 = 0 from seenN_zero fun t ht => (HMB.out t ht).1)
  have HSL := Lib.hid (show ∀ k, seenN M len k ≤ len from fun k => seenN_le M len k)
  clear hr1 hm1 hb4 hnc
  go_wp2
  go_loopw [7, 8] (fun s c ws => ∃ (k sk : Nat), k ≤ nc ∧ c = .int .i64 k ∧ s = .int .i64 sk ∧ Hid (sk = seenN M len k) ∧ Below W4.heap.size W4 ws) (fun _ c _ => nc - (intOf c).toNat)
  case atStart => exact ⟨0, 0, by omega, rfl, rfl, Lib.hid HS0.out.symm, Below.refl _ _⟩
  case round =>
    obtain ⟨k, sk, hk, rfl, rfl, HSK, hbX⟩ := hrel
    obtain ⟨X, rfl⟩ : ∃ X : World, X = wr := ⟨_, rfl⟩
    have HBX := Lib.hid hbX
    have HMX := Lib.hid (HMY.out X hbX)
    have hrX := HR4.out.after hbX
    have hskb : sk ≤ 30 := by have := HSK.out; have := HSL.out k; omega
    by_cases hkb : k < nc
    · have hkn : ((k : Int) < (nc : Int)) := by omega
      obtain ⟨nF, CT, V, S, hS1, hS2, hS3, hS4, hS5, hS6, hS7, hS8, hcall⟩ := HCH.out k (by omega)
      obtain ⟨nS, hnS⟩ : ∃ l, l = S.length := ⟨_, rfl⟩
      have HC := Lib.hid (hcall X (HT4.out.mono (Nat.le_refl _) hbX) (HK4.out.mono (Nat.le_refl _) hbX))
      obtain ⟨R, hR⟩ := shells_exist (Adj CT) CT.length
      have HCS := Lib.hid (show ∀ (X : World) (p : Nat), Tab X p nF CT → Calls Tryz.prog 29 #[.pointer (some ⟨p, 0, none⟩)] X fun e w' => e = .returned (.int .i64 1) ∧ Below X.heap.size X w' from fun X p h => count_L hS1 hR (m := 1) (by rw [hS5 R hR]; rfl) X p h)
      have HTB := Lib.hid (fun (X : World) (a : Option Addr) (c : Nat) (h : TrisAt X a CT) => table12 nF a c CT X h hS1 (by omega))
      have HIA := Lib.hid (fun (X : World) (a : Option Addr) (c : Nat) (h : TrisAt X a CT) => is_any nF a c CT X h (by omega))
      have HOW := Lib.hid (fun (X : World) (p : Nat) (h : Tab X p nF CT) (a : Option Addr) (c : Nat) (hk : IntsAt X a (ownK K S)) => (cof_ok p nF CT a c (ownK K S) X h hS1 (by rw [ownK_length, hS2]) hk).mono (R' := fun e w' => OfP X CT (ownK K S) e w') fun _ _ h => h)
      simp only [OfP, ownK_length, hS2, ← hnS] at HC HTB HIA HOW hS4 hS5 hS6 hS8
      have HSF := Lib.hid hS1
      have HTR := Lib.hid hS7
      have HVL := Lib.hid hS3
      have HCL := Lib.hid hS2
      have HONE := Lib.hid hS6
      have HNS := Lib.hid hnS
      have HSE := Lib.hid hS8
      have c0 := hrX.cell (i := 0) rfl
      have c1 := hrX.cell (i := 1) rfl
      clear hS1 hS2 hS3 hS5 hS6 hS7 hS8 hcall hnS hR hbX hrX
      go_wp2_with fail
      refine HMX.out.mono ?_
      rintro e X' ⟨rfl, rfl⟩
      obtain ⟨X, rfl⟩ : ∃ x : World, x = X' := ⟨_, rfl⟩
      go_wp2_with fail
      refine HC.out.mono ?_
      rintro e X1 ⟨a1, a2, a3, f1, f2, f3, rfl, ht1, hv1, hs1, hb1⟩
      obtain ⟨yb, hyb⟩ : ∃ y, y = X1.heap.size := ⟨_, rfl⟩
      obtain ⟨Y, hY⟩ : ∃ Y, Y = X1.alloc (.cells #[.int .i64 (nF : Int), .slice a1 nS f1] 24) := ⟨_, rfl⟩
      have hb2 : Below X1.heap.size X1 Y := by rw [hY]; exact (Below.refl _ _).alloc (Nat.le_refl _) _
      have hy : RowIs Y yb 24 [.int .i64 (nF : Int), .slice a1 nS f1] := by rw [hY, hyb]; exact RowIs.made X1 24 [.int .i64 (nF : Int), .slice a1 nS f1]
      have HBY := Lib.hid (below_more HBX.out (below_more hb1 hb2 hb1.size) HBX.out.size)
      have htY := ht1.mono (Nat.le_refl _) hb2
      have HTY1 := Lib.hid htY
      have HVY := Lib.hid (hv1.mono (Nat.le_refl _) hb2)
      have HSY := Lib.hid (hs1.mono (Nat.le_refl _) hb2)
      have HRY := Lib.hid hy
      have y0 := hy.cell (i := 0) rfl
      have y1 := hy.cell (i := 1) rfl
      have HY := Lib.hid hY
      have HYB := Lib.hid hyb
      have HTB1 := Lib.hid (HTB.out Y a1 f1 htY)
      clear ht1 hv1 hs1 hb1 hb2 hy hyb hY htY
      go_upto_region 13 with fail
      rw [← HY.out, ← HYB.out]
      go_wp2_with fail
      refine HTB1.out.mono ?_
      rintro e X2 ⟨q, rfl, -, htq, hb2⟩
      have HB2' := Lib.hid (below_more HBY.out hb2 HBY.out.size)
      have HR2' := Lib.hid (HRY.out.after hb2)
      have htT := HTY1.out.mono (Nat.le_refl _) hb2
      have HT2' := Lib.hid htT
      have HV2 := Lib.hid (HVY.out.mono (Nat.le_refl _) hb2)
      have HS2 := Lib.hid (HSY.out.mono (Nat.le_refl _) hb2)
      have HQ2 := Lib.hid htq
      have HI2 := Lib.hid (HIA.out X2 a1 f1 htT)
      have y0 := HR2'.out.cell (i := 0) rfl
      have y1 := HR2'.out.cell (i := 1) rfl
      clear htq hb2 htT
      go_wp2_with fail
      refine HI2.out.mono ?_
      rintro e X3 ⟨r, rfl, hr, hb3⟩
      obtain rfl : r = true := hr.2 HSF.out
      have HB3' := Lib.hid (below_more HB2'.out hb3 HB2'.out.size)
      have HR3' := Lib.hid (HR2'.out.after hb3)
      have HT3' := Lib.hid (HT2'.out.mono (Nat.le_refl _) hb3)
      have HV3 := Lib.hid (HV2.out.mono (Nat.le_refl _) hb3)
      have HS3 := Lib.hid (HS2.out.mono (Nat.le_refl _) hb3)
      have htq := HQ2.out.mono (Nat.le_refl _) hb3
      have HQ3 := Lib.hid htq
      have HC3 := Lib.hid (HCS.out X3 q htq)
      clear hr hb3 htq
      go_wp2_with fail
      refine HC3.out.mono ?_
      rintro e X4 ⟨rfl, hb4⟩
      have HB4' := Lib.hid (below_more HB3'.out hb4 HB3'.out.size)
      have hr4 := HR3'.out.after hb4
      have HR4' := Lib.hid hr4
      have HT4' := Lib.hid (HT3'.out.mono (Nat.le_refl _) hb4)
      have HV4 := Lib.hid (HV3.out.mono (Nat.le_refl _) hb4)
      have HS4 := Lib.hid (HS3.out.mono (Nat.le_refl _) hb4)
      have HQ4 := Lib.hid (HQ3.out.mono (Nat.le_refl _) hb4)
      have y0 := hr4.cell (i := 0) rfl
      have y1 := hr4.cell (i := 1) rfl
      obtain ⟨Z0, rfl⟩ : ∃ x : World, x = X4 := ⟨_, rfl⟩
      have hown0 : Z0.ownsRow Z0.heap.size 3 1 (.slice none 0 0) 0 (ic (ownK K (S.take 0))) := by simpa [ownK, ic] using World.ownsRow_nil _ _ _ _
      have HZ0 := Lib.hid hown0
      clear hr4 hb4 hown0
      go_wp2
      go_loopw [7, 14, 15] (fun s v c ws => ∃ (i m s7 : Nat) (va : Option Addr) (vc : Nat), i ≤ nS ∧ c = .int .i64 i ∧ s = .int .i64 (s7 : Int) ∧ Hid (m = 3 * i ∧ s7 = sk + i) ∧ v = .slice va m vc ∧ ws.ownsRow Z0.heap.size 3 1 (.slice va m vc) m (ic (ownK K (S.take i))) ∧ Below Z0.heap.size Z0 ws) (fun _ _ c _ => nS - (intOf c).toNat)
      case atStart => exact ⟨0, 0, sk, none, 0, by omega, rfl, rfl, Lib.hid ⟨rfl, rfl⟩, rfl, HZ0.out, Below.refl _ _⟩
      case round =>
        clear HZ0
        obtain ⟨i, m, s7, va, vc, hi, rfl, rfl, HMI, rfl, hown, hbZ⟩ := hrel
        obtain ⟨Z, rfl⟩ : ∃ x : World, x = wr := ⟨_, rfl⟩
        have HOWN := Lib.hid hown
        have HBZ := Lib.hid hbZ
        have hs7 : s7 ≤ 60 := by have := HMI.out.2; omega
        by_cases hib : i < nS
        · obtain ⟨t, ht⟩ : ∃ t, S[i]? = some t := ⟨_, List.getElem?_eq_getElem (show i < S.length by have := HNS.out; omega)⟩
          obtain ⟨htl, hMt, a, b, c, hCT, ha, hb, hc, hTt⟩ := HTR.out i t ht
          have htl : t < len := by have := HL.out; omega
          have hsI : I! (nl S) i = (t : Int) := by simp [I!, nl, List.getD_eq_getElem?_getD, ht]
          obtain ⟨cb, co, x, y, z, rfl, hxyz, k0, k1, k2, -, -⟩ := HT4'.out.get (Nat.le_refl _) hbZ (i := i) (by have := HCL.out; have := HNS.out; omega)
          have hq0 := hxyz.out
          rw [hCT] at hq0
          simp only [Prod.mk.injEq] at hq0
          obtain ⟨rfl, rfl, rfl⟩ := hq0
          obtain ⟨bb, hbb⟩ : ∃ q, q = Z.heap.size := ⟨_, rfl⟩
          obtain ⟨Y5, hY5⟩ : ∃ Y, Y = Z.alloc (.cells #[.int .i64 (a : Int), .int .i64 (b : Int), .int .i64 (c : Int)] 49) := ⟨_, rfl⟩
          have hb5 : Below Z.heap.size Z Y5 := by rw [hY5]; exact (Below.refl _ _).alloc (Nat.le_refl _) _
          have hx5 : RowIs Y5 bb 49 [.int .i64 (a : Int), .int .i64 (b : Int), .int .i64 (c : Int)] := by rw [hY5, hbb]; exact RowIs.made Z 49 [.int .i64 (a : Int), .int .i64 (b : Int), .int .i64 (c : Int)]
          have hB5 : Below Z0.heap.size Z0 Y5 := hbZ.trans (hb5.mono hbZ.size)
          obtain ⟨sb, so, t', rfl, ht', ks, hsb, -⟩ := HS4.out.get (Nat.le_refl _) hB5 (i := i) (by simp only [nl, List.length_map]; have := HNS.out; omega)
          have et' : t' = (t : Int) := by rw [← ht'.out, hsI]
          rw [et'] at ks
          obtain ⟨tb', too, x, y, z, rfl, hxyz2, n0, n1, n2, -, -⟩ := (HT4.out.mono (Nat.le_refl _) HB4'.out).get (Nat.le_refl _) hB5 (i := t) (by have := HL.out; omega)
          have hq1 := hxyz2.out
          rw [hTt] at hq1
          simp only [Prod.mk.injEq] at hq1
          obtain ⟨hx, hy, hz⟩ := hq1
          obtain ⟨vb, vo, rfl, -, hvc⟩ := (HV4.out.mono (Nat.le_refl _) hB5) (by intro e; have := HVL.out; rw [e] at this; simp at this; omega)
          have va0 := hvc a (by have := HVL.out; omega)
          have va1 := hvc b (by have := HVL.out; omega)
          have va2 := hvc c (by have := HVL.out; omega)
          rw [hx] at va0
          rw [hy] at va1
          rw [hz] at va2
          have hrM := (HRM.out.after HB4'.out).below hB5 (HRM.out.after HB4'.out).lt
          have km := hrM.cell (iv_get M htl)
          rw [hMt] at km
          obtain ⟨kb, ko', rfl, hkb', hkc⟩ := (HK4.out.mono (Nat.le_refl _) HB4'.out) (by intro e; have := HKE.out; rw [e] at this; simp at this; have := HK3.out; omega)
          obtain ⟨j0, hj0⟩ : ∃ j, j = 3 * t := ⟨_, rfl⟩
          have hk3 := HK3.out
          have ku0 := hkc j0 (by have := HKE.out; omega)
          have ku1 := hkc (j0 + 1) (by have := HKE.out; omega)
          have ku2 := hkc (j0 + 2) (by have := HKE.out; omega)
          obtain ⟨u0, hu0⟩ : ∃ u, u = I! K j0 := ⟨_, rfl⟩
          obtain ⟨u1, hu1⟩ : ∃ u, u = I! K (j0 + 1) := ⟨_, rfl⟩
          obtain ⟨u2, hu2⟩ : ∃ u, u = I! K (j0 + 2) := ⟨_, rfl⟩
          rw [← hu0] at ku0
          rw [← hu1] at ku1
          rw [← hu2] at ku2
          have HNX := Lib.hid (show ic (ownK K (S.take (i + 1))) = ic (ownK K (S.take i)) ++ [.int .i64 u0, .int .i64 u1, .int .i64 u2] from by rw [take_snocS ht, ownK_snoc, hu0, hu1, hu2, hj0]; simp [ic])
          have y0 := (HR4'.out.after hbZ).cell (i := 0) rfl
          have y1 := (HR4'.out.after hbZ).cell (i := 1) rfl
          have hsr := (HR4.out.after HB4'.out).below hB5 (HR4.out.after HB4'.out).lt
          have c15 := hsr.cell (i := 1) rfl
          have HY5 := Lib.hid hY5
          have HBB := Lib.hid hbb
          have HJ0 := Lib.hid hj0
          have hown5 := owns_below hown hb5
          have HO5 := Lib.hid hown5
          have HB5' := Lib.hid hB5
          have cs0 : Z0.cell? ⟨sb, so + i, none⟩ = some (.int .i64 (t : Int)) := by rw [← hB5.cell (p := ⟨sb, so + i, none⟩) hsb]; exact ks
          have HKK := Lib.hid (show ∀ Q, Below Z0.heap.size Z0 Q → Q.cell? ⟨sb, so + i, none⟩ = some (.int .i64 (t : Int)) ∧ Q.cell? ⟨kb, ko' + j0, none⟩ = some (.int .i64 u0) ∧ Q.cell? ⟨kb, ko' + (j0 + 1), none⟩ = some (.int .i64 u1) ∧ Q.cell? ⟨kb, ko' + (j0 + 2), none⟩ = some (.int .i64 u2) from fun Q hq =>
            ⟨(hq.cell (p := ⟨sb, so + i, none⟩) hsb).trans cs0, (hq.cell (p := ⟨kb, _, none⟩) hkb').trans ku0, (hq.cell (p := ⟨kb, _, none⟩) hkb').trans ku1, (hq.cell (p := ⟨kb, _, none⟩) hkb').trans ku2⟩)
          have b0 := hx5.cell (i := 0) rfl
          have b1 := hx5.cell (i := 1) rfl
          have b2 := hx5.cell (i := 2) rfl
          have hq : ∀ X : World, (Op.equalIn 10000 49 (.agg #[.int .i64 x, .int .i64 y, .int .i64 z]) (.agg #[.int .i64 x, .int .i64 y, .int .i64 z])).run Tryz.prog X = .ok true X := fun X => by rw [tri_equal]; simp
          have HFQ := Lib.hid (show ∀ q, Below Y5.heap.size Y5 (Y5.drewN q) from fun q => below_drewN (Below.refl _ _) q)
          have HRF := Lib.hid (Below.refl Y5.heap.size Y5)
          have hj2 : j0 + 2 < kl := by omega
          have HTL := Lib.hid htl
          clear hown hbZ ht hMt hCT hTt hsI hxyz ht' et' hxyz2 hx hy hz hvc hrM hkc hj0 hk3 ku0 ku1 ku2 hu0 hu1 hu2 hsr hY5 hb5 hx5 hbb hown5 hB5 cs0 hsb hkb'
          go_upto_region 21 with fail
          rw [← HY5.out, ← HBB.out]
          clear y0 y1 k0 k1 k2
          go_cut [121] (fun s wc => s = .bool false ∧ Below Y5.heap.size Y5 wc)
          case first =>
            go_quiet (fail)
            go_wp2
            go_meet
            exact ⟨rfl, by first | exact HFQ.out _ | exact HRF.out⟩
          case rest =>
            obtain ⟨rfl, hbQ⟩ := hcut
            obtain ⟨Q, rfl⟩ : ∃ Q : World, Q = wc := ⟨_, rfl⟩
            clear n0 n1 n2 va0 va1 va2 km c15 b0 b1 b2 hq ks
            have hBQ : Below Z0.heap.size Z0 Q := HB5'.out.trans (hbQ.mono HB5'.out.size)
            have HBQ := Lib.hid hBQ
            have HOQ := Lib.hid (owns_below HO5.out hbQ)
            have HKS := Lib.hid (show ∀ Y, Below Z0.heap.size Q Y → Y.cell? ⟨sb, so + i, none⟩ = some (.int .i64 (t : Int)) ∧ Y.cell? ⟨kb, ko' + j0, none⟩ = some (.int .i64 u0) ∧ Y.cell? ⟨kb, ko' + (j0 + 1), none⟩ = some (.int .i64 u1) ∧ Y.cell? ⟨kb, ko' + (j0 + 2), none⟩ = some (.int .i64 u2) from fun Y hY => HKK.out Y (hBQ.trans hY))
            have s0 : (3 : Int) * (t : Int) = (j0 : Int) := by have := HJ0.out; omega
            have wr0 : IntKind.i64.wrap (j0 : Int) = (j0 : Int) := IntWalk.i64_in _ (by omega)
            have wr1 : IntKind.i64.wrap ((j0 : Int) + 1) = (j0 : Int) + 1 := IntWalk.i64_in _ (by omega)
            have wr2 : IntKind.i64.wrap ((j0 : Int) + 2) = (j0 : Int) + 2 := IntWalk.i64_in _ (by omega)
            have b0 : (0 : Int) ≤ (j0 : Int) ∧ (j0 : Int) < (kl : Int) := by omega
            have b1 : (0 : Int) ≤ (j0 : Int) + 1 ∧ (j0 : Int) + 1 < (kl : Int) := by omega
            have b2 : (0 : Int) ≤ (j0 : Int) + 2 ∧ (j0 : Int) + 2 < (kl : Int) := by omega
            have n1 : ((j0 : Int) + 1).toNat = j0 + 1 := by omega
            have n2 : ((j0 : Int) + 2).toNat = j0 + 2 := by omega
            have hmb : m ≤ 90 := by have := HMI.out.1; omega
            have HQ4' := Lib.hid (show m + 3 ≤ maxLen by unfold maxLen; omega)
            have HQ5 := Lib.hid (show (m + 3) * 8 ≤ 140737488355328 by omega)
            have HQ6 := Lib.hid hBQ.size
            have hrf : Below Z0.heap.size Q Q := Below.refl _ _
            have hx42 : Z0.heap.size ≤ Q.heap.size := hBQ.size
            clear hbQ hBQ
            go_upto_region 23 with fail
            go_region_held_law (fun Y => Y.cell? ⟨sb, so + i, none⟩ = some (.int .i64 (t : Int)) ∧ Y.cell? ⟨kb, ko' + j0, none⟩ = some (.int .i64 u0) ∧ Y.cell? ⟨kb, ko' + (j0 + 1), none⟩ = some (.int .i64 u1) ∧ Y.cell? ⟨kb, ko' + (j0 + 2), none⟩ = some (.int .i64 u2))
              (exact HKS.out _ (by repeat (first | assumption | with_reducible apply belB_drew | (with_reducible refine belB_alloc hx42 ?_ _))))
              ((refine step_append_lies _ (by rfl) _ _ _ (by rfl) Z0.heap.size 3 i0 (.int .i64 0) 1 8 (by kernel_rfl) hi0 hz0 hz1 hz2 rfl (by decide) (.slice va m vc) m (ic (ownK K (S.take i))) (by rfl) (owns_below HOQ.out (by repeat (first | assumption | with_reducible exact Below.refl _ _ | with_reducible apply bel_drew | with_reducible apply bel_alloc))) ⟨Q.heap.size, 0, none⟩ 3 3 [.int .i64 u0, .int .i64 u1, .int .i64 u2] (by rfl) rfl (World.news_of_block (heap_alloc_new _ _)) (by intro u hu; simp at hu; rcases hu with rfl | rfl | rfl <;> rfl) (by decide) HQ4'.out HQ5.out (Nat.le_trans HQ6.out (by simp)) (Q.heap.size + 1) (by simp) ?_; intro g3 cap3 X3 hown3 hgr3 hat3 hlt3; have hk3 : Below Z0.heap.size Q X3 := (show Below Z0.heap.size Q _ from (by repeat (first | assumption | with_reducible apply belB_drew | (with_reducible refine belB_alloc hx42 ?_ _)))).grown hgr3 (Nat.le_trans hx42 (by simp)) (fun q hq => (HOQ.out.lt q hq).1)))
            all_goals
              have HO3 := Lib.hid (show X3.ownsRow Z0.heap.size 3 1 (.slice (some ⟨g3, 0, none⟩) (m + 3) cap3) (m + 3) (ic (ownK K (S.take (i + 1)))) from by rw [HNX.out]; exact hown3)
              have HK3'' := Lib.hid (HBQ.out.trans hk3)
              have HMN := Lib.hid (show m + 3 = 3 * (i + 1) ∧ s7 + 1 = sk + (i + 1) from by have := HMI.out; omega)
              clear hown3 hgr3 hat3 hlt3 hk3
              go_wp2
              go_roundw
              case rel => exact ⟨i + 1, m + 3, s7 + 1, _, cap3, by omega, by go_num, by go_num, HMN, rfl, HO3.out, HK3''.out⟩
              case measure => simp [intOf]; omega
        · obtain rfl : i = nS := by omega
          have htk : S.take i = S := List.take_of_length_le (by have := HNS.out; omega)
          rw [htk] at hown
          obtain ⟨oa, oc, hoe, hoi⟩ := owns_ic hown (by rw [ownK_length]; have := HMI.out.1; have := HNS.out; omega)
          simp only [Value.slice.injEq] at hoe
          obtain ⟨rfl, -, rfl⟩ := hoe
          have hm3 : 3 * i = m := by have := HMI.out.1; omega
          have hq := HQ4.out.mono (Nat.le_refl _) hbZ
          have hcof := HOW.out Z q hq va vc hoi
          rw [hm3] at hcof
          have HCO := Lib.hid hcof
          have HBF := Lib.hid (below_more HB4'.out hbZ HB4'.out.size)
          have HSK2 := Lib.hid (show s7 = seenN M len (k + 1) from by have := HMI.out.2; have := HSE.out; have := HSK.out; omega)
          clear hown htk hm3 hq hcof hbZ hoi
          go_wp2_with fail
          refine HCO.out.mono ?_
          rintro e Z1 ⟨g9, M9, rfl, -, hr9, hm9, hb9⟩
          have h30 : i ≤ 30 := by omega
          have hmany := many32 g9 i M9 Z1 (by omega) hr9 (fun j hj => ⟨hm9.nonneg j hj, by have := hm9.le j hj; omega⟩)
          rw [HONE.out M9 hm9] at hmany
          have HMN := Lib.hid hmany
          have HBG := Lib.hid (below_more HBF.out hb9 HBF.out.size)
          clear hr9 hm9 hb9 hmany
          go_wp2_with fail
          refine HMN.out.mono ?_
          rintro e Z2 ⟨rfl, rfl⟩
          go_wp2
          go_roundw
          case rel => exact ⟨k + 1, s7, by omega, by go_num, rfl, HSK2, HBG.out⟩
          case measure => simp [intOf]; omega
    · obtain rfl : k = nc := by omega
      have HBF := Lib.hid (below_more HB4.out hbX HB4.out.size)
      have c0 := hrX.cell (i := 0) rfl
      have c1 := hrX.cell (i := 1) rfl
      have hse : sk = len := by rw [HSK.out, HSN.out]
      have d0 : ((sk : Int) == (len : Int)) = true := by simp; omega
      have d1 : (sk == len) = true := by simpa using hse
      have HX' := Lib.hid hrX
      clear hbX hrX hse
      go_wp2_with fail
      refine HMX.out.mono ?_
      rintro e X' ⟨rfl, rfl⟩
      go_wp2
      exact bodyPost_ret (v := .bool true) (by simp [results, Tryz.results7, go_sem]) rfl ⟨rfl, HBF.out⟩
end Go.Proofs.YtfbpjlfimmjieaaGreat

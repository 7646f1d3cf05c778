/- gypsumlaw32.ChartOf: the walk. -/
import Derived.Test.YtfbpjlfimmjieaaGreatQuad32
import Derived.Test.YtfbpjlfimmjieaaGreatGroups
import Derived.Test.YtfbpjlfimmjieaaGreatRef32
import Derived.Test.YtfbpjlfimmjieaaGreatChartPick
import Derived.Test.YtfbpjlfimmjieaaGreatDiscsW
namespace Go.Proofs.YtfbpjlfimmjieaaGreat
set_option linter.unusedVariables false
set_option linter.unusedSimpArgs false
open Go.RowKit
theorem ints_iv {w : World} {g n : Nat} {M : Nat → Int} (h : RowIs w g 3 (iv M n)) : IntsAt w (some ⟨g, 0, none⟩) (mL M n) := by
  refine RowIs.intsA (e := 3) ?_
  rwa [show ic (mL M n) = iv M n from by simp [ic, iv, mL]]
/-- Two lists told by equal numbers are the same. -/
theorem same_iv (g1 g2 n : Nat) (M1 M2 : Nat → Int) (w : World) (hn : n ≤ 100000) (h1 : RowIs w g1 3 (iv M1 n)) (h2 : RowIs w g2 3 (iv M2 n)) (h : ∀ i, i < n → M1 i = M2 i) :
    Calls Tryz.prog 17 #[.slice (some ⟨g1, 0, none⟩) n n, .slice (some ⟨g2, 0, none⟩) n n] w fun e w' => e = .returned (.bool true) ∧ Below w.heap.size w w' := by
  have H := ints08 (some ⟨g1, 0, none⟩) (some ⟨g2, 0, none⟩) n n (mL M1 n) (mL M2 n) w (by rw [mL_length]; exact hn) (ints_iv h1) (ints_iv h2)
  rw [mL_length, mL_length, mL_congr h, decide_eq_true rfl] at H
  exact H
set_option maxRecDepth 100000 in
set_option maxHeartbeats 16000000 in
theorem chartof_any (N : Int) (ao : Option Addr) (cap : Nat) (T : List Tr) (ko : Option Addr) (kc : Nat) (K : List Int) (w : World) (hT : TrisAt w ao T) (hTl : T.length ≤ 9223372036854775807) (hK : IntsAt w ko K) (hKl : K.length ≤ 9223372036854775807) :
    Calls Tryz.prog 3 #[.agg #[.int .i64 N, .slice ao T.length cap], .slice ko K.length kc] w fun e w' => e = .returned (.bool true) ∧ Below w.heap.size w w' := by
  obtain ⟨W0, hW0⟩ : ∃ W0, W0 = w.alloc (.cells #[.int .i64 N, .slice ao T.length cap] 24) := ⟨_, rfl⟩
  have hb0 : Below w.heap.size w W0 := by rw [hW0]; exact (Below.refl _ _).alloc (Nat.le_refl _) _
  have hr0 : RowIs W0 w.heap.size 24 [.int .i64 N, .slice ao T.length cap] := by rw [hW0]; exact RowIs.made w 24 [.int .i64 N, .slice ao T.length cap]
  have HT := Lib.hid (hT.mono (Nat.le_refl _) hb0)
  have HK := Lib.hid (hK.mono (Nat.le_refl _) hb0)
  have HG := Lib.hid (fun X : World => great32 N ao T.length cap ko K.length kc X)
  have HIS := Lib.hid (fun (X : World) (h : TrisAt X ao T) (hl : T.length ≤ 10000) => is15 N ao cap T X h hl)
  have HTN := Lib.hid (fun (X : World) (h : TrisAt X ao T) (hs : ¬ Surf N T) (hl : T.length ≤ 40) => table12_no N ao cap T X h hs hl)
  have HTY := Lib.hid (fun (X : World) (h : TrisAt X ao T) (n : Nat) (hn : N = n) (hs : Surf n T) (hl : T.length ≤ 40) => hn ▸ table12 n ao cap T X h hs hl)
  have HNIL := Lib.hid (fun X : World => cof_nil ko K.length kc X)
  have HOB := Lib.hid (fun (X : World) (p : Nat) (h : Tab X p N T) (hl : T.length ≤ 10000) (hn : K.length ≠ 3 * T.length) => cof_bad ko K.length kc p N T X h.s hl hn)
  have HSB := Lib.hid (fun (X : World) (p : Nat) (h : Tab X p N T) (hl : T.length ≤ 10000) (hn : K.length ≠ 3 * T.length) => csides_bad ko K.length kc p N T X h.s hl hn)
  have HOO := Lib.hid (fun (X : World) (p : Nat) (h : Tab X p N T) (hs : Surf N T) (hn : K.length = 3 * T.length) (hk : IntsAt X ko K) => (cof_ok p N T ko kc K X h hs hn hk).mono (R' := fun e w' => OfP X T K e w') fun _ _ h => h)
  have HSO := Lib.hid (fun (X : World) (p : Nat) (h : Tab X p N T) (hs : Surf N T) (hn : K.length = 3 * T.length) (hk : IntsAt X ko K) => (csides_ok p N T ko kc K X h hs hn hk).mono (R' := fun e w' => SidesP X T K e w') fun _ _ h => h)
  have HRO := Lib.hid (fun (X : World) (h : TrisAt X ao T) (n : Nat) (hn : N = n) (hs : Surf n T) (hk : IntsAt X ko K) (hkl : K.length = 3 * T.length) (hl : T.length ≤ 1000) => hn ▸ of32 n ao cap T ko kc K X h hs hk hkl hl)
  have HRS := Lib.hid (fun (X : World) (h : TrisAt X ao T) (n : Nat) (hn : N = n) (hs : Surf n T) (hk : IntsAt X ko K) (hkl : K.length = 3 * T.length) (hl : T.length ≤ 1000) => hn ▸ (sides32 n ao cap T ko kc K X h hs hk hkl hl).mono (R' := fun e w' => SidesQ X T K e w') fun _ _ h => h)
  obtain ⟨len, hlen⟩ : ∃ l, l = T.length := ⟨_, rfl⟩
  obtain ⟨kl, hkle⟩ : ∃ l, l = K.length := ⟨_, rfl⟩
  simp only [OfP, SidesP, NumQ, SidesQ, ← hlen, ← hkle] at HG HIS HTN HTY HNIL HOB HSB HOO HSO HRO HRS hW0 hr0 hTl hKl
  rw [← hlen, ← hkle]
  have HL := Lib.hid hlen
  have HR0 := Lib.hid hr0
  have HB0 := Lib.hid hb0
  have HW0 := Lib.hid hW0
  clear hT hK hb0 hr0 hW0 hlen hkle
  go_enter Tryz.func3, Tryz.ntmps3
  go_upto_region 1 with fail
  rw [← HW0.out]
  go_wp2_with fail
  refine (awake32 _).mono ?_
  rintro e w1 ⟨rfl, hb1⟩
  have HB1 := Lib.hid (below_more HB0.out hb1 HB0.out.size)
  have HR1 := Lib.hid (HR0.out.after hb1)
  have HT1 := Lib.hid (HT.out.mono (Nat.le_refl _) hb1)
  have HK1 := Lib.hid (HK.out.mono (Nat.le_refl _) hb1)
  have c0 := HR1.out.cell (i := 0) rfl
  have c1 := HR1.out.cell (i := 1) rfl
  have HG1 := Lib.hid (HG.out w1)
  clear hb1
  cases hg : grB32 N len kl
  case true =>
    rw [hg] at HG1
    clear hg
    go_wp2_with fail
    refine HG1.out.mono ?_
    rintro e w2 ⟨rfl, hb2⟩
    have HB2 := Lib.hid (below_more HB1.out hb2 HB1.out.size)
    clear hb2
    go_wp2
    exact bodyPost_ret (v := .bool true) (by simp [results, Tryz.results3, go_sem]) rfl ⟨rfl, HB2.out⟩
  case false =>
    rw [hg] at HG1
    obtain ⟨hl30, hN, hk2⟩ := grB32_no hg
    clear hg
    go_wp2_with fail
    refine HG1.out.mono ?_
    rintro e w2 ⟨rfl, hb2⟩
    have HB2 := Lib.hid (below_more HB1.out hb2 HB1.out.size)
    have HR2 := Lib.hid (HR1.out.after hb2)
    have HT2 := Lib.hid (HT1.out.mono (Nat.le_refl _) hb2)
    have HK2 := Lib.hid (HK1.out.mono (Nat.le_refl _) hb2)
    have HNX := Lib.hid (HNIL.out w2)
    clear hb2
    go_wp2_with fail
    refine HNX.out.mono ?_
    rintro e w3 ⟨rfl, hb3⟩
    have HB3 := Lib.hid (below_more HB2.out hb3 HB2.out.size)
    have HR3 := Lib.hid (HR2.out.after hb3)
    have HT3 := Lib.hid (HT2.out.mono (Nat.le_refl _) hb3)
    have HK3 := Lib.hid (HK2.out.mono (Nat.le_refl _) hb3)
    have c0 := HR3.out.cell (i := 0) rfl
    have c1 := HR3.out.cell (i := 1) rfl
    clear hb3
    by_cases hs : Surf N T
    · obtain ⟨n, hn⟩ : ∃ n : Nat, N = n := ⟨N.toNat, by have := hs.n0; omega⟩
      have HS := Lib.hid hs
      have HNN := Lib.hid hn
      have HTX := Lib.hid (HTY.out w3 HT3.out n hn (hn ▸ hs) (by omega))
      clear hs hn
      go_wp2_with fail
      refine HTX.out.mono ?_
      rintro e w4 ⟨p, rfl, -, htab, hb4⟩
      have htab : Tab w4 p N T := by first | exact htab | (rw [HNN.out]; exact htab)
      have HB4 := Lib.hid (below_more HB3.out hb4 HB3.out.size)
      have HR4 := Lib.hid (HR3.out.after hb4)
      have HT4 := Lib.hid (HT3.out.mono (Nat.le_refl _) hb4)
      have HK4 := Lib.hid (HK3.out.mono (Nat.le_refl _) hb4)
      have HTAB := Lib.hid htab
      clear hb4 htab
      have e3 : IntKind.i64.wrap (3 * (len : Int)) = 3 * (len : Int) := IntWalk.i64_in _ (by omega)
      by_cases hk : kl = 3 * len
      · have d2 : ((kl : Int) != 3 * (len : Int)) = false := by simp; omega
        have d3 : ((kl : Int) == 3 * (len : Int)) = true := by simp; omega
        have HKL := Lib.hid hk
        have HO1 := Lib.hid (HOO.out w4 p HTAB.out HS.out hk HK4.out)
        clear hk
        go_wp2_with fail
        refine HO1.out.mono ?_
        rintro e w5 ⟨g1, M1, rfl, -, hr1, hm1, hb5⟩
        have HB5 := Lib.hid (below_more HB4.out hb5 HB4.out.size)
        have HR5 := Lib.hid (HR4.out.after hb5)
        have HT5 := Lib.hid (HT4.out.mono (Nat.le_refl _) hb5)
        have HK5 := Lib.hid (HK4.out.mono (Nat.le_refl _) hb5)
        have HRM1 := Lib.hid hr1
        have HM1 := Lib.hid hm1
        have HS1 := Lib.hid (HSO.out w5 p (HTAB.out.mono (Nat.le_refl _) hb5) HS.out HKL.out HK5.out)
        clear hb5 hr1 hm1
        go_wp2_with fail
        refine HS1.out.mono ?_
        rintro e w6 ⟨g2, L1, rfl, -, hr2, hm2, hb6⟩
        have HB6 := Lib.hid (below_more HB5.out hb6 HB5.out.size)
        have HR6 := Lib.hid (HR5.out.after hb6)
        have HT6 := Lib.hid (HT5.out.mono (Nat.le_refl _) hb6)
        have HK6 := Lib.hid (HK5.out.mono (Nat.le_refl _) hb6)
        have HRM6 := Lib.hid (HRM1.out.after hb6)
        have HRL6 := Lib.hid hr2
        have HL1 := Lib.hid hm2
        have HRO1 := Lib.hid (HRO.out w6 HT6.out n HNN.out (HNN.out ▸ HS.out) HK6.out HKL.out (by omega))
        have c0 := HR6.out.cell (i := 0) rfl
        have c1 := HR6.out.cell (i := 1) rfl
        clear hb6 hr2 hm2
        go_wp2_with fail
        refine HRO1.out.mono ?_
        rintro e w7 ⟨g3, M2, rfl, -, hr3, hm3, hb7⟩
        have HB7 := Lib.hid (below_more HB6.out hb7 HB6.out.size)
        have HR7 := Lib.hid (HR6.out.after hb7)
        have HT7 := Lib.hid (HT6.out.mono (Nat.le_refl _) hb7)
        have HK7 := Lib.hid (HK6.out.mono (Nat.le_refl _) hb7)
        have HRL7 := Lib.hid (HRL6.out.after hb7)
        have HI7 := Lib.hid (same_iv g1 g3 len M1 M2 w7 (by omega) (HRM6.out.after hb7) hr3 (by have h1 := HM1.out; have h2 := hm3; rw [HL.out] at h1 h2 ⊢; exact kshell_one h1 h2))
        clear hb7 hr3 hm3
        go_wp2_with fail
        refine HI7.out.mono ?_
        rintro e w8 ⟨rfl, hb8⟩
        have HB8 := Lib.hid (below_more HB7.out hb8 HB7.out.size)
        have HR8 := Lib.hid (HR7.out.after hb8)
        have HRL8 := Lib.hid (HRL7.out.after hb8)
        have HRS8 := Lib.hid (HRS.out w8 (HT7.out.mono (Nat.le_refl _) hb8) n HNN.out (HNN.out ▸ HS.out) (HK7.out.mono (Nat.le_refl _) hb8) HKL.out (by omega))
        have c0 := HR8.out.cell (i := 0) rfl
        have c1 := HR8.out.cell (i := 1) rfl
        clear hb8
        go_wp2_with fail
        refine HRS8.out.mono ?_
        rintro e w9 ⟨g4, L2, rfl, -, hr4, hm4, hb9⟩
        have HB9 := Lib.hid (below_more HB8.out hb9 HB8.out.size)
        have HI9 := Lib.hid (same_iv g2 g4 (3 * len) L1 L2 w9 (by omega) (HRL8.out.after hb9) hr4 (by have h1 := HL1.out; have h2 := hm4; rw [HL.out] at h1 h2 ⊢; exact h1.unique h2 ksadj_in))
        clear hb9 hr4 hm4
        go_wp2_with fail
        refine HI9.out.mono ?_
        rintro e w10 ⟨rfl, hb10⟩
        have HB10 := Lib.hid (below_more HB9.out hb10 HB9.out.size)
        clear hb10
        go_wp2
        exact bodyPost_ret (v := .bool true) (by simp [results, Tryz.results3, go_sem]) rfl ⟨rfl, HB10.out⟩
      · have d2 : ((kl : Int) != 3 * (len : Int)) = true := by simp; omega
        have HO1 := Lib.hid (HOB.out w4 p HTAB.out (by omega) hk)
        have HSX := Lib.hid (fun (X : World) (h : Tab X p N T) => HSB.out X p h (by omega) hk)
        clear hk
        go_wp2_with fail
        refine HO1.out.mono ?_
        rintro e w5 ⟨rfl, hb5⟩
        have HB5 := Lib.hid (below_more HB4.out hb5 HB4.out.size)
        have HR5 := Lib.hid (HR4.out.after hb5)
        have HS1 := Lib.hid (HSX.out w5 (HTAB.out.mono (Nat.le_refl _) hb5))
        clear hb5
        go_wp2_with fail
        refine HS1.out.mono ?_
        rintro e w6 ⟨rfl, hb6⟩
        have HB6 := Lib.hid (below_more HB5.out hb6 HB5.out.size)
        have HR6 := Lib.hid (HR5.out.after hb6)
        have c0 := HR6.out.cell (i := 0) rfl
        have c1 := HR6.out.cell (i := 1) rfl
        clear hb6
        go_wp2
        exact bodyPost_ret (v := .bool true) (by simp [results, Tryz.results3, go_sem]) rfl ⟨rfl, HB6.out⟩
    · have HTX := Lib.hid (HTN.out w3 HT3.out hs (by omega))
      have HS := Lib.hid hs
      clear hs
      go_wp2_with fail
      refine HTX.out.mono ?_
      rintro e w4 ⟨rfl, hb4⟩
      have HB4 := Lib.hid (below_more HB3.out hb4 HB3.out.size)
      have HR4 := Lib.hid (HR3.out.after hb4)
      have HI4 := Lib.hid (HIS.out w4 (HT3.out.mono (Nat.le_refl _) hb4) (by omega))
      have c0 := HR4.out.cell (i := 0) rfl
      have c1 := HR4.out.cell (i := 1) rfl
      clear hb4
      go_wp2_with fail
      refine HI4.out.mono ?_
      rintro e w5 ⟨r, rfl, hr, hb5⟩
      obtain rfl : r = false := by
        cases r
        · rfl
        · exact absurd (hr.1 rfl) HS.out
      have HB5 := Lib.hid (below_more HB4.out hb5 HB4.out.size)
      clear hr hb5
      go_wp2
      exact bodyPost_ret (v := .bool true) (by simp [results, Tryz.results3, go_sem]) rfl ⟨rfl, HB5.out⟩
end Go.Proofs.YtfbpjlfimmjieaaGreat

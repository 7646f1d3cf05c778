/- gypsumlaw32.ChartDiscs: the walk. -/
import Derived.Test.YtfbpjlfimmjieaaGreatQuad32
import Derived.Test.YtfbpjlfimmjieaaGreatSurf32
import Derived.Test.YtfbpjlfimmjieaaGreatRef32
namespace Go.Proofs.YtfbpjlfimmjieaaGreat
set_option linter.unusedVariables false
set_option linter.unusedSimpArgs false
open Go.RowKit
set_option maxRecDepth 100000 in
set_option maxHeartbeats 16000000 in
theorem chartdiscs_any (N : Int) (ao : Option Addr) (cap : Nat) (T : List Tr) (ko : Option Addr) (kc : Nat) (K : List Int) (w : World) (hT : TrisAt w ao T) (hTl : T.length ≤ 9223372036854775807) (hK : IntsAt w ko K) (hKl : K.length ≤ 9223372036854775807) :
    Calls Tryz.prog 5 #[.agg #[.int .i64 N, .slice ao T.length cap], .slice ko K.length kc] w fun e w' => e = .returned (.bool true) ∧ Below w.heap.size w w' := by
  obtain ⟨W0, hW0⟩ : ∃ W0, W0 = w.alloc (.cells #[.int .i64 N, .slice ao T.length cap] 24) := ⟨_, rfl⟩
  have hb0 : Below w.heap.size w W0 := by rw [hW0]; exact (Below.refl _ _).alloc (Nat.le_refl _) _
  have hr0 : RowIs W0 w.heap.size 24 [.int .i64 N, .slice ao T.length cap] := by rw [hW0]; exact RowIs.made w 24 [.int .i64 N, .slice ao T.length cap]
  have HT := Lib.hid (hT.mono (Nat.le_refl _) hb0)
  have HK := Lib.hid (hK.mono (Nat.le_refl _) hb0)
  have HG := Lib.hid (fun X : World => great32 N ao T.length cap ko K.length kc X)
  have HIS := Lib.hid (fun (X : World) (h : TrisAt X ao T) (hl : T.length ≤ 10000) => is15 N ao cap T X h hl)
  have HCN := Lib.hid (fun (X : World) (h : TrisAt X ao T) (hl : T.length ≤ 8192) (hs : ¬ Surf N T) => cdiscs_none N ao cap T ko K.length kc X h hl hs)
  have HCB := Lib.hid (fun (X : World) (h : TrisAt X ao T) (hs : Surf N T) (n : Nat) (hn : N = n) (hkl : K.length ≠ 3 * T.length) => (show N = (n : Int) from hn) ▸ cdiscs_bad n ao cap T ko K.length kc X h (hn ▸ hs) hkl)
  have HCY := Lib.hid (fun (X : World) (h : TrisAt X ao T) (hs : Surf N T) (n : Nat) (hn : N = n) (hk : IntsAt X ko K) (hkl : K.length = 3 * T.length) (hl : T.length ≤ 1000) => (show N = (n : Int) from hn) ▸ (cdiscs_ok n ao cap T ko kc K X h (hn ▸ hs) hk hkl hl).mono (R' := fun e w' => DiscsP T K X e w') fun _ _ h => h)
  have HRO := Lib.hid (fun (X : World) (h : TrisAt X ao T) (hs : Surf N T) (n : Nat) (hn : N = n) (hk : IntsAt X ko K) (hkl : K.length = 3 * T.length) (hl : T.length ≤ 1000) => (show N = (n : Int) from hn) ▸ of32 n ao cap T ko kc K X h (hn ▸ hs) hk hkl hl)
  have HDA := Lib.hid (show ∀ (n : Nat) (hn : N = n) (hs : Surf N T) (hl : T.length ≤ 1000) (hn2 : n ≤ 10000) (hkl : K.length = 3 * T.length) (M : Nat → Int) (D : List Bool) (hM : IsShells (KAdj T K) T.length M)
      (hD : (D.length : Int) = cnt M T.length) (hA : ∀ k, k < D.length → DiscAt T K M k (D.getD k false)) (k : Nat) (hk : k < D.length),
      ∃ (nF : Nat) (CT : List Tr) (nR : Nat), Surf nF CT ∧ CT.length ≤ T.length ∧ D.getD k false = discB nF CT ∧ (nR = 1 → D.getD k false = true) ∧ nF ≤ 3 * T.length ∧ nR ≤ T.length ∧
        ∀ (X : World), TrisAt X ao T → IntsAt X ko K →
          Calls Tryz.prog 21 #[.agg #[.int .i64 N, .slice ao T.length cap], .slice ko K.length kc, .int .i64 (k : Int)] X fun e w' => ∃ a1 a2 a3 c1 c2 c3,
            e = .returned (.tuple #[.agg #[.int .i64 (nF : Int), .slice a1 CT.length c1], .slice a2 nF c2, .slice a3 nR c3, .bool true]) ∧ TrisAt w' a1 CT ∧ Below X.heap.size X w' from fun n hn hs hl hn2 hkl M D hM hD hA k hk => by
    subst hn
    obtain ⟨nF, CT, nR, h1, h2, h3, h4, h5, h6, h7⟩ := disc_at hs hl hn2 hkl hM hD hA k hk
    exact ⟨nF, CT, nR, h1, h2, h3, h4, h5, h6, fun X hX hK => h7 ao cap ko kc X hX hK⟩)
  obtain ⟨len, hlen⟩ : ∃ l, l = T.length := ⟨_, rfl⟩
  obtain ⟨kl, hkle⟩ : ∃ l, l = K.length := ⟨_, rfl⟩
  simp only [DiscsP, NumQ, ← hlen, ← hkle] at HG HIS HCN HCB HCY HRO HDA hW0 hr0 hTl hKl
  rw [← hlen, ← hkle]
  have HL := Lib.hid hlen
  have HR0 := Lib.hid hr0
  have HB0 := Lib.hid hb0
  have HW0 := Lib.hid hW0
  clear hT hK hb0 hr0 hW0 hlen hkle
  go_enter Tryz.func5, Tryz.ntmps5
  go_upto_region 1 with fail
  rw [← HW0.out]
  go_wp2_with fail
  refine (awake32 _).mono ?_
  rintro e w1 ⟨rfl, hb1⟩
  have HB1 := Lib.hid (below_more HB0.out hb1 HB0.out.size)
  have HR1 := Lib.hid (HR0.out.after hb1)
  have HT1 := Lib.hid (HT.out.mono (Nat.le_refl _) hb1)
  have HK1 := Lib.hid (HK.out.mono (Nat.le_refl _) hb1)
  have c0 := HR1.out.cell (i := 0) rfl
  have c1 := HR1.out.cell (i := 1) rfl
  have HG1 := Lib.hid (HG.out w1)
  clear hb1
  cases hg : grB32 N len kl
  case true =>
    rw [hg] at HG1
    clear hg
    go_wp2_with fail
    refine HG1.out.mono ?_
    rintro e w2 ⟨rfl, hb2⟩
    have HB2 := Lib.hid (below_more HB1.out hb2 HB1.out.size)
    clear hb2
    go_wp2
    exact bodyPost_ret (v := .bool true) (by simp [results, Tryz.results5, go_sem]) rfl ⟨rfl, HB2.out⟩
  case false =>
    rw [hg] at HG1
    obtain ⟨hl30, hN, hk2⟩ := grB32_no hg
    clear hg
    go_wp2_with fail
    refine HG1.out.mono ?_
    rintro e w2 ⟨rfl, hb2⟩
    have HB2 := Lib.hid (below_more HB1.out hb2 HB1.out.size)
    have HR2 := Lib.hid (HR1.out.after hb2)
    have HT2 := Lib.hid (HT1.out.mono (Nat.le_refl _) hb2)
    have HK2 := Lib.hid (HK1.out.mono (Nat.le_refl _) hb2)
    have c0 := HR2.out.cell (i := 0) rfl
    have c1 := HR2.out.cell (i := 1) rfl
    clear hb2
    have e3 : IntKind.i64.wrap (3 * (len : Int)) = 3 * (len : Int) := IntWalk.i64_in _ (by omega)
    by_cases hs : Surf N T
    · obtain ⟨n, hn⟩ : ∃ n : Nat, N = n := ⟨N.toNat, by have := hs.n0; omega⟩
      have HS := Lib.hid hs
      have HNN := Lib.hid hn
      have HN2 := Lib.hid (show n ≤ 10000 by omega)
      clear hs hn
      by_cases hk : kl = 3 * len
      · have d2 : ((kl : Int) != 3 * (len : Int)) = false := by simp; omega
        have HKL := Lib.hid hk
        have HC2 := Lib.hid (HCY.out w2 HT2.out HS.out n HNN.out HK2.out hk (by omega))
        clear hk
        go_wp2_with fail
        refine HC2.out.mono ?_
        rintro e w3 ⟨M, D, a, c, hM, hD, rfl, hbo, hA, hb3⟩
        obtain ⟨nd, hnd⟩ : ∃ l, l = D.length := ⟨_, rfl⟩
        have HB3 := Lib.hid (below_more HB2.out hb3 HB2.out.size)
        have hr3 := HR2.out.after hb3
        have HT3 := Lib.hid (HT2.out.mono (Nat.le_refl _) hb3)
        have HK3 := Lib.hid (HK2.out.mono (Nat.le_refl _) hb3)
        have HDK := Lib.hid (HDA.out n HNN.out HS.out (by omega) HN2.out HKL.out M D hM hD hA)
        have HCN2 := Lib.hid (show cnt M len = (nd : Int) by rw [← hD, hnd])
        have HM := Lib.hid hM
        have HBO := Lib.hid hbo
        have HI3 := Lib.hid (HIS.out w3 HT3.out (by omega))
        have HND := Lib.hid hnd
        have hndb : nd ≤ 30 := by
          have : cnt M len ≤ len := by
            by_cases h0 : 0 < cnt M len
            · obtain ⟨i, hi, e⟩ := cnt_has M len h0
              have := hM.le i hi
              omega
            · omega
          omega
        rw [← hnd] at HDK ⊢
        have HR3 := Lib.hid hr3
        have c0 := hr3.cell (i := 0) rfl
        have c1 := hr3.cell (i := 1) rfl
        clear hM hD hbo hA hb3 hnd hr3
        go_wp2_with fail
        refine HI3.out.mono ?_
        rintro e w4 ⟨r, rfl, hr, hb4⟩
        obtain rfl : r = true := hr.2 HS.out
        have HB4 := Lib.hid (below_more HB3.out hb4 HB3.out.size)
        have HR4 := Lib.hid (HR3.out.after hb4)
        have HT4 := Lib.hid (HT3.out.mono (Nat.le_refl _) hb4)
        have HK4 := Lib.hid (HK3.out.mono (Nat.le_refl _) hb4)
        have HBO4 := Lib.hid (HBO.out.mono (Nat.le_refl _) hb4)
        have HRO4 := Lib.hid (HRO.out w4 HT4.out HS.out n HNN.out HK4.out HKL.out (by omega))
        have c0 := HR4.out.cell (i := 0) rfl
        have c1 := HR4.out.cell (i := 1) rfl
        clear hr hb4
        go_wp2_with fail
        refine HRO4.out.mono ?_
        rintro e w5 ⟨g5, M2, rfl, -, hr5, hm5, hb5⟩
        have HB5 := Lib.hid (below_more HB4.out hb5 HB4.out.size)
        have HR5 := Lib.hid (HR4.out.after hb5)
        have HT5 := Lib.hid (HT4.out.mono (Nat.le_refl _) hb5)
        have HK5 := Lib.hid (HK4.out.mono (Nat.le_refl _) hb5)
        have HBO5 := Lib.hid (HBO4.out.mono (Nat.le_refl _) hb5)
        have hmany := many32 g5 len M2 w5 (by omega) hr5 (fun i hi => ⟨hm5.nonneg i hi, by have := hm5.le i hi; omega⟩)
        have hce : cnt M2 len = (nd : Int) := by
          rw [← HCN2.out]
          refine cnt_congr len ?_
          have h1 := HM.out
          rw [HL.out] at h1 hm5 ⊢
          exact kshell_one hm5 h1
        rw [hce] at hmany
        have HMY := Lib.hid hmany
        clear hmany hce hr5 hm5 hb5
        go_wp2_with fail
        refine HMY.out.mono ?_
        rintro e w6 ⟨rfl, rfl⟩
        obtain ⟨W6, rfl⟩ : ∃ X : World, X = w6 := ⟨_, rfl⟩
        go_wp2
        go_loopw [7] (fun c ws => ∃ k : Nat, k ≤ nd ∧ c = .int .i64 k ∧ Below W6.heap.size W6 ws) (fun c _ => nd - (intOf c).toNat)
        case atStart => exact ⟨0, by omega, rfl, Below.refl _ _⟩
        case round =>
          obtain ⟨k, hk, rfl, hbk⟩ := hrel
          obtain ⟨X, rfl⟩ : ∃ x : World, x = wr := ⟨_, rfl⟩
          have HBk := Lib.hid hbk
          by_cases hkb : k < nd
          · obtain ⟨nF, CT, nR, hS2, hC2, hDe, hR1, hF3, hR3, hcall⟩ := HDK.out k hkb
            have HCX := Lib.hid (hcall X (HT5.out.mono (Nat.le_refl _) hbk) (HK5.out.mono (Nat.le_refl _) hbk))
            have hrX := HR5.out.after hbk
            obtain ⟨db, doff, rfl, hdl, hdc⟩ := (HBO5.out.mono (Nat.le_refl _) hbk) (by intro e; have := HND.out; rw [e] at this; simp at this; omega)
            have hdk := hdc k (by have := HND.out; omega)
            obtain ⟨dk, hdke⟩ : ∃ d, d = D.getD k false := ⟨_, rfl⟩
            rw [← hdke] at hdk hDe hR1
            obtain ⟨nC, hnC⟩ : ∃ l, l = CT.length := ⟨_, rfl⟩
            have HDS := Lib.hid (show ∀ (X : World) (a : Option Addr) (c : Nat), TrisAt X a CT → Calls Tryz.prog 25 #[.agg #[.int .i64 (nF : Int), .slice a CT.length c]] X fun e w' => e = .returned (.bool dk) ∧ Below X.heap.size X w' from fun X a c h => by
              have := disc32 nF a c CT X h hS2
              rw [← hDe] at this
              exact this)
            rw [← hnC] at HCX HDS
            have c0 := hrX.cell (i := 0) rfl
            have c1 := hrX.cell (i := 1) rfl
            have HDC := Lib.hid (show db < X.heap.size ∧ X.cell? ⟨db, doff + k, none⟩ = some (.bool dk) from ⟨hdl, hdk⟩)
            have HNR := Lib.hid (show nR ≤ 30 by omega)
            have HR1' := Lib.hid hR1
            clear hS2 hC2 hDe hR1 hF3 hR3 hcall hrX hdl hdc hdk hdke hnC hbk
            go_wp2_with fail
            refine HCX.out.mono ?_
            rintro e X1 ⟨a1, a2, a3, f1, f2, f3, rfl, ht1, hb1⟩
            obtain ⟨Y, hY⟩ : ∃ Y, Y = X1.alloc (.cells #[.int .i64 (nF : Int), .slice a1 nC f1] 24) := ⟨_, rfl⟩
            have hb2 : Below X1.heap.size X1 Y := by rw [hY]; exact (Below.refl _ _).alloc (Nat.le_refl _) _
            have hbY := below_more hb1 hb2 hb1.size
            have hy : RowIs Y X1.heap.size 24 [.int .i64 (nF : Int), .slice a1 nC f1] := by rw [hY]; exact RowIs.made X1 24 [.int .i64 (nF : Int), .slice a1 nC f1]
            obtain ⟨yb, hyb⟩ : ∃ y, y = X1.heap.size := ⟨_, rfl⟩
            have HYB := Lib.hid hyb
            rw [← hyb] at hy
            have HBY := Lib.hid (below_more HBk.out hbY HBk.out.size)
            have hdY : Y.cell? ⟨db, doff + k, none⟩ = some (.bool dk) := (hbY.cell (p := ⟨db, doff + k, none⟩) HDC.out.1).trans HDC.out.2
            have HKY := Lib.hid (show ∀ Z, Hid (Below Y.heap.size Y Z) → Z.cell? ⟨yb, 0, none⟩ = some (.int .i64 (nF : Int)) ∧ Z.cell? ⟨yb, 1, none⟩ = some (.slice a1 nC f1) ∧ Z.cell? ⟨db, doff + k, none⟩ = some (.bool dk) from fun Z hZ =>
              ⟨(hy.after hZ.out).cell (i := 0) rfl, (hy.after hZ.out).cell (i := 1) rfl, (hZ.out.cell (p := ⟨db, doff + k, none⟩) (by have := HDC.out.1; have := hbY.size; show db < _; omega)).trans hdY⟩)
            have HDSY := Lib.hid (show ∀ Z, Hid (Below Y.heap.size Y Z) → Calls Tryz.prog 25 #[.agg #[.int .i64 (nF : Int), .slice a1 nC f1]] Z fun e w' => e = .returned (.bool dk) ∧ Hid (Below Y.heap.size Y w') from fun Z hZ =>
              (HDS.out Z a1 f1 ((ht1.mono (Nat.le_refl _) hb2).mono (Nat.le_refl _) hZ.out)).mono fun e w' ⟨h1, h2⟩ => ⟨h1, below_more hZ.out h2 hZ.out.size⟩)
            have HDR := Lib.hid (show Below Y.heap.size Y Y.drew from ⟨rfl, rfl, rfl, Nat.le_refl _, fun _ _ => rfl⟩)
            have HRF := Lib.hid (Below.refl Y.heap.size Y)
            have y0 := hy.cell (i := 0) rfl
            have y1 := hy.cell (i := 1) rfl
            have HY := Lib.hid hY
            clear ht1 hb1 hb2 hbY hy hyb hY
            go_upto_region 16 with fail
            rw [← HY.out, ← HYB.out]
            go_cut [91] (fun s wc => s = .bool false ∧ Below Y.heap.size Y wc)
            case first =>
              cases dk
              case false =>
                have hn1 : nR ≠ 1 := fun h => by have := HR1'.out h; cases this
                have e1 : ((nR : Int) == 1) = false := by simp; omega
                have e2 : (nR == 1) = false := by simpa using hn1
                have e3 : decide (nR = 1) = false := by simpa using hn1
                have e4 : decide ((nR : Int) = 1) = false := by simp; omega
                refine wp_region_held_drew (S := (fun w' => w'.cell? ⟨yb, 0, none⟩ = some (.int .i64 (nF : Int)) ∧ w'.cell? ⟨yb, 1, none⟩ = some (.slice a1 nC f1) ∧ w'.cell? ⟨db, doff + k, none⟩ = some (.bool false))) (by kernel_rfl) ?_ (fun hHeld0 => ?_)
                · ((try dsimp only); exact HKY.out _ (by assumption))
                refine wpAnyH_take (i := 0) (v := ?_) rfl (by kernel_rfl) (by kernel_rfl) (by kernel_rfl) (fun _ _ _ h => h) (Or.inl ⟨by rfl, ?_⟩) (by assumption) ?_
                rotate_left
                · (intro w hSw; (try dsimp only at hSw); go_simp; try with_reducible rfl)
                try simp only [List.getElem_toArray, List.getElem_cons_succ, List.getElem_cons_zero, Act.put, List.setIfInBounds_toArray, List.set_cons_zero, List.set_cons_succ]
                refine wpAnyH_take (i := 1) (v := ?_) rfl (by kernel_rfl) (by kernel_rfl) (by kernel_rfl) (fun _ _ _ h => h) (Or.inl ⟨by rfl, ?_⟩) (by assumption) ?_
                rotate_left
                · (intro w hSw; (try dsimp only at hSw); go_simp; try with_reducible rfl)
                try simp only [List.getElem_toArray, List.getElem_cons_succ, List.getElem_cons_zero, Act.put, List.setIfInBounds_toArray, List.set_cons_zero, List.set_cons_succ]
                refine wpAnyH_take (i := 2) (v := ?_) rfl (by kernel_rfl) (by kernel_rfl) (by kernel_rfl) (fun _ _ _ h => h) (Or.inl ⟨by rfl, ?_⟩) (by assumption) ?_
                rotate_left
                · (intro w hSw; (try dsimp only at hSw); go_simp; try with_reducible rfl)
                try simp only [List.getElem_toArray, List.getElem_cons_succ, List.getElem_cons_zero, Act.put, List.setIfInBounds_toArray, List.set_cons_zero, List.set_cons_succ]
                refine wpAnyH_take (i := 3) (v := ?_) rfl (by kernel_rfl) (by kernel_rfl) (by kernel_rfl) (fun _ _ _ h => h) (Or.inl ⟨by rfl, ?_⟩) (by assumption) ?_
                rotate_left
                · (intro w hSw; (try dsimp only at hSw); go_simp; try with_reducible rfl)
                try simp only [List.getElem_toArray, List.getElem_cons_succ, List.getElem_cons_zero, Act.put, List.setIfInBounds_toArray, List.set_cons_zero, List.set_cons_succ]
                refine wpAnyH_take (i := 4) (v := ?_) rfl (by kernel_rfl) (by kernel_rfl) (by kernel_rfl) (fun _ _ _ h => h) (Or.inl ⟨by rfl, ?_⟩) (by assumption) ?_
                rotate_left
                · (intro w hSw; (try dsimp only at hSw); go_simp; try with_reducible rfl)
                try simp only [List.getElem_toArray, List.getElem_cons_succ, List.getElem_cons_zero, Act.put, List.setIfInBounds_toArray, List.set_cons_zero, List.set_cons_succ]
                refine wpAnyH_ready (rs := [5]) (by kernel_rfl) (by simp) ?_
                refine AllReadyH.cons rfl (fun K hK => ?_) AllReadyH.nil
                go_simp
                go_wp2_with (first | (go_at_call 25; (with_reducible refine (HDSY.out _ (by assumption)).mono ?_); rintro e wD ⟨rfl, hD⟩))
                refine hK.out _ _ ?_ (fun hHeld1 => ?_)
                · ((try dsimp only); exact HKY.out _ (by assumption))
                clear hK K hHeld0
                refine wpAnyH_take (i := 6) (v := ?_) rfl (by kernel_rfl) (by kernel_rfl) (by kernel_rfl) (fun _ _ _ h => h) (Or.inl ⟨by rfl, ?_⟩) (by assumption) ?_
                rotate_left
                · (intro w hSw; (try dsimp only at hSw); go_simp; try with_reducible rfl)
                try simp only [List.getElem_toArray, List.getElem_cons_succ, List.getElem_cons_zero, Act.put, List.setIfInBounds_toArray, List.set_cons_zero, List.set_cons_succ]
                refine wpAnyH_take (i := 7) (v := ?_) rfl (by kernel_rfl) (by kernel_rfl) (by kernel_rfl) (fun _ _ _ h => h) (Or.inl ⟨by rfl, ?_⟩) (by assumption) ?_
                rotate_left
                · (intro w hSw; (try dsimp only at hSw); go_simp; try with_reducible rfl)
                try simp only [List.getElem_toArray, List.getElem_cons_succ, List.getElem_cons_zero, Act.put, List.setIfInBounds_toArray, List.set_cons_zero, List.set_cons_succ]
                refine wpAnyH_take (i := 8) (v := ?_) rfl (by kernel_rfl) (by kernel_rfl) (by kernel_rfl) (fun _ _ _ h => h) (Or.inl ⟨by rfl, ?_⟩) (by assumption) ?_
                rotate_left
                · (intro w hSw; (try dsimp only at hSw); go_simp; try with_reducible rfl)
                try simp only [List.getElem_toArray, List.getElem_cons_succ, List.getElem_cons_zero, Act.put, List.setIfInBounds_toArray, List.set_cons_zero, List.set_cons_succ]
                refine wpAnyH_take (i := 9) (v := ?_) rfl (by kernel_rfl) (by kernel_rfl) (by kernel_rfl) (fun _ _ _ h => h) (Or.inl ⟨by rfl, ?_⟩) (by assumption) ?_
                rotate_left
                · (intro w hSw; (try dsimp only at hSw); go_simp; try with_reducible rfl)
                try simp only [List.getElem_toArray, List.getElem_cons_succ, List.getElem_cons_zero, Act.put, List.setIfInBounds_toArray, List.set_cons_zero, List.set_cons_succ]
                refine wpAnyH_take (i := 10) (v := .bool false) rfl (by kernel_rfl) (by kernel_rfl) (by kernel_rfl) (fun _ _ _ h => h) (Or.inl ⟨by rfl, ?_⟩) (by assumption) ?_
                · (intro w hSw; (try dsimp only at hSw); go_simp; try with_reducible rfl)
                try simp only [List.getElem_toArray, List.getElem_cons_succ, List.getElem_cons_zero, Act.put, List.setIfInBounds_toArray, List.set_cons_zero, List.set_cons_succ]
                refine wpAnyH_take (i := 11) (v := ?_) rfl (by kernel_rfl) (by kernel_rfl) (by kernel_rfl) (fun _ _ _ h => h) (Or.inl ⟨by rfl, ?_⟩) (by assumption) ?_
                rotate_left
                · (intro w hSw; (try dsimp only at hSw); go_simp; try with_reducible rfl)
                try simp only [List.getElem_toArray, List.getElem_cons_succ, List.getElem_cons_zero, Act.put, List.setIfInBounds_toArray, List.set_cons_zero, List.set_cons_succ]
                refine wpAnyH_take (i := 12) (v := undef) rfl (by kernel_rfl) (by kernel_rfl) (by kernel_rfl) (fun _ _ _ h => h) (Or.inr ⟨by rfl, rfl⟩) (by assumption) ?_
                try simp only [List.getElem_toArray, List.getElem_cons_succ, List.getElem_cons_zero, Act.put, List.setIfInBounds_toArray, List.set_cons_zero, List.set_cons_succ]
                refine wpAnyH_take (i := 13) (v := undef) rfl (by kernel_rfl) (by kernel_rfl) (by kernel_rfl) (fun _ _ _ h => h) (Or.inr ⟨by rfl, rfl⟩) (by assumption) ?_
                try simp only [List.getElem_toArray, List.getElem_cons_succ, List.getElem_cons_zero, Act.put, List.setIfInBounds_toArray, List.set_cons_zero, List.set_cons_succ]
                refine wpAnyH_take (i := 14) (v := undef) rfl (by kernel_rfl) (by kernel_rfl) (by kernel_rfl) (fun _ _ _ h => h) (Or.inr ⟨by rfl, rfl⟩) (by assumption) ?_
                try simp only [List.getElem_toArray, List.getElem_cons_succ, List.getElem_cons_zero, Act.put, List.setIfInBounds_toArray, List.set_cons_zero, List.set_cons_succ]
                refine wpAnyH_take (i := 15) (v := undef) rfl (by kernel_rfl) (by kernel_rfl) (by kernel_rfl) (fun _ _ _ h => h) (Or.inr ⟨by rfl, rfl⟩) (by assumption) ?_
                try simp only [List.getElem_toArray, List.getElem_cons_succ, List.getElem_cons_zero, Act.put, List.setIfInBounds_toArray, List.set_cons_zero, List.set_cons_succ]
                refine wpAnyH_take (i := 16) (v := undef) rfl (by kernel_rfl) (by kernel_rfl) (by kernel_rfl) (fun _ _ _ h => h) (Or.inr ⟨by rfl, rfl⟩) (by assumption) ?_
                try simp only [List.getElem_toArray, List.getElem_cons_succ, List.getElem_cons_zero, Act.put, List.setIfInBounds_toArray, List.set_cons_zero, List.set_cons_succ]
                refine wpAnyH_take (i := 17) (v := ?_) rfl (by kernel_rfl) (by kernel_rfl) (by kernel_rfl) (fun _ _ _ h => h) (Or.inl ⟨by rfl, ?_⟩) (by assumption) ?_
                rotate_left
                · (intro w hSw; (try dsimp only at hSw); go_simp; try with_reducible rfl)
                try simp only [List.getElem_toArray, List.getElem_cons_succ, List.getElem_cons_zero, Act.put, List.setIfInBounds_toArray, List.set_cons_zero, List.set_cons_succ]
                refine wpAnyH_take (i := 18) (v := ?_) rfl (by kernel_rfl) (by kernel_rfl) (by kernel_rfl) (fun _ _ _ h => h) (Or.inl ⟨by rfl, ?_⟩) (by assumption) ?_
                rotate_left
                · (intro w hSw; (try dsimp only at hSw); go_simp; try with_reducible rfl)
                try simp only [List.getElem_toArray, List.getElem_cons_succ, List.getElem_cons_zero, Act.put, List.setIfInBounds_toArray, List.set_cons_zero, List.set_cons_succ]
                refine wpAnyH_done (by kernel_rfl) ?_ _
                clear hHeld1
                all_goals
                  go_wp2
                  go_meet
                  exact ⟨rfl, hD.out⟩
              case true =>
                by_cases hn1 : nR = 1
                · have e1 : ((nR : Int) == 1) = true := by simp; omega
                  have e2 : (nR == 1) = true := by simpa using hn1
                  clear hn1
                  go_region_held3 (fun w' => w'.cell? ⟨yb, 0, none⟩ = some (.int .i64 (nF : Int)) ∧ w'.cell? ⟨yb, 1, none⟩ = some (.slice a1 nC f1) ∧ w'.cell? ⟨db, doff + k, none⟩ = some (.bool true))
                    (exact HKY.out _ (by assumption))
                    (first | (go_at_call 25; (with_reducible refine (HDSY.out _ (by assumption)).mono ?_); rintro e wD ⟨rfl, hD⟩))
                  all_goals
                    go_wp2
                    go_meet
                    exact ⟨rfl, hD.out⟩
                · have e1 : ((nR : Int) == 1) = false := by simp; omega
                  have e2 : (nR == 1) = false := by simpa using hn1
                  have e3 : decide (nR = 1) = false := by simpa using hn1
                  have e4 : decide ((nR : Int) = 1) = false := by simp; omega
                  refine wp_region_held_drew (S := (fun w' => w'.cell? ⟨yb, 0, none⟩ = some (.int .i64 (nF : Int)) ∧ w'.cell? ⟨yb, 1, none⟩ = some (.slice a1 nC f1) ∧ w'.cell? ⟨db, doff + k, none⟩ = some (.bool true))) (by kernel_rfl) ?_ (fun hHeld0 => ?_)
                  · ((try dsimp only); exact HKY.out _ (by assumption))
                  refine wpAnyH_take (i := 0) (v := ?_) rfl (by kernel_rfl) (by kernel_rfl) (by kernel_rfl) (fun _ _ _ h => h) (Or.inl ⟨by rfl, ?_⟩) (by assumption) ?_
                  rotate_left
                  · (intro w hSw; (try dsimp only at hSw); go_simp; try with_reducible rfl)
                  try simp only [List.getElem_toArray, List.getElem_cons_succ, List.getElem_cons_zero, Act.put, List.setIfInBounds_toArray, List.set_cons_zero, List.set_cons_succ]
                  refine wpAnyH_take (i := 1) (v := ?_) rfl (by kernel_rfl) (by kernel_rfl) (by kernel_rfl) (fun _ _ _ h => h) (Or.inl ⟨by rfl, ?_⟩) (by assumption) ?_
                  rotate_left
                  · (intro w hSw; (try dsimp only at hSw); go_simp; try with_reducible rfl)
                  try simp only [List.getElem_toArray, List.getElem_cons_succ, List.getElem_cons_zero, Act.put, List.setIfInBounds_toArray, List.set_cons_zero, List.set_cons_succ]
                  refine wpAnyH_take (i := 2) (v := ?_) rfl (by kernel_rfl) (by kernel_rfl) (by kernel_rfl) (fun _ _ _ h => h) (Or.inl ⟨by rfl, ?_⟩) (by assumption) ?_
                  rotate_left
                  · (intro w hSw; (try dsimp only at hSw); go_simp; try with_reducible rfl)
                  try simp only [List.getElem_toArray, List.getElem_cons_succ, List.getElem_cons_zero, Act.put, List.setIfInBounds_toArray, List.set_cons_zero, List.set_cons_succ]
                  refine wpAnyH_take (i := 3) (v := ?_) rfl (by kernel_rfl) (by kernel_rfl) (by kernel_rfl) (fun _ _ _ h => h) (Or.inl ⟨by rfl, ?_⟩) (by assumption) ?_
                  rotate_left
                  · (intro w hSw; (try dsimp only at hSw); go_simp; try with_reducible rfl)
                  try simp only [List.getElem_toArray, List.getElem_cons_succ, List.getElem_cons_zero, Act.put, List.setIfInBounds_toArray, List.set_cons_zero, List.set_cons_succ]
                  refine wpAnyH_take (i := 4) (v := ?_) rfl (by kernel_rfl) (by kernel_rfl) (by kernel_rfl) (fun _ _ _ h => h) (Or.inl ⟨by rfl, ?_⟩) (by assumption) ?_
                  rotate_left
                  · (intro w hSw; (try dsimp only at hSw); go_simp; try with_reducible rfl)
                  try simp only [List.getElem_toArray, List.getElem_cons_succ, List.getElem_cons_zero, Act.put, List.setIfInBounds_toArray, List.set_cons_zero, List.set_cons_succ]
                  refine wpAnyH_ready (rs := [5]) (by kernel_rfl) (by simp) ?_
                  refine AllReadyH.cons rfl (fun K hK => ?_) AllReadyH.nil
                  go_simp
                  go_wp2_with (first | (go_at_call 25; (with_reducible refine (HDSY.out _ (by assumption)).mono ?_); rintro e wD ⟨rfl, hD⟩))
                  refine hK.out _ _ ?_ (fun hHeld1 => ?_)
                  · ((try dsimp only); exact HKY.out _ (by assumption))
                  clear hK K hHeld0
                  refine wpAnyH_take (i := 6) (v := ?_) rfl (by kernel_rfl) (by kernel_rfl) (by kernel_rfl) (fun _ _ _ h => h) (Or.inl ⟨by rfl, ?_⟩) (by assumption) ?_
                  rotate_left
                  · (intro w hSw; (try dsimp only at hSw); go_simp; try with_reducible rfl)
                  try simp only [List.getElem_toArray, List.getElem_cons_succ, List.getElem_cons_zero, Act.put, List.setIfInBounds_toArray, List.set_cons_zero, List.set_cons_succ]
                  refine wpAnyH_take (i := 7) (v := ?_) rfl (by kernel_rfl) (by kernel_rfl) (by kernel_rfl) (fun _ _ _ h => h) (Or.inl ⟨by rfl, ?_⟩) (by assumption) ?_
                  rotate_left
                  · (intro w hSw; (try dsimp only at hSw); go_simp; try with_reducible rfl)
                  try simp only [List.getElem_toArray, List.getElem_cons_succ, List.getElem_cons_zero, Act.put, List.setIfInBounds_toArray, List.set_cons_zero, List.set_cons_succ]
                  refine wpAnyH_take (i := 8) (v := ?_) rfl (by kernel_rfl) (by kernel_rfl) (by kernel_rfl) (fun _ _ _ h => h) (Or.inl ⟨by rfl, ?_⟩) (by assumption) ?_
                  rotate_left
                  · (intro w hSw; (try dsimp only at hSw); go_simp; try with_reducible rfl)
                  try simp only [List.getElem_toArray, List.getElem_cons_succ, List.getElem_cons_zero, Act.put, List.setIfInBounds_toArray, List.set_cons_zero, List.set_cons_succ]
                  refine wpAnyH_take (i := 9) (v := ?_) rfl (by kernel_rfl) (by kernel_rfl) (by kernel_rfl) (fun _ _ _ h => h) (Or.inl ⟨by rfl, ?_⟩) (by assumption) ?_
                  rotate_left
                  · (intro w hSw; (try dsimp only at hSw); go_simp; try with_reducible rfl)
                  try simp only [List.getElem_toArray, List.getElem_cons_succ, List.getElem_cons_zero, Act.put, List.setIfInBounds_toArray, List.set_cons_zero, List.set_cons_succ]
                  refine wpAnyH_take (i := 10) (v := .bool false) rfl (by kernel_rfl) (by kernel_rfl) (by kernel_rfl) (fun _ _ _ h => h) (Or.inl ⟨by rfl, ?_⟩) (by assumption) ?_
                  · (intro w hSw; (try dsimp only at hSw); go_simp; try with_reducible rfl)
                  try simp only [List.getElem_toArray, List.getElem_cons_succ, List.getElem_cons_zero, Act.put, List.setIfInBounds_toArray, List.set_cons_zero, List.set_cons_succ]
                  refine wpAnyH_take (i := 11) (v := ?_) rfl (by kernel_rfl) (by kernel_rfl) (by kernel_rfl) (fun _ _ _ h => h) (Or.inl ⟨by rfl, ?_⟩) (by assumption) ?_
                  rotate_left
                  · (intro w hSw; (try dsimp only at hSw); go_simp; try with_reducible rfl)
                  try simp only [List.getElem_toArray, List.getElem_cons_succ, List.getElem_cons_zero, Act.put, List.setIfInBounds_toArray, List.set_cons_zero, List.set_cons_succ]
                  refine wpAnyH_take (i := 12) (v := undef) rfl (by kernel_rfl) (by kernel_rfl) (by kernel_rfl) (fun _ _ _ h => h) (Or.inr ⟨by rfl, rfl⟩) (by assumption) ?_
                  try simp only [List.getElem_toArray, List.getElem_cons_succ, List.getElem_cons_zero, Act.put, List.setIfInBounds_toArray, List.set_cons_zero, List.set_cons_succ]
                  refine wpAnyH_take (i := 13) (v := undef) rfl (by kernel_rfl) (by kernel_rfl) (by kernel_rfl) (fun _ _ _ h => h) (Or.inr ⟨by rfl, rfl⟩) (by assumption) ?_
                  try simp only [List.getElem_toArray, List.getElem_cons_succ, List.getElem_cons_zero, Act.put, List.setIfInBounds_toArray, List.set_cons_zero, List.set_cons_succ]
                  refine wpAnyH_take (i := 14) (v := undef) rfl (by kernel_rfl) (by kernel_rfl) (by kernel_rfl) (fun _ _ _ h => h) (Or.inr ⟨by rfl, rfl⟩) (by assumption) ?_
                  try simp only [List.getElem_toArray, List.getElem_cons_succ, List.getElem_cons_zero, Act.put, List.setIfInBounds_toArray, List.set_cons_zero, List.set_cons_succ]
                  refine wpAnyH_take (i := 15) (v := undef) rfl (by kernel_rfl) (by kernel_rfl) (by kernel_rfl) (fun _ _ _ h => h) (Or.inr ⟨by rfl, rfl⟩) (by assumption) ?_
                  try simp only [List.getElem_toArray, List.getElem_cons_succ, List.getElem_cons_zero, Act.put, List.setIfInBounds_toArray, List.set_cons_zero, List.set_cons_succ]
                  refine wpAnyH_take (i := 16) (v := undef) rfl (by kernel_rfl) (by kernel_rfl) (by kernel_rfl) (fun _ _ _ h => h) (Or.inr ⟨by rfl, rfl⟩) (by assumption) ?_
                  try simp only [List.getElem_toArray, List.getElem_cons_succ, List.getElem_cons_zero, Act.put, List.setIfInBounds_toArray, List.set_cons_zero, List.set_cons_succ]
                  refine wpAnyH_take (i := 17) (v := ?_) rfl (by kernel_rfl) (by kernel_rfl) (by kernel_rfl) (fun _ _ _ h => h) (Or.inl ⟨by rfl, ?_⟩) (by assumption) ?_
                  rotate_left
                  · (intro w hSw; (try dsimp only at hSw); go_simp; try with_reducible rfl)
                  try simp only [List.getElem_toArray, List.getElem_cons_succ, List.getElem_cons_zero, Act.put, List.setIfInBounds_toArray, List.set_cons_zero, List.set_cons_succ]
                  refine wpAnyH_take (i := 18) (v := ?_) rfl (by kernel_rfl) (by kernel_rfl) (by kernel_rfl) (fun _ _ _ h => h) (Or.inl ⟨by rfl, ?_⟩) (by assumption) ?_
                  rotate_left
                  · (intro w hSw; (try dsimp only at hSw); go_simp; try with_reducible rfl)
                  try simp only [List.getElem_toArray, List.getElem_cons_succ, List.getElem_cons_zero, Act.put, List.setIfInBounds_toArray, List.set_cons_zero, List.set_cons_succ]
                  refine wpAnyH_done (by kernel_rfl) ?_ _
                  clear hHeld1
                  all_goals
                    go_wp2
                    go_meet
                    exact ⟨rfl, hD.out⟩
            case rest =>
              obtain ⟨rfl, hbc⟩ := hcut
              have HBF := Lib.hid (below_more HBY.out hbc HBY.out.size)
              clear hbc
              go_wp2
              go_roundw
              case rel => exact ⟨k + 1, by omega, by go_num, HBF.out⟩
              case measure => simp [intOf]; omega
          · obtain rfl : k = nd := by omega
            have HBF := Lib.hid (below_more HB5.out hbk HB5.out.size)
            clear hbk
            go_wp2
            exact bodyPost_ret (v := .bool true) (by simp [results, Tryz.results5, go_sem]) rfl ⟨rfl, HBF.out⟩
      · have d2 : ((kl : Int) != 3 * (len : Int)) = true := by simp; omega
        have HC2 := Lib.hid (HCB.out w2 HT2.out HS.out n HNN.out hk)
        clear hk
        go_wp2_with fail
        refine HC2.out.mono ?_
        rintro e w3 ⟨rfl, hb3⟩
        have HB3 := Lib.hid (below_more HB2.out hb3 HB2.out.size)
        have HR3 := Lib.hid (HR2.out.after hb3)
        have HI3 := Lib.hid (HIS.out w3 (HT2.out.mono (Nat.le_refl _) hb3) (by omega))
        have c0 := HR3.out.cell (i := 0) rfl
        have c1 := HR3.out.cell (i := 1) rfl
        clear hb3
        go_wp2_with fail
        refine HI3.out.mono ?_
        rintro e w5 ⟨r, rfl, hr, hb5⟩
        obtain rfl : r = true := hr.2 HS.out
        have HB5 := Lib.hid (below_more HB3.out hb5 HB3.out.size)
        have HR5 := Lib.hid (HR3.out.after hb5)
        have c0 := HR5.out.cell (i := 0) rfl
        have c1 := HR5.out.cell (i := 1) rfl
        clear hr hb5
        go_wp2
        exact bodyPost_ret (v := .bool true) (by simp [results, Tryz.results5, go_sem]) rfl ⟨rfl, HB5.out⟩
    · have HC2 := Lib.hid (HCN.out w2 HT2.out (by omega) hs)
      have HS := Lib.hid hs
      clear hs
      go_wp2_with fail
      refine HC2.out.mono ?_
      rintro e w3 ⟨rfl, hb3⟩
      have HB3 := Lib.hid (below_more HB2.out hb3 HB2.out.size)
      have HR3 := Lib.hid (HR2.out.after hb3)
      have HI3 := Lib.hid (HIS.out w3 (HT2.out.mono (Nat.le_refl _) hb3) (by omega))
      have c0 := HR3.out.cell (i := 0) rfl
      have c1 := HR3.out.cell (i := 1) rfl
      clear hb3
      go_wp2_with fail
      refine HI3.out.mono ?_
      rintro e w5 ⟨r, rfl, hr, hb5⟩
      obtain rfl : r = false := by
        cases r
        · rfl
        · exact absurd (hr.1 rfl) HS.out
      have HB5 := Lib.hid (below_more HB3.out hb5 HB3.out.size)
      clear hr hb5
      go_wp2
      exact bodyPost_ret (v := .bool true) (by simp [results, Tryz.results5, go_sem]) rfl ⟨rfl, HB5.out⟩
end Go.Proofs.YtfbpjlfimmjieaaGreat

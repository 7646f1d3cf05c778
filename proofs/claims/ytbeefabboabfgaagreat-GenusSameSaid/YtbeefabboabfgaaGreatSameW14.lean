/- gypsumlaw14.GenusSame: the walk. -/
import Derived.Test.YtbeefabboabfgaaGreatSolid14
import Derived.Test.YtbeefabboabfgaaGreatTabSoup
import Derived.Test.YtbeefabboabfgaaGreatSameKinds
import Derived.Deep.RegionHeld3
namespace Go.Proofs.YtbeefabboabfgaaGreat
set_option linter.unusedVariables false
set_option linter.unusedSimpArgs false
open Go.RowKit
set_option maxRecDepth 100000 in
set_option maxHeartbeats 6000000 in
theorem sameW14 (N : Int) (ao : Option Addr) (cap : Nat) (T : List Tr) (M : Int) (bo : Option Addr) (cap' : Nat) (U : List Tr) (w : World) (hT : TrisAt w ao T) (hm : T.length ≤ 9223372036854775807) (hU : TrisAt w bo U) (hm' : U.length ≤ 9223372036854775807) :
    Calls Tryz.prog 4 #[.agg #[.int .i64 N, .slice ao T.length cap], .agg #[.int .i64 M, .slice bo U.length cap']] w fun e w' => e = .returned (.bool true) ∧ Below w.heap.size w w' := by
  obtain ⟨W0, hW0⟩ : ∃ W0, W0 = (w.alloc (.cells #[.int .i64 N, .slice ao T.length cap] 24)).alloc (.cells #[.int .i64 M, .slice bo U.length cap'] 24) := ⟨_, rfl⟩
  have hb0 : Below w.heap.size w W0 := by rw [hW0]; exact ((Below.refl _ _).alloc (Nat.le_refl _) _).alloc (by simp) _
  have hr0 : RowIs W0 w.heap.size 24 [.int .i64 N, .slice ao T.length cap] := by rw [hW0]; exact (RowIs.made w 24 [.int .i64 N, .slice ao T.length cap]).alloc _
  have hr1 : RowIs W0 (w.heap.size + 1) 24 [.int .i64 M, .slice bo U.length cap'] := by rw [hW0]; exact RowIs.made' _ _ [.int .i64 M, .slice bo U.length cap'] _ (by simp)
  have HT := Lib.hid (hT.mono (Nat.le_refl _) hb0)
  have HU := Lib.hid (hU.mono (Nat.le_refl _) hb0)
  obtain ⟨xb, hxb⟩ : ∃ x, x = w.heap.size := ⟨_, rfl⟩
  rw [← hxb] at hr0 hr1
  have HK := Lib.hid (show ∀ X, Below W0.heap.size W0 X → X.cell? ⟨xb, 0, none⟩ = some (.int .i64 N) ∧ X.cell? ⟨xb, 1, none⟩ = some (.slice ao T.length cap) ∧ X.cell? ⟨xb + 1, 0, none⟩ = some (.int .i64 M) ∧ X.cell? ⟨xb + 1, 1, none⟩ = some (.slice bo U.length cap') from fun X h => ⟨(hr0.after h).cell (i := 0) rfl, (hr0.after h).cell (i := 1) rfl, (hr1.after h).cell (i := 0) rfl, (hr1.after h).cell (i := 1) rfl⟩)
  have HM := Lib.hid hm
  have HM' := Lib.hid hm'
  have HB0 := Lib.hid hb0
  have HW0 := Lib.hid hW0
  have HXB := Lib.hid hxb
  clear hb0 hr0 hr1 hW0 hT hU hm hm' hxb
  go_enter Tryz.func4, Tryz.ntmps4
  go_upto_region 1 with fail
  simp only [← HXB.out]
  rw [← HW0.out]
  go_wp2_with fail
  refine (awake14 _).mono ?_
  rintro e w1 ⟨rfl, hb1⟩
  have HB1 := Lib.hid hb1
  obtain ⟨x0, x1, x2, x3⟩ := HK.out w1 hb1
  clear hb1
  go_wp2_with fail
  refine (great_any N ao cap T w1 HM.out).mono ?_
  rintro e w2 ⟨g, rfl, hg, hb2⟩
  have HB2 := Lib.hid (below_more HB1.out hb2 HB1.out.size)
  clear hb2 x0 x1 x2 x3 HB1
  obtain ⟨x0, x1, x2, x3⟩ := HK.out w2 HB2.out
  rcases hg with ⟨rfl, hl, hn, hn'⟩ | ⟨rfl, hno⟩
  case inr =>
    have HF := Lib.hid (below_more HB0.out HB2.out HB0.out.size)
    clear hno
    go_wp2
    exact bodyPost_ret (v := .bool true) (by simp [results, Tryz.results4, go_sem]) rfl ⟨rfl, HF.out⟩
  case inl =>
  have HL := Lib.hid (show T.length ≤ 8192 from by omega)
  clear hl hn hn'
  go_wp2_with fail
  refine (great_any M bo cap' U w2 HM'.out).mono ?_
  rintro e w3 ⟨g, rfl, hg, hb3⟩
  have HB3 := Lib.hid (below_more HB2.out hb3 HB2.out.size)
  clear hb3 x0 x1 x2 x3 HB2
  obtain ⟨x0, x1, x2, x3⟩ := HK.out w3 HB3.out
  rcases hg with ⟨rfl, hl, hn, hn'⟩ | ⟨rfl, hno⟩
  case inr =>
    have HF := Lib.hid (below_more HB0.out HB3.out HB0.out.size)
    clear hno
    go_wp2
    exact bodyPost_ret (v := .bool true) (by simp [results, Tryz.results4, go_sem]) rfl ⟨rfl, HF.out⟩
  case inl =>
  have HL' := Lib.hid (show U.length ≤ 8192 from by omega)
  clear hl hn hn'
  obtain ⟨E, p, hKE⟩ := kind_exists N T
  obtain ⟨F, q, hKF⟩ := kind_exists M U
  have HIA := Lib.hid (show ∀ X, Below W0.heap.size W0 X → Calls Tryz.prog 15 #[.agg #[.int .i64 N, .slice ao T.length cap]] X fun e w' => e = .returned (.bool p) ∧ Below X.heap.size X w' from fun X h =>
    (is_any N ao cap T X (HT.out.mono (Nat.le_refl _) h) HL.out).mono fun e w' ⟨r, h1, h2, h3⟩ => ⟨by rw [h1, show r = p from Bool.eq_iff_iff.2 (h2.trans hKE.ok.symm)], h3⟩)
  have HIB := Lib.hid (show ∀ X, Below W0.heap.size W0 X → Calls Tryz.prog 15 #[.agg #[.int .i64 M, .slice bo U.length cap']] X fun e w' => e = .returned (.bool q) ∧ Below X.heap.size X w' from fun X h =>
    (is_any M bo cap' U X (HU.out.mono (Nat.le_refl _) h) HL'.out).mono fun e w' ⟨r, h1, h2, h3⟩ => ⟨by rw [h1, show r = q from Bool.eq_iff_iff.2 (h2.trans hKF.ok.symm)], h3⟩)
  obtain ⟨wnt, hwnt⟩ : ∃ wnt, wnt = (p && (q && decide (E = F))) := ⟨_, rfl⟩
  have HAB := Lib.hid (show ∀ X, Below W0.heap.size W0 X → Calls Tryz.prog 17 #[.agg #[.int .i64 N, .slice ao T.length cap], .agg #[.int .i64 M, .slice bo U.length cap']] X fun e w' => e = .returned (.bool wnt) ∧ Below X.heap.size X w' from fun X h => by
    rw [hwnt]
    exact gsame_any N M ao bo cap cap' T U E F p q X (HT.out.mono (Nat.le_refl _) h) (HU.out.mono (Nat.le_refl _) h) HL.out HL'.out hKE hKF)
  have HBA := Lib.hid (show ∀ X, Below W0.heap.size W0 X → Calls Tryz.prog 17 #[.agg #[.int .i64 M, .slice bo U.length cap'], .agg #[.int .i64 N, .slice ao T.length cap]] X fun e w' => e = .returned (.bool wnt) ∧ Below X.heap.size X w' from fun X h => by
    have e : wnt = (q && (p && decide (F = E))) := by
      rw [hwnt]
      have : decide (E = F) = decide (F = E) := by rw [decide_eq_decide]; exact ⟨Eq.symm, Eq.symm⟩
      rw [this]
      cases p <;> cases q <;> rfl
    rw [e]
    exact gsame_any M N bo ao cap' cap U T F E q p X (HU.out.mono (Nat.le_refl _) h) (HT.out.mono (Nat.le_refl _) h) HL'.out HL.out hKF hKE)
  have HAA := Lib.hid (show ∀ X, Below W0.heap.size W0 X → Calls Tryz.prog 17 #[.agg #[.int .i64 N, .slice ao T.length cap], .agg #[.int .i64 N, .slice ao T.length cap]] X fun e w' => e = .returned (.bool p) ∧ Below X.heap.size X w' from fun X h => by
    have e : p = (p && (p && decide (E = E))) := by cases p <;> simp
    rw [e]
    have := gsame_any N N ao ao cap cap T T E E p p X (HT.out.mono (Nat.le_refl _) h) (HT.out.mono (Nat.le_refl _) h) HL.out HL.out hKE hKE
    simpa using this)
  have HREF := Lib.hid (show p = true → q = true → ∀ X, Below W0.heap.size W0 X → Calls Tryz.prog 16 #[.agg #[.int .i64 N, .slice ao T.length cap], .agg #[.int .i64 M, .slice bo U.length cap']] X fun e w' => e = .returned (.bool wnt) ∧ Below X.heap.size X w' from fun hp hq X h => by
    rcases hKE with ⟨n, m, L, rfl, hs, hL, hmm, hE, -⟩ | ⟨-, -, e⟩
    rotate_left
    · rw [hp] at e; cases e
    rcases hKF with ⟨n', m', L', rfl, hs', hL', hmm', hF, -⟩ | ⟨-, -, e⟩
    rotate_left
    · rw [hq] at e; cases e
    refine (same14 n n' ao bo cap cap' T U L L' m m' X (HT.out.mono (Nat.le_refl _) h) (HU.out.mono (Nat.le_refl _) h) hs hs' hL hL' hmm hmm').mono ?_
    rintro e w' ⟨r, h1, h2, h3⟩
    refine ⟨?_, h3⟩
    rw [h1, show r = wnt from ?_]
    rw [hwnt, hp, hq, hE, hF]
    refine Bool.eq_iff_iff.2 (h2.trans ?_)
    rw [← sortP_eq]
    simp)
  have HW3 := Lib.hid (show (p = false → wnt = false) ∧ (q = false → wnt = false) from ⟨fun h => by rw [hwnt, h]; rfl, fun h => by rw [hwnt, h]; cases p <;> rfl⟩)
  clear hwnt hKE hKF
  cases hp : p
  case false =>
    have hw0 := HW3.out.1 hp
    subst hp hw0
    have HIC := Lib.hid (HIA.out w3 HB3.out)
    go_wp2_with fail
    refine HIC.out.mono ?_
    rintro e w4 ⟨rfl, hb4⟩
    have HB4 := Lib.hid (below_more HB3.out hb4 HB3.out.size)
    clear hb4 x0 x1 x2 x3 HIC
    have HSAB := Lib.hid (show ∀ X, Hid (Below w4.heap.size w4 X) → Calls Tryz.prog 17 #[.agg #[.int .i64 N, .slice ao T.length cap], .agg #[.int .i64 M, .slice bo U.length cap']] X fun e w' => e = .returned (.bool false) ∧ Hid (Below w4.heap.size w4 w') from fun X h => (HAB.out X (below_more HB4.out h.out HB4.out.size)).mono fun e w' ⟨h1, h2⟩ => ⟨h1, below_more h.out h2 h.out.size⟩)
    have HSBA := Lib.hid (show ∀ X, Hid (Below w4.heap.size w4 X) → Calls Tryz.prog 17 #[.agg #[.int .i64 M, .slice bo U.length cap'], .agg #[.int .i64 N, .slice ao T.length cap]] X fun e w' => e = .returned (.bool false) ∧ Hid (Below w4.heap.size w4 w') from fun X h => (HBA.out X (below_more HB4.out h.out HB4.out.size)).mono fun e w' ⟨h1, h2⟩ => ⟨h1, below_more h.out h2 h.out.size⟩)
    have HSAA := Lib.hid (show ∀ X, Hid (Below w4.heap.size w4 X) → Calls Tryz.prog 17 #[.agg #[.int .i64 N, .slice ao T.length cap], .agg #[.int .i64 N, .slice ao T.length cap]] X fun e w' => e = .returned (.bool false) ∧ Hid (Below w4.heap.size w4 w') from fun X h => (HAA.out X (below_more HB4.out h.out HB4.out.size)).mono fun e w' ⟨h1, h2⟩ => ⟨h1, below_more h.out h2 h.out.size⟩)
    have HSI := Lib.hid (show ∀ X, Hid (Below w4.heap.size w4 X) → Calls Tryz.prog 15 #[.agg #[.int .i64 N, .slice ao T.length cap]] X fun e w' => e = .returned (.bool false) ∧ Hid (Below w4.heap.size w4 w') from fun X h => (HIA.out X (below_more HB4.out h.out HB4.out.size)).mono fun e w' ⟨h1, h2⟩ => ⟨h1, below_more h.out h2 h.out.size⟩)
    have HKW := Lib.hid (show ∀ X, Hid (Below w4.heap.size w4 X) → _ from fun X h => HK.out X (below_more HB4.out h.out HB4.out.size))
    have HRF := Lib.hid (Below.refl w4.heap.size w4)
    have HDR := Lib.hid (show Below w4.heap.size w4 w4.drew from ⟨rfl, rfl, rfl, Nat.le_refl _, fun _ _ => rfl⟩)
    have hww : (false == false) = true := by simp
    have hpp : (false == false) = true := by simp
    go_upto_region 8 with fail
    go_region_held3 (fun w' => w'.cell? ⟨xb, 0, none⟩ = some (.int .i64 N) ∧ w'.cell? ⟨xb, 1, none⟩ = some (.slice ao T.length cap) ∧ w'.cell? ⟨xb + 1, 0, none⟩ = some (.int .i64 M) ∧ w'.cell? ⟨xb + 1, 1, none⟩ = some (.slice bo U.length cap'))
      (exact HKW.out _ (by assumption))
      (first
        | (go_at_call 17; (with_reducible refine (HSAB.out _ (by assumption)).mono ?_); rintro e wa ⟨rfl, ha⟩)
        | (go_at_call 17; (with_reducible refine (HSBA.out _ (by assumption)).mono ?_); rintro e wb ⟨rfl, hb⟩)
        | (go_at_call 17; (with_reducible refine (HSAA.out _ (by assumption)).mono ?_); rintro e wc ⟨rfl, hc⟩)
        | (go_at_call 15; (with_reducible refine (HSI.out _ (by assumption)).mono ?_); rintro e wd ⟨rfl, hd⟩))
    all_goals
      have HF := Lib.hid (below_more HB0.out (below_more HB4.out hd.out HB4.out.size) HB0.out.size)
      go_wp2
      exact bodyPost_ret (v := .bool true) (by simp [results, Tryz.results4, go_sem]) rfl ⟨rfl, HF.out⟩
  case true =>
  cases hq : q
  case false =>
    have hw0 := HW3.out.2 hq
    subst hp hq hw0
    have HIC := Lib.hid (HIA.out w3 HB3.out)
    go_wp2_with fail
    refine HIC.out.mono ?_
    rintro e w4 ⟨rfl, hb4⟩
    have HB4 := Lib.hid (below_more HB3.out hb4 HB3.out.size)
    clear hb4 x0 x1 x2 x3 HIC
    obtain ⟨x0, x1, x2, x3⟩ := HK.out w4 HB4.out
    have HID := Lib.hid (HIB.out w4 HB4.out)
    go_wp2_with fail
    refine HID.out.mono ?_
    rintro e w5 ⟨rfl, hb5⟩
    have HB5 := Lib.hid (below_more HB4.out hb5 HB4.out.size)
    clear hb5 x0 x1 x2 x3 HID
    have HSAB := Lib.hid (show ∀ X, Hid (Below w5.heap.size w5 X) → Calls Tryz.prog 17 #[.agg #[.int .i64 N, .slice ao T.length cap], .agg #[.int .i64 M, .slice bo U.length cap']] X fun e w' => e = .returned (.bool false) ∧ Hid (Below w5.heap.size w5 w') from fun X h => (HAB.out X (below_more HB5.out h.out HB5.out.size)).mono fun e w' ⟨h1, h2⟩ => ⟨h1, below_more h.out h2 h.out.size⟩)
    have HSBA := Lib.hid (show ∀ X, Hid (Below w5.heap.size w5 X) → Calls Tryz.prog 17 #[.agg #[.int .i64 M, .slice bo U.length cap'], .agg #[.int .i64 N, .slice ao T.length cap]] X fun e w' => e = .returned (.bool false) ∧ Hid (Below w5.heap.size w5 w') from fun X h => (HBA.out X (below_more HB5.out h.out HB5.out.size)).mono fun e w' ⟨h1, h2⟩ => ⟨h1, below_more h.out h2 h.out.size⟩)
    have HSAA := Lib.hid (show ∀ X, Hid (Below w5.heap.size w5 X) → Calls Tryz.prog 17 #[.agg #[.int .i64 N, .slice ao T.length cap], .agg #[.int .i64 N, .slice ao T.length cap]] X fun e w' => e = .returned (.bool true) ∧ Hid (Below w5.heap.size w5 w') from fun X h => (HAA.out X (below_more HB5.out h.out HB5.out.size)).mono fun e w' ⟨h1, h2⟩ => ⟨h1, below_more h.out h2 h.out.size⟩)
    have HSI := Lib.hid (show ∀ X, Hid (Below w5.heap.size w5 X) → Calls Tryz.prog 15 #[.agg #[.int .i64 N, .slice ao T.length cap]] X fun e w' => e = .returned (.bool true) ∧ Hid (Below w5.heap.size w5 w') from fun X h => (HIA.out X (below_more HB5.out h.out HB5.out.size)).mono fun e w' ⟨h1, h2⟩ => ⟨h1, below_more h.out h2 h.out.size⟩)
    have HKW := Lib.hid (show ∀ X, Hid (Below w5.heap.size w5 X) → _ from fun X h => HK.out X (below_more HB5.out h.out HB5.out.size))
    have HRF := Lib.hid (Below.refl w5.heap.size w5)
    have HDR := Lib.hid (show Below w5.heap.size w5 w5.drew from ⟨rfl, rfl, rfl, Nat.le_refl _, fun _ _ => rfl⟩)
    have hww : (false == false) = true := by simp
    have hpp : (true == true) = true := by simp
    go_upto_region 8 with fail
    go_region_held3 (fun w' => w'.cell? ⟨xb, 0, none⟩ = some (.int .i64 N) ∧ w'.cell? ⟨xb, 1, none⟩ = some (.slice ao T.length cap) ∧ w'.cell? ⟨xb + 1, 0, none⟩ = some (.int .i64 M) ∧ w'.cell? ⟨xb + 1, 1, none⟩ = some (.slice bo U.length cap'))
      (exact HKW.out _ (by assumption))
      (first
        | (go_at_call 17; (with_reducible refine (HSAB.out _ (by assumption)).mono ?_); rintro e wa ⟨rfl, ha⟩)
        | (go_at_call 17; (with_reducible refine (HSBA.out _ (by assumption)).mono ?_); rintro e wb ⟨rfl, hb⟩)
        | (go_at_call 17; (with_reducible refine (HSAA.out _ (by assumption)).mono ?_); rintro e wc ⟨rfl, hc⟩)
        | (go_at_call 15; (with_reducible refine (HSI.out _ (by assumption)).mono ?_); rintro e wd ⟨rfl, hd⟩))
    all_goals
      have HF := Lib.hid (below_more HB0.out (below_more HB5.out hd.out HB5.out.size) HB0.out.size)
      go_wp2
      exact bodyPost_ret (v := .bool true) (by simp [results, Tryz.results4, go_sem]) rfl ⟨rfl, HF.out⟩
  case true =>
    subst hp hq
    have HRF1 := Lib.hid (HREF.out rfl rfl)
    have HIC := Lib.hid (HIA.out w3 HB3.out)
    go_wp2_with fail
    refine HIC.out.mono ?_
    rintro e w4 ⟨rfl, hb4⟩
    have HB4 := Lib.hid (below_more HB3.out hb4 HB3.out.size)
    clear hb4 x0 x1 x2 x3 HIC
    obtain ⟨x0, x1, x2, x3⟩ := HK.out w4 HB4.out
    have HID := Lib.hid (HIB.out w4 HB4.out)
    go_wp2_with fail
    refine HID.out.mono ?_
    rintro e w5 ⟨rfl, hb5⟩
    have HB5 := Lib.hid (below_more HB4.out hb5 HB4.out.size)
    clear hb5 x0 x1 x2 x3 HID
    obtain ⟨x0, x1, x2, x3⟩ := HK.out w5 HB5.out
    have HRC := Lib.hid (HRF1.out w5 HB5.out)
    go_wp2_with fail
    refine HRC.out.mono ?_
    rintro e w6 ⟨rfl, hb6⟩
    have HB6 := Lib.hid (below_more HB5.out hb6 HB5.out.size)
    clear hb6 x0 x1 x2 x3 HRC
    have HSAB := Lib.hid (show ∀ X, Hid (Below w6.heap.size w6 X) → Calls Tryz.prog 17 #[.agg #[.int .i64 N, .slice ao T.length cap], .agg #[.int .i64 M, .slice bo U.length cap']] X fun e w' => e = .returned (.bool wnt) ∧ Hid (Below w6.heap.size w6 w') from fun X h => (HAB.out X (below_more HB6.out h.out HB6.out.size)).mono fun e w' ⟨h1, h2⟩ => ⟨h1, below_more h.out h2 h.out.size⟩)
    have HSBA := Lib.hid (show ∀ X, Hid (Below w6.heap.size w6 X) → Calls Tryz.prog 17 #[.agg #[.int .i64 M, .slice bo U.length cap'], .agg #[.int .i64 N, .slice ao T.length cap]] X fun e w' => e = .returned (.bool wnt) ∧ Hid (Below w6.heap.size w6 w') from fun X h => (HBA.out X (below_more HB6.out h.out HB6.out.size)).mono fun e w' ⟨h1, h2⟩ => ⟨h1, below_more h.out h2 h.out.size⟩)
    have HSAA := Lib.hid (show ∀ X, Hid (Below w6.heap.size w6 X) → Calls Tryz.prog 17 #[.agg #[.int .i64 N, .slice ao T.length cap], .agg #[.int .i64 N, .slice ao T.length cap]] X fun e w' => e = .returned (.bool true) ∧ Hid (Below w6.heap.size w6 w') from fun X h => (HAA.out X (below_more HB6.out h.out HB6.out.size)).mono fun e w' ⟨h1, h2⟩ => ⟨h1, below_more h.out h2 h.out.size⟩)
    have HSI := Lib.hid (show ∀ X, Hid (Below w6.heap.size w6 X) → Calls Tryz.prog 15 #[.agg #[.int .i64 N, .slice ao T.length cap]] X fun e w' => e = .returned (.bool true) ∧ Hid (Below w6.heap.size w6 w') from fun X h => (HIA.out X (below_more HB6.out h.out HB6.out.size)).mono fun e w' ⟨h1, h2⟩ => ⟨h1, below_more h.out h2 h.out.size⟩)
    have HKW := Lib.hid (show ∀ X, Hid (Below w6.heap.size w6 X) → _ from fun X h => HK.out X (below_more HB6.out h.out HB6.out.size))
    have HRF := Lib.hid (Below.refl w6.heap.size w6)
    have HDR := Lib.hid (show Below w6.heap.size w6 w6.drew from ⟨rfl, rfl, rfl, Nat.le_refl _, fun _ _ => rfl⟩)
    have hww : (wnt == wnt) = true := by simp
    have hpp : (true == true) = true := by simp
    go_upto_region 8 with fail
    go_region_held3 (fun w' => w'.cell? ⟨xb, 0, none⟩ = some (.int .i64 N) ∧ w'.cell? ⟨xb, 1, none⟩ = some (.slice ao T.length cap) ∧ w'.cell? ⟨xb + 1, 0, none⟩ = some (.int .i64 M) ∧ w'.cell? ⟨xb + 1, 1, none⟩ = some (.slice bo U.length cap'))
      (exact HKW.out _ (by assumption))
      (first
        | (go_at_call 17; (with_reducible refine (HSAB.out _ (by assumption)).mono ?_); rintro e wa ⟨rfl, ha⟩)
        | (go_at_call 17; (with_reducible refine (HSBA.out _ (by assumption)).mono ?_); rintro e wb ⟨rfl, hb⟩)
        | (go_at_call 17; (with_reducible refine (HSAA.out _ (by assumption)).mono ?_); rintro e wc ⟨rfl, hc⟩)
        | (go_at_call 15; (with_reducible refine (HSI.out _ (by assumption)).mono ?_); rintro e wd ⟨rfl, hd⟩))
    all_goals
      have HF := Lib.hid (below_more HB0.out (below_more HB6.out hd.out HB6.out.size) HB0.out.size)
      go_wp2
      exact bodyPost_ret (v := .bool true) (by simp [results, Tryz.results4, go_sem]) rfl ⟨rfl, HF.out⟩
end Go.Proofs.YtbeefabboabfgaaGreat

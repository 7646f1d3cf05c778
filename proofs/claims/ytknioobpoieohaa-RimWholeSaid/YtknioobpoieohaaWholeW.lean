/- gypsumlaw40.RimWhole: the walk. -/
import Derived.Test.YtknioobpoieohaaWholeLaw
import Derived.Test.YtknioobpoieohaaBodySt
import Derived.Test.YtknioobpoieohaaAwake40
import Derived.BigQuiet
namespace Go.Proofs.Ytknioobpoieohaa
set_option linter.unusedVariables false
set_option linter.unusedSimpArgs false
open Go.RowKit
set_option maxRecDepth 100000 in
set_option maxHeartbeats 8000000 in
theorem whole_any (N : Int) (ao : Option Addr) (cap : Nat) (T : List Tr) (bo : Option Addr) (bcap : Nat) (bays : List Int) (w : World) (hT : TrisAt w ao T) (hTl : T.length ≤ 9223372036854775807) (hB : IntsAt w bo bays) (hBl : bays.length ≤ 9223372036854775807) (hBc : bays.length ≤ bcap) :
    Calls Try.prog 3 #[.agg #[.int .i64 N, .slice ao T.length cap], .slice bo bays.length bcap] w fun e w' => e = .returned (.bool true) ∧ Below w.heap.size w w' := by
  obtain ⟨W0, hW0⟩ : ∃ W0, W0 = w.alloc (.cells #[.int .i64 N, .slice ao T.length cap] 24) := ⟨_, rfl⟩
  have hb0 : Below w.heap.size w W0 := by rw [hW0]; exact (Below.refl _ _).alloc (Nat.le_refl _) _
  have hr0 : RowIs W0 w.heap.size 24 [.int .i64 N, .slice ao T.length cap] := by rw [hW0]; exact RowIs.made w 24 [.int .i64 N, .slice ao T.length cap]
  have HT := Lib.hid (hT.mono (Nat.le_refl _) hb0)
  have HB := Lib.hid (hB.mono (Nat.le_refl _) hb0)
  have HRI := Lib.hid (fun (X : World) (h1 : TrisAt X ao T) (h2 : IntsAt X bo bays) => right40 N ao cap T bo bcap bays X h1 h2)
  have HOFF := Lib.hid (fun (n : Nat) (X : World) (h1 : TrisAt X ao T) (h2 : IntsAt X bo bays) (hs : Surf n T) (hok : BaysOK T.length bays) => of40_ok n ao cap T bo bcap bays X h1 h2 hs hok)
  have HCU := Lib.hid (fun (n : Nat) (po : Option Addr) (pc : Nat) (q : Int) (X : World) (h1 : TrisAt X ao T) (h2 : TrisAt X po (ptsL n)) (h4 : IntsAt X bo bays) (hs : Surf n T) (hok : BaysOK T.length bays) => cut_ok n ao cap T po pc (ptsL n) none 0 [] bo bcap bays q X h1 h2 (fun e => absurd rfl e) h4 hs hok (ptsL_len n) (.inl rfl) (Nat.le_refl _))
  simp only [ptsL_len, List.length_nil] at HCU
  obtain ⟨xb, hxb⟩ : ∃ x, x = w.heap.size := ⟨_, rfl⟩
  obtain ⟨len, hlen⟩ : ∃ l, l = T.length := ⟨_, rfl⟩
  obtain ⟨bl, hbl⟩ : ∃ l, l = bays.length := ⟨_, rfl⟩
  rw [← hlen] at hW0 hr0 HRI HCU HOFF hTl ⊢
  rw [← hbl] at HRI HCU HOFF hBl hBc ⊢
  rw [← hxb] at hr0
  have HL := Lib.hid hlen
  have HBL := Lib.hid hbl
  have HXB := Lib.hid hxb
  have HW0 := Lib.hid hW0
  have HB0 := Lib.hid hb0
  have HR0 := Lib.hid hr0
  clear hT hB hb0 hr0 hW0 hlen hbl hxb
  go_enter Try.func3, Try.ntmps3
  go_upto_region 1 with fail
  rw [← HW0.out]
  go_wp2_with fail
  refine (awake40 _).mono ?_
  rintro e w1 ⟨rfl, hb1⟩
  have HB1 := Lib.hid (below_more HB0.out hb1 HB0.out.size)
  have HR1 := Lib.hid (HR0.out.after hb1)
  have HT1 := Lib.hid (HT.out.mono (Nat.le_refl _) hb1)
  have HBY1 := Lib.hid (HB.out.mono (Nat.le_refl _) hb1)
  have c0 := HR1.out.cell (i := 0) rfl
  have c1 := HR1.out.cell (i := 1) rfl
  rw [← HXB.out]
  clear hb1 HR0 HT HB HB0 HW0
  go_wp2_with fail
  refine (HRI.out w1 HT1.out HBY1.out).mono ?_
  rintro e w2 ⟨r, rfl, hsay, hb2⟩
  have HB2 := Lib.hid (below_more HB1.out hb2 HB1.out.size)
  have HR2 := Lib.hid (HR1.out.after hb2)
  have HT2 := Lib.hid (HT1.out.mono (Nat.le_refl _) hb2)
  have HBY2 := Lib.hid (HBY1.out.mono (Nat.le_refl _) hb2)
  have HS := Lib.hid hsay
  clear c0 c1 hb2 hsay HR1 HT1 HBY1 HB1 HRI
  have c0 := HR2.out.cell (i := 0) rfl
  have c1 := HR2.out.cell (i := 1) rfl
  cases r
  · go_wp2
    exact bodyPost_ret (v := .bool true) (by simp [results, Try.results3, go_sem]) rfl ⟨rfl, HB2.out⟩
  have hright := HS.out.1 rfl
  obtain ⟨hg, hs, hok⟩ := hright
  have hlen30 : len ≤ 30 := by have := HL.out; unfold grB at hg; simp at hg; omega
  have HSURF0 := Lib.hid hs
  have HOK := Lib.hid hok
  clear hg hs hok HS
  obtain ⟨n, rfl⟩ := Int.eq_ofNat_of_zero_le HSURF0.out.n0
  have HSURF := HSURF0
  clear HSURF0
  have hn : n ≤ 4096 := by have := HSURF.out.n1; omega
  have HOF := Lib.hid (HOFF.out n w2 HT2.out HBY2.out HSURF.out (by rw [HL.out]; exact HOK.out))
  obtain ⟨R, hR⟩ : ∃ R, R = rimL T bays n := ⟨_, rfl⟩
  obtain ⟨nr, hnr⟩ : ∃ l, l = R.length := ⟨_, rfl⟩
  rw [← hR, ← hnr] at HOF
  have hnrn : nr ≤ n := by rw [hnr, hR]; exact rimL_le _ _ _
  have HRD := Lib.hid hR
  have HNR := Lib.hid hnr
  clear hR hnr HOFF
  go_wp2_with fail
  refine HOF.out.mono ?_
  rintro e w3 ⟨aR, cR, rfl, hRA, hb3⟩
  have HB3 := Lib.hid (below_more HB2.out hb3 HB2.out.size)
  have HR3 := Lib.hid (HR2.out.after hb3)
  have HT3 := Lib.hid (HT2.out.mono (Nat.le_refl _) hb3)
  have HBY3 := Lib.hid (HBY2.out.mono (Nat.le_refl _) hb3)
  have HRA := Lib.hid hRA
  clear c0 c1 hb3 hRA HR2 HT2 HBY2 HB2 HOF
  have c0 := HR3.out.cell (i := 0) rfl
  obtain ⟨i0, hi, hz0, hz1, hz2⟩ := info_parts info4
  go_wp2_with (at_make; refine wpList_make_full _ rfl _ _ _ rfl w3.heap.size 4 i0 (.bool false) 1 (by kernel_rfl) hi hz0 hz1 _ _ _ _ n rfl rfl rfl rfl (by rw [hz2]; omega) (by unfold maxLen; omega) (Nat.le_refl _) ?_)
  intro w4 hown hgrow
  rw [madeCells_bv, ← onN_zero R] at hown
  have HON := Lib.hid (RowIs.of_owns hown)
  have HB4 := Lib.hid (show Below w3.heap.size w3 w4 from (Below.refl _ _).grown hgrow (Nat.le_refl _) (by simp))
  clear hown hgrow c0 hi hz0 hz1 hz2 i0
  go_wp2
  go_loopw [8] (fun c ws => ∃ i : Nat, i ≤ nr ∧ c = .int .i64 i ∧ RowIs ws w3.heap.size 4 (bv (onN R i) n) ∧ Below w3.heap.size w3 ws) (fun c _ => nr - (intOf c).toNat)
  case atStart => exact ⟨0, by omega, rfl, HON.out, HB4.out⟩
  case round =>
  clear HON HB4
  obtain ⟨i, hi, rfl, hr, hb⟩ := hrel
  obtain ⟨X, rfl⟩ : ∃ X : World, X = wr := ⟨_, rfl⟩
  by_cases hlt : i < nr
  case pos =>
    have hiR : i < R.length := by rw [← HNR.out]; exact hlt
    obtain ⟨rb, roff, q, hE, hq, hqc, -, -⟩ := HRA.out.get (Nat.le_refl _) hb (i := i) (by simpa using hiR)
    subst hE
    obtain ⟨v, hv⟩ : ∃ v, v = R[i] := ⟨_, rfl⟩
    have hqv : q = (v : Int) := by rw [← hq.out, hv]; simp [I!, List.getD_eq_getElem?_getD, hiR]
    subst hqv
    have hget : R[i]? = some v := by rw [List.getElem?_eq_getElem hiR, hv]
    have hvn : v < n := by
      have hm : v ∈ R := List.mem_of_getElem? hget
      rw [HRD.out] at hm
      exact (rimL_mem.1 hm).1
    have e0 := hr.cell (bv_get (onN R i) hvn)
    have ef := hr.free v
    have HR8 := Lib.hid (show RowIs (X.setCell ⟨w3.heap.size, v, none⟩ (.bool true)) w3.heap.size 4 (bv (onN R (i + 1)) n) from by
      have := hr.set v (.bool true)
      rw [bv_set, onN_step hget] at this
      exact this)
    have HB8 := Lib.hid (show Below w3.heap.size w3 (X.setCell ⟨w3.heap.size, v, none⟩ (.bool true)) from hb.setCell (Nat.le_refl _) _)
    clear hr hb hq hv hget
    as_aux_lemma =>
    go_wp2
    go_roundw
    case rel => exact ⟨i + 1, by omega, by go_num, HR8.out, HB8.out⟩
    case measure => simp [intOf]; omega
  case neg =>
  obtain rfl : nr = i := by omega
  have hron : RowIs X w3.heap.size 4 (bv (fun v => decide (v ∈ R)) n) := by
    have : onN R nr = fun v => decide (v ∈ R) := by funext v; rw [HNR.out]; exact onN_all R v
    rw [← this]; exact hr
  have HON := Lib.hid hron
  have HBX := Lib.hid (below_more HB3.out hb HB3.out.size)
  have HRX := Lib.hid (HR3.out.after hb)
  have HTX := Lib.hid (HT3.out.mono (Nat.le_refl _) hb)
  have HBYX := Lib.hid (HBY3.out.mono (Nat.le_refl _) hb)
  have HRAX := Lib.hid (HRA.out.mono (Nat.le_refl _) hb)
  have hgonX : w3.heap.size < X.heap.size := hron.lt
  clear hr hb hron HR3 HT3 HBY3 HRA HB3 hlt
  have HK5 := Lib.hid (show ∀ w', Below X.heap.size X w' → w'.cell? ⟨xb, 0, none⟩ = some (.int .i64 (n : Int)) ∧ w'.cell? ⟨xb, 1, none⟩ = some (.slice ao len cap) from fun w' hb => ⟨(HRX.out.after hb).cell (i := 0) rfl, (HRX.out.after hb).cell (i := 1) rfl⟩)
  have HPT := Lib.hid (fun X : World => points40 n X (by omega))
  go_upto_region 13 with fail
  go_cut [9] (fun s7 wc => ∃ (bb : Nat) (po : Option Addr) (pc : Nat), s7 = .pointer (some ⟨bb, 0, none⟩) ∧ BodyAt wc bb n ao len cap po pc none 0 0 (ptsL n) ∧ Below X.heap.size X wc)
  case first =>
    as_aux_lemma =>
    go_region_held3 (fun w' => w'.cell? ⟨xb, 0, none⟩ = some (.int .i64 (n : Int)) ∧ w'.cell? ⟨xb, 1, none⟩ = some (.slice ao len cap))
      (exact HK5.out _ (by repeat (first | with_reducible exact Below.refl _ _ | with_reducible apply bel_alloc | with_reducible apply bel_drew | (with_reducible refine set4_below ?_ (by first | exact Nat.le_refl _ | exact hbA.size | (have q9 := hbA.size; simp only [World.size_alloc, show ∀ X : World, X.drew.heap.size = X.heap.size from fun _ => rfl] at q9 ⊢; omega)) _ _ _ _) | (with_reducible refine bel_step ?_ hbA))))
      (first | (go_at_call 8; (with_reducible refine (HPT.out _).mono ?_); rintro e wA ⟨aA, cA, rfl, hA, hbA⟩; (try (have hY := RowIs.after (show RowIs _ _ 35 [.int .i64 0, .slice none 0 0, .slice none 0 0, .slice none 0 0] from by (repeat (first | exact RowIs.made' _ _ _ _ (by first | rfl | simp) | with_reducible apply RowIs.drew1 | with_reducible apply RowIs.alloc))) hbA; (try simp only [World.size_alloc] at hY); have q0 := hY.cell (i := 0) rfl; have q1 := hY.cell (i := 1) rfl; have q2 := hY.cell (i := 2) rfl; have q3 := hY.cell (i := 3) rfl; have qf0 := hY.free 0; have qf1 := hY.free 1; have qf2 := hY.free 2; have qf3 := hY.free 3; try simp only [World.size_alloc] at q0 q1 q2 q3 qf0 qf1 qf2 qf3))))
    all_goals
      go_wp2
      go_meet
      try (have hY' : RowIs _ _ _ brow := hY)
      first
      | with_reducible exact ⟨_, aA, cA, rfl, body_alloc (by repeat (first | exact hA | with_reducible apply tris_drew | with_reducible apply tris_alloc)), by repeat (first | with_reducible exact Below.refl _ _ | with_reducible apply bel_alloc | with_reducible apply bel_drew | (with_reducible refine bel_step ?_ hbA))⟩
      | with_reducible exact ⟨_, aA, cA, rfl, body_store hY' (by repeat (first | exact hA | with_reducible apply tris_drew | with_reducible apply tris_alloc)), set4_below (by repeat (first | with_reducible exact Below.refl _ _ | with_reducible apply bel_alloc | with_reducible apply bel_drew | (with_reducible refine bel_step ?_ hbA))) (by have q1 := hbA.size; simp only [World.size_alloc, show ∀ X : World, X.drew.heap.size = X.heap.size from fun _ => rfl] at q1 ⊢; omega) _ _ _ _⟩
  case rest =>
  obtain ⟨bb, po, pc, rfl, hbody, hb5⟩ := hcut
  obtain ⟨W5, rfl⟩ : ∃ X : World, X = wc := ⟨_, rfl⟩
  have HBODY := Lib.hid hbody
  have HB5 := Lib.hid (below_more HBX.out hb5 HBX.out.size)
  have HR5 := Lib.hid (HRX.out.after hb5)
  have HT5 := Lib.hid (HTX.out.mono (Nat.le_refl _) hb5)
  have HBY5 := Lib.hid (HBYX.out.mono (Nat.le_refl _) hb5)
  have HRA5 := Lib.hid (HRAX.out.mono (Nat.le_refl _) hb5)
  have HON5 := Lib.hid (HON.out.after hb5)
  have hgon : w3.heap.size < W5.heap.size := HON5.out.lt
  have hbb5 : bb < W5.heap.size := hbody.1.lt
  have hxb5 : xb < W5.heap.size := HR5.out.lt
  clear hbody hb5 HRX HTX HBYX HRAX HON HBX HK5 HPT hgonX
  obtain ⟨i0, hi, hz0, hz1, hz2⟩ := info_parts info3
  have c0 := HR5.out.cell (i := 0) rfl
  go_wp2_with (at_make; refine wpList_make_full _ rfl _ _ _ rfl W5.heap.size 3 i0 (.int .i64 0) 1 (by kernel_rfl) hi hz0 hz1 _ _ _ _ n rfl rfl rfl rfl (by rw [hz2]; omega) (by unfold maxLen; omega) (Nat.le_refl _) ?_)
  intro w6 hown hgrow
  rw [madeCells_iv] at hown
  have HM6 := Lib.hid (show RowIs w6 W5.heap.size 3 (iv (fun (v : Nat) => (cntV T bays 0 v : Int)) n) from by
    rw [iv_congr (h := fun _ => 0) (fun i _ => by simp only [cntV_zero HOK.out]; rfl)]
    exact RowIs.of_owns hown)
  have HB6 := Lib.hid (show Below W5.heap.size W5 w6 from (Below.refl _ _).grown hgrow (Nat.le_refl _) (by simp))
  clear hown hgrow c0 hi hz0 hz1 hz2 i0
  go_wp2
  go_loopw [12, 11] (fun c s ws => ∃ k : Nat, k ≤ 256 ∧ c = .int .i64 k ∧ s = .int .i64 (seenN bays T.length k : Nat) ∧ RowIs ws W5.heap.size 3 (iv (fun (v : Nat) => (cntV T bays k v : Int)) n) ∧ Below W5.heap.size W5 ws) (fun c _ _ => 256 - (intOf c).toNat)
  case atStart => exact ⟨0, by omega, rfl, by rw [seenN_zero HOK.out]; rfl, HM6.out, HB6.out⟩
  case round =>
  clear HM6 HB6
  obtain ⟨k, hk, rfl, rfl, hr, hb⟩ := hrel
  obtain ⟨X2, rfl⟩ : ∃ X : World, X = wr := ⟨_, rfl⟩
  obtain ⟨sn, hsn⟩ : ∃ s, s = seenN bays T.length k := ⟨_, rfl⟩
  have hsn30 : sn ≤ len := by rw [hsn, HL.out]; exact Nat.le_trans List.countP_le_length (by simp)
  rw [← hsn]
  have HSN := Lib.hid hsn
  have hgX : W5.heap.size < X2.heap.size := hr.lt
  clear hsn
  by_cases hlt : k < 256
  case neg =>
    obtain rfl : k = 256 := by omega
    have HM := Lib.hid hr
    have HBX := Lib.hid hb
    have HRX := Lib.hid (HR5.out.after hb)
    have HONX := Lib.hid (HON5.out.after hb)
    have hsnl : sn = len := by rw [HSN.out, HL.out]; exact seenN_all HOK.out
    have HALL := Lib.hid (show ∀ v : Nat, v < n → (v ∈ R → 2 ≤ cntV T bays 256 v) ∧ (v ∉ R → cntV T bays 256 v = 1) from fun v hv => by
      have h := cntV_all HSURF.out HOK.out hv
      refine ⟨fun h1 => h.1 (by rw [HRD.out] at h1; exact (rimL_mem.1 h1).2), fun h1 => h.2 ?_⟩
      cases hm : manyB T bays v
      · rfl
      · exact absurd (by rw [HRD.out]; exact rimL_mem.2 ⟨hv, hm⟩) h1)
    clear hr hb hsn30
    subst hsnl
    as_aux_lemma =>
    go_wp2
    go_loopw [20] (fun c ws => ∃ v : Nat, v ≤ n ∧ c = .int .i64 v ∧ ws = X2) (fun c _ => n - (intOf c).toNat)
    case atStart => exact ⟨0, by omega, rfl, rfl⟩
    case round =>
    obtain ⟨v, hv, rfl, rfl⟩ := hrel
    obtain ⟨X2, rfl⟩ : ∃ X : World, X = wr := ⟨_, rfl⟩
    have c0 := HRX.out.cell (i := 0) rfl
    have c1 := HRX.out.cell (i := 1) rfl
    by_cases hvn : v < n
    case pos =>
      have hall := HALL.out v hvn
      have q0 := HM.out.cell (iv_get (fun (v : Nat) => (cntV T bays 256 v : Int)) hvn)
      have q1 := HONX.out.cell (bv_get (fun v => decide (v ∈ R)) hvn)
      obtain ⟨cv, hcv⟩ : ∃ x, x = cntV T bays 256 v := ⟨_, rfl⟩
      rw [← hcv] at q0 hall
      clear hcv
      by_cases hin : v ∈ R
      · have h2 := hall.1 hin
        rw [decide_eq_true hin] at q1
        have d0 : decide ((cv : Int) < 2) = false := by simp; omega
        clear hall hin
        go_wp2
        go_roundw
        case rel => exact ⟨v + 1, by omega, by go_num, by trivial⟩
        case measure => simp [intOf]; omega
      · have h2 := hall.2 hin
        rw [decide_eq_false hin] at q1
        subst h2
        clear hall hin
        go_wp2
        go_roundw
        case rel => exact ⟨v + 1, by omega, by go_num, by trivial⟩
        case measure => simp [intOf]; omega
    case neg =>
      obtain rfl : v = n := by omega
      have HBF := Lib.hid (below_more HB5.out HBX.out HB5.out.size)
      go_wp2
      exact bodyPost_ret (v := .bool true) (by simp [results, Try.results3, go_sem]) rfl ⟨rfl, HBF.out⟩
  case pos =>
  have hbd := HBODY.out.more hb
  have p0 := hbd.1.cell (i := 0) rfl
  have p1 := hbd.1.cell (i := 1) rfl
  have p2 := hbd.1.cell (i := 2) rfl
  have p3 := hbd.1.cell (i := 3) rfl
  have HCUT := Lib.hid (HCU.out n po pc k X2 (HT5.out.mono (Nat.le_refl _) hb) hbd.2 (HBY5.out.mono (Nat.le_refl _) hb) HSURF.out (by rw [HL.out]; exact HOK.out))
  have HR := Lib.hid hr
  have HB := Lib.hid hb
  clear hr hb hbd
  go_wp2_with fail
  refine HCUT.out.mono ?_
  rintro e wA ⟨hcase, hbA⟩
  have HBA := Lib.hid (below_more HB.out hbA HB.out.size)
  have HMA := Lib.hid (HR.out.after hbA)
  have hgA : W5.heap.size < wA.heap.size := HMA.out.lt
  clear p0 p1 p2 p3 HCUT hbA HR HB
  rcases hcase with ⟨hnot, rfl⟩ | ⟨hin, L, F, a1, a2, a3, a4, a5, c1, c2, c3, c4, c5, l1, l2, l3, l4, l5, hcut, rfl, hnew, e1, h1, e2, h2, e3, h3, e4, h4, e5, h5⟩
  · have hs1 : seenN bays T.length (k + 1) = sn := by rw [seenN_succ, sel_none hnot (by rw [HOK.out.1]; exact Nat.le_refl _), HSN.out]; rfl
    have HR8 := Lib.hid (show ∀ o, RowIs (wA.alloc o) W5.heap.size 3 (iv (fun (v : Nat) => (cntV T bays (k + 1) v : Int)) n) from fun o => by
      rw [iv_congr (h := fun (v : Nat) => (cntV T bays k v : Int)) (fun i _ => by simp only [cntV_none hnot HOK.out])]
      exact HMA.out.alloc o)
    have HB8 := Lib.hid (show ∀ o, Below W5.heap.size W5 (wA.alloc o) from fun o => HBA.out.alloc (by omega) o)
    clear hnot
    unfold zeroLocal
    as_aux_lemma =>
    go_wp2
    go_roundw
    case rel => exact ⟨k + 1, by omega, by go_num, by rw [hs1], HR8.out _, HB8.out _⟩
    case measure => simp [intOf]; omega
  obtain ⟨m, hm⟩ : ∃ m, m = F.length := ⟨_, rfl⟩
  obtain ⟨M, hM⟩ : ∃ M, M = (sel bays (k : Int) T.length).length := ⟨_, rfl⟩
  have q1 : M = l1 := by rw [hM, e1]; simp [cutT]
  have q4 : m = l4 := by rw [hm, e4]; simp [cutV]
  have q5 : m = l5 := by rw [hm, e5]; simp [cutR]
  subst q1
  subst q4
  subst q5
  rw [← hm]
  have hM30 : M ≤ 30 := by have := sel_le bays (k : Int) T.length; have := HL.out; omega
  have hm90 : m ≤ 90 := by have := hcut.len; have := HL.out; omega
  obtain ⟨Y, hY⟩ : ∃ Y, Y = wA.alloc (.cells #[.int .i64 (m : Int), .slice a1 M c1, .slice a2 l2 c2, .slice a3 l3 c3, .slice a4 m c4, .slice a5 m c5] 37) := ⟨_, rfl⟩
  have hyA : Below wA.heap.size wA Y := by rw [hY]; exact (Below.refl _ _).alloc (Nat.le_refl _) _
  have hloc : RowIs Y wA.heap.size 37 [.int .i64 (m : Int), .slice a1 M c1, .slice a2 l2 c2, .slice a3 l3 c3, .slice a4 m c4, .slice a5 m c5] := by rw [hY]; exact RowIs.made wA _ [_, _, _, _, _, _]
  have HIS := Lib.hid (show Calls Try.prog 10 #[.agg #[.int .i64 (m : Int), .slice a1 M c1]] Y (BoolPost (Surf m (cutT bays k L F T.length)) Y) from by
    have := is15 (m : Int) a1 c1 (cutT bays k L F T.length) Y (h1.mono (Nat.le_refl _) hyA) (by rw [← e1]; omega)
    rw [← e1] at this
    exact this)
  have HSF := Lib.hid (show Surf m (cutT bays k L F T.length) from by rw [hm]; exact hcut.surf HSURF.out (by have := HL.out; omega))
  have hlb : wA.heap.size < Y.heap.size := hloc.lt
  have HLOC := Lib.hid hloc
  have HYB := Lib.hid (show Below W5.heap.size W5 Y from below_more HBA.out hyA HBA.out.size)
  have HMY := Lib.hid (HMA.out.after hyA)
  have HA1 := Lib.hid (h1.mono (Nat.le_refl _) hyA)
  have HA2 := Lib.hid (h2.mono (Nat.le_refl _) hyA)
  have HA4 := Lib.hid (h4.mono (Nat.le_refl _) hyA)
  have HA5 := Lib.hid (h5.mono (Nat.le_refl _) hyA)
  have HNEW := Lib.hid hnew
  have HCI := Lib.hid hcut
  have HMF := Lib.hid hm
  have HMM := Lib.hid hM
  have HE1 := Lib.hid e1
  have HE2 := Lib.hid e2
  have HY := Lib.hid hY
  obtain ⟨lb, hlbE⟩ : ∃ x, x = wA.heap.size := ⟨_, rfl⟩
  rw [← hlbE] at HLOC hlb hgA
  have HLB := Lib.hid hlbE
  clear hin hcut hnew e1 h1 e2 h2 e3 h3 e4 h4 e5 h5 hm hM hY hyA hloc HMA HBA hlbE
  go_wp2_with fail
  rw [← HY.out, ← HLB.out]
  refine HIS.out.mono ?_
  rintro e w8 ⟨r, rfl, hsay, hb8⟩
  obtain rfl : r = true := hsay.2 HSF.out
  have HB8 := Lib.hid (below_more HYB.out hb8 HYB.out.size)
  have HL8 := Lib.hid (HLOC.out.after hb8)
  have HM8 := Lib.hid (HMY.out.after hb8)
  have HA18 := Lib.hid (HA1.out.mono (Nat.le_refl _) hb8)
  have HA28 := Lib.hid (HA2.out.mono (Nat.le_refl _) hb8)
  have HA48 := Lib.hid (HA4.out.mono (Nat.le_refl _) hb8)
  have HA58 := Lib.hid (HA5.out.mono (Nat.le_refl _) hb8)
  have HX8 := Lib.hid (HR5.out.after HB8.out)
  have HT8 := Lib.hid (HT5.out.mono (Nat.le_refl _) HB8.out)
  have HBY8 := Lib.hid (HBY5.out.mono (Nat.le_refl _) HB8.out)
  have y0 := HL8.out.cell (i := 0) rfl
  have y4 := HL8.out.cell (i := 4) rfl
  have y5 := HL8.out.cell (i := 5) rfl
  have hlb8 : lb < w8.heap.size := HL8.out.lt
  clear hsay hb8 HSF HIS HYB HMY HLOC HA1 HA2 HA4 HA5 HY HLB hlb
  go_wp2
  clear y0 y4 y5
  go_loopw [16, 15, 11] (fun a b c ws => ∃ t : Nat, t ≤ len ∧ a = .int .i64 t ∧ b = .int .i64 ((sel bays (k : Int) t).length : Nat) ∧ c = .int .i64 (sn + (sel bays (k : Int) t).length : Nat) ∧ Below w8.heap.size w8 ws) (fun a _ _ _ => len - (intOf a).toNat)
  case atStart => exact ⟨0, by omega, rfl, rfl, by simp [sel], Below.refl _ _⟩
  case round =>
  obtain ⟨t, ht, rfl, rfl, rfl, hbt⟩ := hrel
  obtain ⟨Z, rfl⟩ : ∃ X : World, X = wr := ⟨_, rfl⟩
  obtain ⟨s, hs⟩ : ∃ s, s = (sel bays (k : Int) t).length := ⟨_, rfl⟩
  have hst : s ≤ t := by rw [hs]; exact sel_le _ _ _
  rw [← hs]
  obtain ⟨ss, hss⟩ : ∃ x, x = sn + s := ⟨_, rfl⟩
  have hss60 : ss ≤ 60 := by omega
  rw [← hss]
  have x1 := (HX8.out.after hbt).cell (i := 1) rfl
  have HLZ := Lib.hid (HL8.out.after hbt)
  have y1 := HLZ.out.cell (i := 1) rfl
  by_cases htl : t < len
  case pos =>
    as_aux_lemma =>
    have htb : t < bays.length := by have := HOK.out.1; have := HL.out; omega
    have htbl : t < bl := by rw [HBL.out]; exact htb
    obtain ⟨yb, yoff, q, hE, hq, hqc, hy1, hy2⟩ := HBY8.out.get (Nat.le_refl _) hbt (i := t) htb
    subst hE
    by_cases hqk : q = (k : Int)
    · subst hqk
      have htT : t < T.length := by have := HL.out; omega
      have hsx := sel_at hq.out htT
      rw [← hs] at hsx
      have hsM : s < M := by rw [HMM.out]; exact (List.getElem?_eq_some_iff.1 hsx).1
      obtain ⟨u0, u1, u2, hu, hu0, hu1, hu2, hTt⟩ := HCI.out.back HSURF.out htT hq.out
      have hTs : T! (cutT bays k L F T.length) s = cutTri L F t := cutT_get T hsx
      obtain ⟨b1, o1, z0, z1, z2, hE1, hz, g0, g1, g2, -, hb1⟩ := HA18.out.get (Nat.le_refl _) hbt (i := s) (by rw [← HE1.out]; exact hsM)
      subst hE1
      have hzz : z0 = u0 ∧ z1 = u1 ∧ z2 = u2 := by
        have := hz.out
        rw [hTs, hu] at this
        simp only [Prod.mk.injEq] at this
        exact ⟨this.1.symm, this.2.1.symm, this.2.2.symm⟩
      obtain ⟨rfl, rfl, rfl⟩ := hzz
      obtain ⟨b0, o0, x, y, z, hE0, hxyz, f0, f1, f2, -, hb0⟩ := HT8.out.get (Nat.le_refl _) hbt (i := t) htT
      subst hE0
      have hxx := hTt.symm.trans hxyz.out
      simp only [Prod.mk.injEq] at hxx
      rw [← HMF.out] at hu0 hu1 hu2
      have hVl : (cutV T F).length = m := by rw [HMF.out]; simp [cutV]
      obtain ⟨b4, o4, rfl, hb4, hc4⟩ := HA48.out (fun e => by rw [e] at hVl; simp at hVl; omega)
      have hb4Z : b4 < Z.heap.size := by have := hbt.size; omega
      have v0 : Z.cell? ⟨b4, o4 + u0, none⟩ = some (.int .i64 x) := (hbt.cell (p := ⟨b4, _, none⟩) hb4).trans (by rw [hc4 u0 (by omega), hxx.1])
      have v1 : Z.cell? ⟨b4, o4 + u1, none⟩ = some (.int .i64 y) := (hbt.cell (p := ⟨b4, _, none⟩) hb4).trans (by rw [hc4 u1 (by omega), hxx.2.1])
      have v2 : Z.cell? ⟨b4, o4 + u2, none⟩ = some (.int .i64 z) := (hbt.cell (p := ⟨b4, _, none⟩) hb4).trans (by rw [hc4 u2 (by omega), hxx.2.2])
      have d0 : decide ((s : Int) ≥ (M : Int)) = false := by simp; omega
      have d1 : decide ((M : Int) ≤ (s : Int)) = false := by simp; omega
      have y4 := HLZ.out.cell (i := 4) rfl
      have hsel : (sel bays (k : Int) (t + 1)).length = s + 1 := by rw [sel_succ, if_pos hq.out, List.length_append, ← hs]; rfl
      have HSEL := Lib.hid hsel
      have HSS := Lib.hid hss
      have HBT := Lib.hid hbt
      have hlbZ : lb < Z.heap.size := HLZ.out.lt
      have hxbZ : xb < Z.heap.size := (HX8.out.after hbt).lt
      clear hs hss hq hsx hu hTt hTs hz hxyz hxx hVl hc4 hsel hbt
      go_upto_region 31 with fail
      obtain ⟨Z9, hZ9⟩ : ∃ Y, Y = Z.alloc (.cells #[.int .i64 (u0 : Int), .int .i64 (u1 : Int), .int .i64 (u2 : Int)] 42) := ⟨_, rfl⟩
      have hbz : Below Z.heap.size Z Z9 := by rw [hZ9]; exact (Below.refl _ _).alloc (Nat.le_refl _) _
      have htri : RowIs Z9 Z.heap.size 42 [.int .i64 (u0 : Int), .int .i64 (u1 : Int), .int .i64 (u2 : Int)] := by rw [hZ9]; exact RowIs.made Z _ [_, _, _]
      rw [← hZ9]
      obtain ⟨tb, htbE⟩ : ∃ x, x = Z.heap.size := ⟨_, rfl⟩
      rw [← htbE] at htri
      rw [← htbE]
      have tc0 := htri.cell (i := 0) rfl
      have tc1 := htri.cell (i := 1) rfl
      have tc2 := htri.cell (i := 2) rfl
      have k1 := (hbz.cell (p := ⟨xb, _, none⟩) hxbZ).trans x1
      have k4 := (hbz.cell (p := ⟨lb, _, none⟩) hlbZ).trans y4
      have m0 := (hbz.cell (p := ⟨b0, _, none⟩) hb0).trans f0
      have m1 := (hbz.cell (p := ⟨b0, _, none⟩) hb0).trans f1
      have m2 := (hbz.cell (p := ⟨b0, _, none⟩) hb0).trans f2
      have n0 := (hbz.cell (p := ⟨b4, _, none⟩) hb4Z).trans v0
      have n1 := (hbz.cell (p := ⟨b4, _, none⟩) hb4Z).trans v1
      have n2 := (hbz.cell (p := ⟨b4, _, none⟩) hb4Z).trans v2
      have HBT9 := Lib.hid (show ∀ q, Below w8.heap.size w8 (Z9.drewN q) from fun q => below_more (below_more HBT.out hbz HBT.out.size) (⟨rfl, rfl, rfl, Nat.le_refl _, fun _ _ => rfl⟩ : Below Z9.heap.size Z9 (Z9.drewN q)) (below_more HBT.out hbz HBT.out.size).size)
      clear hZ9 hbz htri x1 y1 y4 f0 f1 f2 g0 g1 g2 v0 v1 v2 htbE hqc
      have htq : ∀ w, (Op.equalIn 10000 42 (.agg #[.int .i64 x, .int .i64 y, .int .i64 z]) (.agg #[.int .i64 x, .int .i64 y, .int .i64 z])).run Try.prog w = .ok true w := fun w => by rw [tri_equal]; simp
      go_quiet (fail)
      go_wp2
      go_roundw
      case rel => exact ⟨t + 1, by omega, by go_num, by rw [HSEL.out]; go_num, by rw [HSEL.out, show sn + (s + 1) = ss + 1 by have := HSS.out; omega]; go_num, HBT9.out _⟩
      case measure => simp [intOf]; omega
    · have hsel : (sel bays (k : Int) (t + 1)).length = s := by rw [sel_succ, if_neg (by rw [hq.out]; exact hqk), ← hs]
      have d0 : (q != (k : Int)) = true := by simpa using hqk
      have d1 : (q == (k : Int)) = false := by simpa using hqk
      have HSEL := Lib.hid hsel
      have HSS := Lib.hid hss
      have HBT := Lib.hid hbt
      clear hqk hs hss hsel hbt
      go_wp2
      go_roundw
      case rel => exact ⟨t + 1, by omega, by go_num, by rw [HSEL.out], by rw [HSEL.out, HSS.out], HBT.out⟩
      case measure => simp [intOf]; omega
  case neg =>
  obtain rfl : len = t := by omega
  obtain rfl : M = s := by rw [HMM.out, hs, HL.out]
  have HSS := Lib.hid hss
  have HBZ := Lib.hid (below_more HB8.out hbt HB8.out.size)
  have HMZ := Lib.hid (HM8.out.after hbt)
  have HA2Z := Lib.hid (HA28.out.mono (Nat.le_refl _) hbt)
  have HA4Z := Lib.hid (HA48.out.mono (Nat.le_refl _) hbt)
  have HA5Z := Lib.hid (HA58.out.mono (Nat.le_refl _) hbt)
  clear hs hss hbt HM8 HA18 HA28 HA48 HA58 HX8 HT8 HBY8 HL8 HB8 htl
  go_wp2
  clear x1 y1
  go_loopw [18] (fun c ws => ∃ i : Nat, i ≤ m ∧ c = .int .i64 i ∧ RowIs ws W5.heap.size 3 (iv (cntI T bays k (cutV T F) i) n) ∧ Off W5.heap.size Z ws ∧ Below W5.heap.size W5 ws) (fun c _ => m - (intOf c).toNat)
  case atStart => exact ⟨0, by omega, rfl, by rw [cntI_zero]; exact HMZ.out, Off.refl _ _, HBZ.out⟩
  case round =>
  obtain ⟨i, hi, rfl, hr, hoff, hb⟩ := hrel
  obtain ⟨Q, rfl⟩ : ∃ X : World, X = wr := ⟨_, rfl⟩
  have hlbg : lb ≠ W5.heap.size := by omega
  have y4 := (hoff lb 4 hlbg).trans (HLZ.out.cell (i := 4) rfl)
  by_cases him : i < m
  case neg =>
    obtain rfl : m = i := by omega
    have HRF := Lib.hid (show RowIs Q W5.heap.size 3 (iv (fun (v : Nat) => (cntV T bays (k + 1) v : Int)) n) from by rw [← cntI_all HCI.out HOK.out HMF.out]; exact hr)
    have HBF := Lib.hid hb
    have hs1 : seenN bays T.length (k + 1) = ss := by rw [seenN_succ, ← HSN.out, ← HMM.out, HSS.out]
    have HS1 := Lib.hid hs1
    clear hr hb hoff hs1
    as_aux_lemma =>
    go_wp2
    go_roundw
    case rel => exact ⟨k + 1, by omega, by go_num, by rw [HS1.out], HRF.out, HBF.out⟩
    case measure => simp [intOf]; omega
  case pos =>
  have hgT : w3.heap.size ≠ W5.heap.size := by omega
  obtain ⟨v, hvn, hV, hRm, hP⟩ := HCI.out.nth (P := ptsL n) HSURF.out (i := i) (by rw [← HMF.out]; exact him)
  rw [ptsL_get hvn] at hP
  have hVl : (cutV T F).length = m := by rw [HMF.out]; simp [cutV]
  have hPl : (cutP (ptsL n) T F).length = m := by rw [HMF.out]; simp [cutP]
  have hRl : (cutR T bays n F).length = m := by rw [HMF.out]; simp [cutR]
  obtain ⟨b4, o4, rfl, hb4, hc4⟩ := HA4Z.out (fun e => by rw [e] at hVl; simp at hVl; omega)
  obtain ⟨b2, o2, rfl, hb2, hc2⟩ := HA2Z.out (fun e => by rw [e] at hPl; simp at hPl; omega)
  obtain ⟨b5, o5, rfl, hb5, hc5⟩ := HA5Z.out (fun e => by rw [e] at hRl; simp at hRl; omega)
  have hn4 : b4 ≠ W5.heap.size := by have : X2.heap.size ≤ b4 := HNEW.out.2.2.2.1 _ rfl; omega
  have hn2 : b2 ≠ W5.heap.size := by have : X2.heap.size ≤ b2 := HNEW.out.2.1 _ rfl; omega
  have hn5 : b5 ≠ W5.heap.size := by have : X2.heap.size ≤ b5 := HNEW.out.2.2.2.2 _ rfl; omega
  obtain ⟨pb, pof, rfl, hpb, hcp⟩ := HBODY.out.2 (fun e => by have := ptsL_len n; rw [e] at this; simp at this; omega)
  have q4 := hc4 i (by omega)
  have q5 := hc5 i (by omega)
  obtain ⟨q2, q2', q2''⟩ := hc2 i (by omega)
  obtain ⟨qp, qp', qp''⟩ := hcp v (by rw [ptsL_len]; exact hvn)
  rw [hV] at q4
  rw [hRm] at q5
  rw [hP] at q2 q2' q2''
  rw [ptsL_get hvn] at qp qp' qp''
  simp only at q2 q2' q2'' qp qp' qp''
  have hle2 : l2 = m := by rw [HE2.out, hPl]
  subst hle2
  have v4 := (hoff b4 (o4 + i) hn4).trans q4
  have g0 := hr.cell (iv_get (cntI T bays k (cutV T F) i) hvn)
  have gf := hr.free v
  have hcl := cntI_le T bays k (cutV T F) i v
  have hstep := cntI_step (T := T) (bays := bays) (k := k) (by omega) hV
  obtain ⟨cc, hcc⟩ : ∃ x, x = cntI T bays k (cutV T F) i v := ⟨_, rfl⟩
  rw [← hcc] at g0 hcl hstep
  have hcc0 : 0 ≤ cc := hcl.1
  have hcc1 : cc ≤ 200 := by have := hcl.2; have := HL.out; omega
  have HR9 := Lib.hid (show RowIs (Q.setCell ⟨W5.heap.size, v, none⟩ (.int .i64 (cc + 1))) W5.heap.size 3 (iv (cntI T bays k (cutV T F) (i + 1)) n) from by
    have := hr.set v (.int .i64 (cc + 1))
    rw [iv_set, hstep] at this
    exact this)
  have hoff9 : Off W5.heap.size Z (Q.setCell ⟨W5.heap.size, v, none⟩ (.int .i64 (cc + 1))) := hoff.set v _
  have hb9 : Below W5.heap.size W5 (Q.setCell ⟨W5.heap.size, v, none⟩ (.int .i64 (cc + 1))) := hb.setCell (Nat.le_refl _) _
  obtain ⟨Q9, hQ9⟩ : ∃ Y, Y = Q.setCell ⟨W5.heap.size, v, none⟩ (.int .i64 (cc + 1)) := ⟨_, rfl⟩
  rw [← hQ9] at HR9 hoff9 hb9
  have HQ9 := Lib.hid hQ9
  clear hr hoff hb hcc hcl hstep hQ9 hc4 hc2 hc5 hcp hV hP hVl hPl hRl q4
  as_aux_lemma =>
  go_upto_region 42 with fail
  rw [← HQ9.out]
  have r2 := (hoff9 b2 (o2 + i * 3) hn2).trans q2
  have r2' := (hoff9 b2 (o2 + i * 3 + 1) hn2).trans q2'
  have r2'' := (hoff9 b2 (o2 + i * 3 + 2) hn2).trans q2''
  have r5 := (hoff9 b5 (o5 + i) hn5).trans q5
  have rp := (hb9.cell (p := ⟨pb, _, none⟩) hpb).trans qp
  have rp' := (hb9.cell (p := ⟨pb, _, none⟩) hpb).trans qp'
  have rp'' := (hb9.cell (p := ⟨pb, _, none⟩) hpb).trans qp''
  have yl2 := (hoff9 lb 2 hlbg).trans (HLZ.out.cell (i := 2) rfl)
  have yl5 := (hoff9 lb 5 hlbg).trans (HLZ.out.cell (i := 5) rfl)
  have yb2 := (HBODY.out.more hb9).1.cell (i := 2) rfl
  have yon := (HON5.out.after hb9).cell (bv_get (fun v => decide (v ∈ R)) hvn)
  have hpq : ∀ w, (Op.equalIn 10000 43 (.agg #[.int .i64 (v : Int), .int .i64 (-(v : Int)), .int .i64 7]) (.agg #[.int .i64 (v : Int), .int .i64 (-(v : Int)), .int .i64 7])).run Try.prog w = .ok true w := fun w => by rw [pt_equal]; simp
  have HB9 := Lib.hid (show ∀ q, Below W5.heap.size W5 (Q9.drewN q) from fun q => below_more hb9 (⟨rfl, rfl, rfl, Nat.le_refl _, fun _ _ => rfl⟩ : Below Q9.heap.size Q9 (Q9.drewN q)) hb9.size)
  have HOF9 := Lib.hid (show ∀ q, Off W5.heap.size Z (Q9.drewN q) from fun q => hoff9)
  have HRQ := Lib.hid (show ∀ q, RowIs (Q9.drewN q) W5.heap.size 3 (iv (cntI T bays k (cutV T F) (i + 1)) n) from fun q => HR9.out)
  by_cases hin : v ∈ R
  · rw [decide_eq_true hin] at yon
    obtain ⟨ρ, hρ, hρl, hρg⟩ := idx_on hin
    rw [← HRD.out, hρ] at r5
    have hrl : (R.map fun (x : Nat) => (x : Int)).length = nr := by rw [List.length_map, HNR.out]
    obtain ⟨rb, rof, rfl, hrb, hcr⟩ := (HRA5.out.mono (Nat.le_refl _) hb9) (fun e => by rw [e] at hrl; simp at hrl; have := HNR.out; omega)
    have rr := hcr ρ (by rw [List.length_map]; exact hρl)
    have hρn : ρ < nr := by rw [HNR.out]; exact hρl
    rw [show I! (R.map fun (x : Nat) => (x : Int)) ρ = (v : Int) by simp [I!, List.getD_eq_getElem?_getD, hρg]] at rr
    have d0 : decide ((ρ : Int) ≥ 0) = true := by simp
    have d1 : decide (0 ≤ (ρ : Int)) = true := by simp
    clear hoff9 hb9 q2 q2' q2'' q5 qp qp' qp'' hcr hρ hρl hρg hin hrl hRm v4 g0 y4
    go_quiet (fail)
    go_wp2
    go_roundw
    case rel => exact ⟨i + 1, by omega, by go_num, HRQ.out _, HOF9.out _, HB9.out _⟩
    case measure => simp [intOf]; omega
  · rw [decide_eq_false hin] at yon
    rw [← HRD.out, idx_off hin] at r5
    clear hoff9 hb9 q2 q2' q2'' q5 qp qp' qp'' hin hRm v4 g0 y4
    go_quiet (fail)
    go_wp2
    go_roundw
    case rel => exact ⟨i + 1, by omega, by go_num, HRQ.out _, HOF9.out _, HB9.out _⟩
    case measure => simp [intOf]; omega
end Go.Proofs.Ytknioobpoieohaa

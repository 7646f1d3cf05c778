/- gypsumref40.Cut of a surface with right bays: the walk. -/
import Derived.Test.YtknioobpoieohaaGreatRowLaw40
import Derived.Test.YtknioobpoieohaaGreatRefOf40
import Derived.Test.YtknioobpoieohaaGreatRef15
import Derived.BigQuiet
namespace Go.Proofs.YtknioobpoieohaaGreat
set_option linter.unusedVariables false
set_option linter.unusedSimpArgs false
open Go.RowKit
theorem infoPt9 : (Tryz.prog.info? 80).map (fun i => (i.zero, i.size, i.bytes)) = some (some (.agg #[.int .i64 0, .int .i64 0, .int .i64 0]), 3, 24) := by kernel_rfl
/-- What gypsumref40.Cut tells. -/
def RefCutPost (n : Nat) (T P : List Tr) (K bays : List Int) (bay : Int) (w : World) (e : Ending) (w' : World) : Prop :=
  ∃ (L : Nat → Int) (F : List Nat) (a1 a2 a3 a4 a5 : Option Addr) (c1 c2 c3 c4 c5 : Nat), IsLeast (SAdj T (I! bays)) (3 * T.length) L ∧ F = rowL T bays bay L n ∧
    e = .returned (.tuple #[.agg #[.int .i64 (F.length : Int), .slice a1 (cutT bays bay L F T.length).length c1, .slice a2 (cutP P T F).length c2, .slice a3 (cutK K bays bay T.length).length c3, .slice a4 (cutV T F).length c4, .slice a5 (cutR T bays n F).length c5], .bool (decide (0 < (cutT bays bay L F T.length).length))]) ∧
    TrisAt w' a1 (cutT bays bay L F T.length) ∧ TrisAt w' a2 (cutP P T F) ∧ IntsAt w' a3 (cutK K bays bay T.length) ∧ IntsAt w' a4 (cutV T F) ∧ IntsAt w' a5 (cutR T bays n F) ∧ Below w.heap.size w w'
set_option maxRecDepth 100000 in
set_option maxHeartbeats 4000000 in
theorem refcut40 (n : Nat) (ao : Option Addr) (cap : Nat) (T : List Tr) (po : Option Addr) (pcap : Nat) (P : List Tr) (ko : Option Addr) (kcap : Nat) (K : List Int) (bo : Option Addr) (bcap : Nat) (bays : List Int) (bay : Int) (w : World)
    (hT : TrisAt w ao T) (hP : TrisAt w po P) (hK : IntsAt w ko K) (hB : IntsAt w bo bays) (hs : Surf n T) (hok : BaysOK T.length bays) (hPl : P.length = n) (hKl : K.length = 0 ∨ K.length = 3 * T.length) (hl : T.length ≤ 1000) (hn : n ≤ 10000) :
    Calls Tryz.prog 16 #[.agg #[.int .i64 (n : Int), .slice ao T.length cap, .slice po P.length pcap, .slice ko K.length kcap], .slice bo bays.length bcap, .int .i64 bay] w (RefCutPost n T P K bays bay w) := by
  obtain ⟨W0, hW0⟩ : ∃ W0, W0 = ((w.alloc (.cells #[.int .i64 (n : Int), .slice ao T.length cap, .slice po P.length pcap, .slice ko K.length kcap] 28)).alloc (.cells #[.int .i64 0, .slice none 0 0, .slice none 0 0, .slice none 0 0, .slice none 0 0, .slice none 0 0] 37)).alloc (.cells #[.int .i64 0, .slice none 0 0, .slice none 0 0, .slice none 0 0, .slice none 0 0, .slice none 0 0] 37) := ⟨_, rfl⟩
  have hb0 : Below w.heap.size w W0 := by rw [hW0]; exact (((Below.refl _ _).alloc (Nat.le_refl _) _).alloc (by simp) _).alloc (by simp; omega) _
  have hs0 : W0.heap.size = w.heap.size + 3 := by rw [hW0]; simp
  have hr0 : RowIs W0 w.heap.size 28 [.int .i64 (n : Int), .slice ao T.length cap, .slice po P.length pcap, .slice ko K.length kcap] := by
    rw [hW0]; exact ((RowIs.made w 28 [.int .i64 (n : Int), .slice ao T.length cap, .slice po P.length pcap, .slice ko K.length kcap]).alloc _).alloc _
  have hr1 : RowIs W0 (w.heap.size + 1) 37 [.int .i64 0, .slice none 0 0, .slice none 0 0, .slice none 0 0, .slice none 0 0, .slice none 0 0] := by
    rw [hW0]; exact (RowIs.made' _ _ [.int .i64 0, .slice none 0 0, .slice none 0 0, .slice none 0 0, .slice none 0 0, .slice none 0 0] _ (by simp)).alloc _
  have hr2 : RowIs W0 (w.heap.size + 2) 37 [.int .i64 0, .slice none 0 0, .slice none 0 0, .slice none 0 0, .slice none 0 0, .slice none 0 0] := by
    rw [hW0]; exact RowIs.made' _ _ [.int .i64 0, .slice none 0 0, .slice none 0 0, .slice none 0 0, .slice none 0 0, .slice none 0 0] _ (by simp)
  have HSI := Lib.hid (refsides40 n ao cap T bo bcap bays W0 (hT.mono (Nat.le_refl _) hb0) (hB.mono (Nat.le_refl _) hb0) hs hok hl)
  have HOF := Lib.hid (show ∀ X, Below W0.heap.size W0 X → _ from fun X hX => refof40 n ao cap T bo bcap bays X ((hT.mono (Nat.le_refl _) hb0).mono (Nat.le_refl _) hX) ((hB.mono (Nat.le_refl _) hb0).mono (Nat.le_refl _) hX) hn hl hok)
  have HV := Lib.hid (fun (c : Nat) (X : World) (h : TrisAt X ao T) (hc : c < 3 * T.length) => v15 n ao cap T c X h (by omega) hc)
  have HLOW := Lib.hid (show ∀ X, Below (w.heap.size + 2) W0 X → RowIs X w.heap.size 28 [.int .i64 (n : Int), .slice ao T.length cap, .slice po P.length pcap, .slice ko K.length kcap] ∧ RowIs X (w.heap.size + 1) 37 [.int .i64 0, .slice none 0 0, .slice none 0 0, .slice none 0 0, .slice none 0 0, .slice none 0 0] ∧ TrisAt X ao T ∧ TrisAt X po P ∧ IntsAt X ko K ∧ IntsAt X bo bays ∧ Below w.heap.size w X from fun X hX => by
    have h1 : Below w.heap.size w X := hb0.trans (hX.mono (by omega))
    exact ⟨hr0.below hX (by omega), hr1.below hX (by omega), hT.mono (Nat.le_refl _) h1, hP.mono (Nat.le_refl _) h1, hK.mono (Nat.le_refl _) h1, hB.mono (Nat.le_refl _) h1, h1⟩)
  have HS := Lib.hid hs
  have HOK := Lib.hid hok
  obtain ⟨len, hlen⟩ : ∃ l, l = T.length := ⟨_, rfl⟩
  obtain ⟨kl, hkl⟩ : ∃ l, l = K.length := ⟨_, rfl⟩
  obtain ⟨l3, hl3⟩ : ∃ l, l = 3 * T.length := ⟨_, rfl⟩
  have hbe : bays.length = T.length := hok.1
  have hklb : kl = 0 ∨ kl = l3 := by rw [hkl, hl3]; exact hKl
  have h3l : l3 = 3 * len := by omega
  obtain ⟨xb, hxb⟩ : ∃ x, x = w.heap.size := ⟨_, rfl⟩
  simp only [← hl3] at HSI HV
  simp only [hbe] at HSI HOF
  rw [hbe]
  rw [hPl] at hW0 HLOW ⊢
  simp only [← hlen, ← hkl, ← hxb] at hW0 HLOW HSI HOF HV hr2 hs0 ⊢
  have hl' : len ≤ 1000 := by omega
  have HL := Lib.hid hlen
  have HKL := Lib.hid hkl
  have HL3 := Lib.hid hl3
  have HBL := Lib.hid (show bays.length = len from by rw [hlen]; exact hbe)
  have HPL := Lib.hid hPl
  have HXB := Lib.hid hxb
  have HW0 := Lib.hid hW0
  have HB0 := Lib.hid hb0
  have HS0 := Lib.hid hs0
  have HR2 := Lib.hid hr2
  have HKLB := Lib.hid hklb
  clear hT hP hK hB hs hok hPl hKl hl hlen hkl hl3 hbe hxb hW0 hb0 hs0 hr0 hr1 hr2 hklb
  go_enter Tryz.func16, Tryz.ntmps16
  go_upto_region 2 with fail
  simp only [← HXB.out]
  rw [← HW0.out]
  obtain ⟨hb, -, -, -, -, -, -⟩ := HLOW.out W0 (Below.refl _ _)
  have c0 := hb.cell (i := 0) rfl
  have c1 := hb.cell (i := 1) rfl
  clear hb
  go_wp2_with fail
  refine HSI.out.mono ?_
  rintro e w1 ⟨g, L, rfl, hg, hrL, hleast, hb1⟩
  clear c0 c1
  obtain ⟨hb, -, -, -, -, -, -⟩ := HLOW.out w1 (hb1.mono (by have := HS0.out; omega))
  have c0 := hb.cell (i := 0) rfl
  have c1 := hb.cell (i := 1) rfl
  have HOF1 := Lib.hid (HOF.out w1 hb1)
  have HB1 := Lib.hid hb1
  have HRL := Lib.hid hrL
  have HLE := Lib.hid hleast
  have HGG := Lib.hid hg
  clear hb hg hrL hleast hb1
  go_wp2_with fail
  refine HOF1.out.mono ?_
  rintro e w2 ⟨v2, rfl, hown2, hb2⟩
  obtain ⟨W2, rfl⟩ : ∃ X : World, X = w2 := ⟨_, rfl⟩
  obtain ⟨ra, rc, hve⟩ := owns_slice hown2
  subst hve
  obtain ⟨lr, hlr⟩ : ∃ l, l = (rimL T bays n).length := ⟨_, rfl⟩
  obtain ⟨R, hR⟩ : ∃ R, R = rimL T bays n := ⟨_, rfl⟩
  obtain ⟨B, hBB⟩ : ∃ B, B = W2.heap.size := ⟨_, rfl⟩
  have hb12 : Below W0.heap.size W0 W2 := below_more HB1.out hb2 HB1.out.size
  have HROW := Lib.hid (show ∀ X, But B (xb + 2) W2 X → RowIs X g 3 (iv L l3) ∧ IntsAt X ra (nl R) from fun X hX => by
    have h1 : RowIs W2 g 3 (iv L l3) := HRL.out.after hb2
    have h2 : IntsAt W2 ra (nl R) := by rw [hR]; exact owns_nl hown2
    have hs0 := HS0.out
    have hg1 := HGG.out
    refine ⟨hX.row h1 (by rw [hBB]; exact h1.lt) (by omega), fun hne => ?_⟩
    obtain ⟨b, off, rfl, hlt, hc⟩ := h2 hne
    have hob := hown2.lt b rfl
    have := HB1.out.size
    refine ⟨b, off, rfl, by have := hX.size; omega, fun i hi => ?_⟩
    rw [hX.cell (by omega) (by omega)]
    exact hc i hi)
  have HLO2 := Lib.hid (show ∀ X, Below (xb + 2) W2 X → RowIs X xb 28 [.int .i64 (n : Int), .slice ao len cap, .slice po n pcap, .slice ko kl kcap] ∧ RowIs X (xb + 1) 37 [.int .i64 0, .slice none 0 0, .slice none 0 0, .slice none 0 0, .slice none 0 0, .slice none 0 0] ∧ TrisAt X ao T ∧ TrisAt X po P ∧ IntsAt X ko K ∧ IntsAt X bo bays ∧ Below xb w X from fun X hX => HLOW.out X ((hb12.mono (by have := HS0.out; omega)).trans hX))
  have HRS := Lib.hid (show RS W2 W2 (xb + 2) B 0 (.slice none 0 0) (.slice none 0 0) (.slice none 0 0) (.slice none 0 0) (.slice none 0 0) (.slice none 0 0) 0 0 0 0 0 0 [] [] [] [] [] [] from by
    refine ⟨HR2.out.below hb12 HR2.out.lt, ⟨fun r hr => ?_, ?_⟩, But.refl _ _ _, by have := HS0.out; have := hb12.size; omega, by omega⟩
    · simp only [List.mem_cons, List.not_mem_nil, or_false] at hr
      rcases hr with rfl | rfl | rfl | rfl | rfl | rfl <;> exact World.ownsRow_nil _ _ _ _
    · simp [Apart, Value.ownBlock])
  have hlrb : lr ≤ n := by rw [hlr]; exact rimL_le T bays n
  have HRR := Lib.hid (show R.Nodup ∧ R.length = lr ∧ nl R = nl (rimL T bays n) from ⟨by rw [hR]; exact List.Pairwise.filter _ List.nodup_range, by rw [hR, hlr], by rw [hR]⟩)
  rw [← hlr]
  obtain ⟨i0, hi, hz0, hz1, hz2⟩ := info_parts info3
  obtain ⟨iq, hiq, hy0, hy1, hy2⟩ := info_parts infoPt9
  obtain ⟨it, hit, ht0, ht1, ht2⟩ := info_parts info49
  have HBB := Lib.hid hBB
  clear c0 c1 hown2 hb2 hb12 hlr hR hBB HSI HOF HOF1 HB1 HRL HR2
  go_wp2
  go_loopw [11, 12] (fun u j ws => ∃ (v nF : Nat) (F : List Nat) (vP vV vR : Value), v ≤ n ∧ j = .int .i64 v ∧ F = rowL T bays bay L v ∧ nF = F.length ∧ RS W2 ws (xb + 2) B 0 (.slice none 0 0) vP (.slice none 0 0) vV vR u 0 nF 0 nF nF nF [] (cutP P T F) [] (cutV T F) (cutR T bays n F) F) (fun _ j _ => n - (intOf j).toNat)
  case atStart => exact ⟨0, 0, [], _, _, _, by omega, rfl, rfl, rfl, HRS.out⟩
  case round =>
  clear HRS
  obtain ⟨v, nF, F, vP, vV, vR, hv, rfl, hF, hnF, hst⟩ := hrel
  obtain ⟨X, rfl⟩ : ∃ X : World, X = wr := ⟨_, rfl⟩
  have HST := Lib.hid hst
  have HF := Lib.hid hF
  have HNF := Lib.hid hnF
  obtain ⟨hb, -, -, -, -, -, -⟩ := HLO2.out X hst.low
  have c0 := hb.cell (i := 0) rfl
  have c1 := hb.cell (i := 1) rfl
  obtain ⟨fa, fc, hue⟩ := owns_slice hst.rowF
  subst hue
  clear hb hst hF hnF
  by_cases hvn : v < n
  case neg =>
    obtain rfl : n = v := by omega
    have hnFb : nF ≤ 40000000 := by
      have h1 := rowL_le (T := T) (bays := bays) (bay := bay) (L := L) (by have := HL.out; omega) n
      rw [HNF.out, HF.out]
      omega
    have HFN := Lib.hid (show F.Nodup from by rw [HF.out]; exact rowL_nodup T bays bay L n)
    have HMEM := Lib.hid (show ∀ c, c < l3 → I! bays (c / 3) = bay → 0 ≤ L c ∧ (L c).toNat ∈ F from fun c hc hb => by
      rw [HL3.out] at hc
      rw [HF.out]
      have := rowL_has HS.out (by rw [← HL3.out]; exact HLE.out) hc hb
      exact ⟨this.1, this.2.2⟩)
    have d0 := HST.out.row.cell (i := 0) rfl
    have f0 := HST.out.row.free 0
    obtain ⟨W9, hW9⟩ : ∃ W9, W9 = X.setCell ⟨xb + 2, 0, none⟩ (.int .i64 (nF : Int)) := ⟨_, rfl⟩
    have HST9 := Lib.hid (show RS W2 W9 (xb + 2) B (nF : Int) (.slice none 0 0) vP (.slice none 0 0) vV vR (.slice fa nF fc) 0 nF 0 nF nF nF [] (cutP P T F) [] (cutV T F) (cutR T bays n F) F from by rw [hW9]; exact HST.out.setN (nF : Int))
    have HW9 := Lib.hid hW9
    clear hW9 HST hvn
    go_upto_region 23 with fail
    rw [← HW9.out]
    clear d0 f0 c0 c1
    have hmx9 := HST9.out.mx
    obtain ⟨hb, -, -, -, -, -, -⟩ := HLO2.out W9 HST9.out.low
    have c1 := hb.cell (i := 1) rfl
    clear hb
    go_wp2
    clear c1
    go_loopw [16] (fun j ws => ∃ (t nT nK : Nat) (vT vK : Value), t ≤ len ∧ j = .int .i64 t ∧ nT ≤ t ∧ nK ≤ 3 * t ∧ nT = (cutT bays bay L F t).length ∧ nK = (cutK K bays bay t).length ∧ RS W2 ws (xb + 2) B (nF : Int) vT vP vK vV vR (.slice fa nF fc) nT nF nK nF nF nF (cutT bays bay L F t) (cutP P T F) (cutK K bays bay t) (cutV T F) (cutR T bays n F) F) (fun j _ => len - (intOf j).toNat)
    case atStart => exact ⟨0, 0, 0, _, _, by omega, rfl, by omega, by omega, by rw [cutT_zero]; rfl, by rw [cutK_zero]; rfl, by rw [cutT_zero, cutK_zero]; exact HST9.out⟩
    case round =>
    clear HST9 HW9
    obtain ⟨t, nT, nK, vT, vK, ht, rfl, hnT, hnK, hTl, hKl, hst⟩ := hrel
    obtain ⟨X, rfl⟩ : ∃ X : World, X = wr := ⟨_, rfl⟩
    have HST := Lib.hid hst
    have HTL := Lib.hid hTl
    have HKLL := Lib.hid hKl
    obtain ⟨hb, -, -, -, -, hBX, -⟩ := HLO2.out X hst.low
    have c1 := hb.cell (i := 1) rfl
    clear hb hst hTl hKl
    by_cases htl : t < len
    case neg =>
      obtain rfl : len = t := by omega
      have HBF := Lib.hid (HLO2.out X HST.out.low)
      obtain ⟨aT, cT, hv⟩ := owns_slice HST.out.rowT
      subst hv
      obtain ⟨aP, cP, hv⟩ := owns_slice HST.out.rowP
      subst hv
      obtain ⟨aK, cK, hv⟩ := owns_slice HST.out.rowK
      subst hv
      obtain ⟨aV, cV, hv⟩ := owns_slice HST.out.rowV
      subst hv
      obtain ⟨aR, cR, hv⟩ := owns_slice HST.out.rowR
      subst hv
      have p0 := HST.out.row.cell (i := 0) rfl
      have p1 := HST.out.row.cell (i := 1) rfl
      have p2 := HST.out.row.cell (i := 2) rfl
      have p3 := HST.out.row.cell (i := 3) rfl
      have p4 := HST.out.row.cell (i := 4) rfl
      have p5 := HST.out.row.cell (i := 5) rfl
      have z0 := HBF.out.2.1.cell (i := 0) rfl
      have z1 := HBF.out.2.1.cell (i := 1) rfl
      have z2 := HBF.out.2.1.cell (i := 2) rfl
      have z3 := HBF.out.2.1.cell (i := 3) rfl
      have z4 := HBF.out.2.1.cell (i := 4) rfl
      have z5 := HBF.out.2.1.cell (i := 5) rfl
      have zf := fun i => HBF.out.2.1.free i
      obtain ⟨gb, hgb⟩ : ∃ b, b = decide (0 < nT) := ⟨_, rfl⟩
      have d3 : decide (0 < nT) = gb := hgb.symm
      have d4 : decide ((0 : Int) < (nT : Int)) = gb := by rw [hgb]; simp
      have d5 : decide ((nT : Int) > 0) = gb := by rw [hgb]; simp
      have HGB := Lib.hid hgb
      have htl' : decide ((len : Int) < (len : Int)) = false := by simp
      clear hgb hBX htl
      obtain ⟨YF, hYF⟩ : ∃ Y, Y = ((((((X.setCell ⟨xb + 1, 0, none⟩ (.int .i64 (nF : Int))).setCell ⟨xb + 1, 1, none⟩ (.slice aT nT cT)).setCell ⟨xb + 1, 2, none⟩ (.slice aP nF cP)).setCell ⟨xb + 1, 3, none⟩ (.slice aK nK cK)).setCell ⟨xb + 1, 4, none⟩ (.slice aV nF cV)).setCell ⟨xb + 1, 5, none⟩ (.slice aR nF cR)) := ⟨_, rfl⟩
      have hgF : X.grownBy YF (some (xb + 1)) := by rw [hYF]; exact grown_set6 X (xb + 1) (.int .i64 (nF : Int)) (.slice aT nT cT) (.slice aP nF cP) (.slice aK nK cK) (.slice aV nF cV) (.slice aR nF cR)
      have hrF : RowIs YF (xb + 1) 37 [.int .i64 (nF : Int), .slice aT nT cT, .slice aP nF cP, .slice aK nK cK, .slice aV nF cV, .slice aR nF cR] := by rw [hYF]; exact ((((((HBF.out.2.1.set 0 (.int .i64 (nF : Int))).set 1 (.slice aT nT cT)).set 2 (.slice aP nF cP)).set 3 (.slice aK nK cK)).set 4 (.slice aV nF cV)).set 5 (.slice aR nF cR))
      have y0 := hrF.drew1.cell (i := 0) rfl
      have y1 := hrF.drew1.cell (i := 1) rfl
      have y2 := hrF.drew1.cell (i := 2) rfl
      have y3 := hrF.drew1.cell (i := 3) rfl
      have y4 := hrF.drew1.cell (i := 4) rfl
      have y5 := hrF.drew1.cell (i := 5) rfl
      have HFIN := Lib.hid (show RefCutPost n T P K bays bay w (.returned (.tuple #[.agg #[.int .i64 (nF : Int), .slice aT nT cT, .slice aP nF cP, .slice aK nK cK, .slice aV nF cV, .slice aR nF cR], .bool gb])) YF.drew from by
        have hob := HST.out.st.ob
        have q2 : nF = (cutP P T F).length := by simp only [cutP, List.length_map]; exact HNF.out
        have q4 : nF = (cutV T F).length := by simp only [cutV, List.length_map]; exact HNF.out
        have q5 : nF = (cutR T bays n F).length := by simp only [cutR, List.length_map]; exact HNF.out
        obtain ⟨t1, t2, t3, t4, t5⟩ := HST.out.done HTL.out q2 HKLL.out q4 q5 hgF (by omega)
        have hbw : Below xb w YF := (HBF.out.2.2.2.2.2.2).grown hgF (by have := HBF.out.2.1.lt; show xb ≤ X.heap.size; omega) (fun q hq => by cases hq; omega)
        have q1 := HTL.out
        have q3 := HKLL.out
        have hgb := HGB.out
        have hL := HL.out
        rw [hL] at q1 q3 t1 t3
        rw [HXB.out] at hbw
        have kd : Below YF.heap.size YF YF.drew := (Below.refl _ _).drew
        refine ⟨L, F, aT, aP, aK, aV, aR, cT, cP, cK, cV, cR, by rw [← HL3.out]; exact HLE.out, HF.out, ?_, t1.mono (Nat.le_refl _) kd, t2.mono (Nat.le_refl _) kd, t3.mono (Nat.le_refl _) kd, t4.mono (Nat.le_refl _) kd, t5.mono (Nat.le_refl _) kd, hbw.drew⟩
        rw [← q1, ← q2, ← q3, ← q4, ← q5, ← HNF.out, ← hgb])
      have HYF := Lib.hid hYF
      clear hgF hrF hYF
      go_upto_region 39 with fail
      go_region_law (fail)
      all_goals
        go_wp2
        rw [← HYF.out]
        exact bodyPost_ret (v := .tuple #[.agg #[.int .i64 (nF : Int), .slice aT nT cT, .slice aP nF cP, .slice aK nK cK, .slice aV nF cV, .slice aR nF cR], .bool gb]) (by simp [results, Tryz.results16, go_sem, y0, y1, y2, y3, y4, y5]) rfl HFIN.out
    case pos =>
    obtain ⟨bb, boff, q, hE, hq, hqc, -, -⟩ := hBX.get (Nat.le_refl _) (Below.refl _ _) (i := t) (by rw [HBL.out]; exact htl)
    subst hE
    have HQ := Lib.hid hq.out
    clear hq hBX
    by_cases hqb : q = bay
    case neg =>
      have d1 : (q == bay) = false := by simpa using hqb
      have d2 : (q != bay) = true := by simp [bne, d1]
      have HN1 := Lib.hid (cutT_not L F (show I! bays t ≠ bay from by rw [HQ.out]; exact hqb))
      have HN2 := Lib.hid (cutK_not K (show I! bays t ≠ bay from by rw [HQ.out]; exact hqb))
      clear hqb
      go_wp2
      go_roundw
      case rel => exact ⟨t + 1, nT, nK, vT, vK, by omega, by go_num, by omega, by omega, by rw [HN1.out]; exact HTL.out, by rw [HN2.out]; exact HKLL.out, by rw [HN1.out, HN2.out]; exact HST.out⟩
      case measure => simp [intOf]; omega
    case pos =>
    have d1 : (q == bay) = true := by simpa using hqb
    have d2 : (q != bay) = false := by simp [bne, d1]
    have HB1 := Lib.hid (show I! bays t = bay from by rw [HQ.out]; exact hqb)
    obtain ⟨xg, hxg⟩ : ∃ x, x = X.heap.size := ⟨_, rfl⟩
    obtain ⟨X1, hX1⟩ : ∃ X1, X1 = X.alloc (.cells #[.int .i64 0, .int .i64 0, .int .i64 0] 65) := ⟨_, rfl⟩
    have HX1 := Lib.hid hX1
    have hgB : B ≤ xg := by rw [hxg]; exact HST.out.mx
    have HTR := Lib.hid (show RowIs X1 xg 65 (iv (triF F L t 0 0) 3) from by rw [hX1, hxg, triF_zero]; exact RowIs.made X 65 (iv (fun _ => 0) 3))
    have HOX := Lib.hid (show OffX xg vT vP vK vV vR (.slice fa nF fc) from by rw [hxg]; exact HST.out.offX)
    have HST1 := Lib.hid (show RS W2 X1 (xb + 2) B (nF : Int) vT vP vK vV vR (.slice fa nF fc) nT nF nK nF nF nF (cutT bays bay L F t) (cutP P T F) (cutK K bays bay t) (cutV T F) (cutR T bays n F) F from by rw [hX1]; exact HST.out.alloc _)
    have HXG := Lib.hid hxg
    have hsb : ∀ s : Nat, s < 3 → 3 * t + s < l3 := fun s hs => by omega
    clear hqb hX1 hxg HST
    go_upto_region 28 with fail
    rw [← HX1.out]
    try rw [← HXG.out]
    clear c1 hqc
    go_wp2
    go_loopw [18] (fun j ws => ∃ (s nK' : Nat) (vK' : Value), s ≤ 3 ∧ j = .int .i64 s ∧ nK' ≤ 3 * t + s ∧ nK' = (kpart K bays bay t s).length ∧ OffX xg vT vP vK' vV vR (.slice fa nF fc) ∧ RowIs ws xg 65 (iv (triF F L t s 0) 3) ∧ RS W2 ws (xb + 2) B (nF : Int) vT vP vK' vV vR (.slice fa nF fc) nT nF nK' nF nF nF (cutT bays bay L F t) (cutP P T F) (kpart K bays bay t s) (cutV T F) (cutR T bays n F) F) (fun j _ => 3 - (intOf j).toNat)
    case atStart => exact ⟨0, nK, vK, by omega, rfl, by omega, by rw [kpart_zero]; exact HKLL.out, HOX.out, HTR.out, by rw [kpart_zero]; exact HST1.out⟩
    case round =>
    clear HST1 HTR HX1
    obtain ⟨s, nK', vK', hs, rfl, hnK', hKl', hox, htr, hst⟩ := hrel
    obtain ⟨X, rfl⟩ : ∃ X : World, X = wr := ⟨_, rfl⟩
    have HST := Lib.hid hst
    have HTR := Lib.hid htr
    have HOX' := Lib.hid hox
    have HKL' := Lib.hid hKl'
    clear hst htr hox hKl'
    by_cases hs3 : s < 3
    case neg =>
      have hs33 : s = 3 := by omega
      have ds3 : decide ((s : Int) < 3) = false := by simp; omega
      obtain ⟨x0, hx0⟩ : ∃ x, x = ixF F (L (3 * t)) := ⟨_, rfl⟩
      obtain ⟨x1, hx1⟩ : ∃ x, x = ixF F (L (3 * t + 1)) := ⟨_, rfl⟩
      obtain ⟨x2, hx2⟩ : ∃ x, x = ixF F (L (3 * t + 2)) := ⟨_, rfl⟩
      have HTRI := Lib.hid (show cutTri L F t = (x0, x1, x2) from by unfold cutTri; rw [hx0, hx1, hx2])
      have htr3 : RowIs X xg 65 [.int .i64 x0, .int .i64 x1, .int .i64 x2] := by
        have := HTR.out
        rw [hs33] at this
        rw [hx0, hx1, hx2]
        exact this
      have t0 := htr3.cell (i := 0) rfl
      have t1 := htr3.cell (i := 1) rfl
      have t2 := htr3.cell (i := 2) rfl
      have d3 := HST.out.row.cell (i := 1) (v := vT) rfl
      have HOT := Lib.hid HST.out.rowT
      have hmxX := HST.out.mx
      have HCT := Lib.hid (cutT_yes L F HB1.out)
      have HKT := Lib.hid (show kpart K bays bay t s = cutK K bays bay (t + 1) from by rw [hs33]; exact kpart_three K HB1.out)
      have hnT3 : nK' ≤ 3 * (t + 1) := by omega
      clear hx0 hx1 hx2 htr3 hs33 hs3
      go_upto_region 38 with fail
      go_wp2_with (at_builtin; refine wpList_append_lies _ rfl _ _ 22 rfl B 65 it (.agg #[.int .i64 0, .int .i64 0, .int .i64 0]) 3 24 (by kernel_rfl) hit ht0 ht1 ht2 rfl (by decide) vT nT (tcells (cutT bays bay L F t)) rfl (HOT.out.alloc _) ⟨X.heap.size, 0, none⟩ 1 1 [.int .i64 x0, .int .i64 x1, .int .i64 x2] rfl rfl (World.news_of_block (heap_alloc_new X _)) (by intro u hu; simp at hu; rcases hu with rfl | rfl | rfl <;> rfl) (by decide) (by unfold maxLen; omega) (by omega) (by simp; omega) _ rfl ?_)
      intro g5 cap5 X9 hown9 hgr9 hat9 hlt9
      have hmid9 := (HST.out.alloc (.cells #[.int .i64 x0, .int .i64 x1, .int .i64 x2] 65)).mid (HOT.out.alloc _) hgr9
      have e5 := hmid9.cell (i := 1) (v := vT) rfl
      have f5 := hmid9.free 1
      have HST9 := Lib.hid ((HST.out.alloc (.cells #[.int .i64 x0, .int .i64 x1, .int .i64 x2] 65)).pushT (TT' := cutT bays bay L F (t + 1)) (by rw [HCT.out, tcells_snoc, HTRI.out]; exact hown9) hgr9 (hat9.imp id fun e => by simp; omega))
      clear d3 t0 t1 t2 hown9 hgr9 hat9 hlt9 hmid9
      go_wp2
      go_roundw
      case rel => exact ⟨t + 1, nT + 1, nK', _, _, by omega, by go_num, by omega, by omega, by rw [HCT.out, List.length_append, ← HTL.out]; rfl, by rw [← HKT.out]; exact HKL'.out, by rw [← HKT.out]; exact HST9.out⟩
      case measure => simp [intOf]; omega
    case pos =>
    have ds3 : decide ((s : Int) < 3) = true := by simp; omega
    go_wp2
    go_loopw [19] (fun m ws => ∃ (k : Nat) (z : Int), k ≤ nF ∧ m = .int .i64 k ∧ z = lastIdx F (L (3 * t + s)) 0 k ∧ RowIs ws xg 65 (iv (triF F L t s z) 3) ∧ RS W2 ws (xb + 2) B (nF : Int) vT vP vK' vV vR (.slice fa nF fc) nT nF nK' nF nF nF (cutT bays bay L F t) (cutP P T F) (kpart K bays bay t s) (cutV T F) (cutR T bays n F) F) (fun m _ => nF - (intOf m).toNat)
    case atStart => exact ⟨0, 0, by omega, rfl, rfl, HTR.out, HST.out⟩
    case round =>
    clear HST HTR
    obtain ⟨k, z, hk, rfl, hz, htr, hst⟩ := hrel
    obtain ⟨X, rfl⟩ : ∃ X : World, X = wr := ⟨_, rfl⟩
    have HST := Lib.hid hst
    have HTR := Lib.hid htr
    have HZ := Lib.hid hz
    clear hst htr hz
    by_cases hkn : k < nF
    case pos =>
      obtain ⟨c, hc⟩ : ∃ c, F[k]? = some c := ⟨_, List.getElem?_eq_getElem (by rw [← HNF.out]; exact hkn)⟩
      have hFI : IntsAt X fa (nl F) := by
        have := HST.out.rowF
        rw [HNF.out] at this
        exact owns_nl this
      obtain ⟨fb, foff, fx, hE, hfx, hcf, -, -⟩ := hFI.get (Nat.le_refl _) (Below.refl _ _) (i := k) (by rw [nl_length, ← HNF.out]; exact hkn)
      subst hE
      have hfx' : fx = (c : Int) := by rw [← hfx.out]; exact nl_get hc
      subst hfx'
      obtain ⟨i0', hi0⟩ : ∃ a, a = 3 * t := ⟨_, rfl⟩
      obtain ⟨i1', hi1⟩ : ∃ a, a = 3 * t + s := ⟨_, rfl⟩
      have s0 : (3 : Int) * (t : Int) = (i0' : Int) := by omega
      have s1 : (i0' : Int) + (s : Int) = (i1' : Int) := by omega
      have hi1b : i1' < l3 := by rw [hi1]; exact hsb s hs3
      have hlX := (HROW.out X HST.out.old).1.cell (iv_get L hi1b)
      obtain ⟨lk, hlk⟩ : ∃ l, l = L i1' := ⟨_, rfl⟩
      rw [← hlk] at hlX
      have HI1 := Lib.hid hi1
      have HLK := Lib.hid hlk
      have h3s : (s : Int) < 3 := by omega
      have hx1 := HTR.out.free s
      have hx2 := HTR.out.cell (iv_get (triF F L t s z) hs3)
      by_cases hcl : (c : Int) = lk
      · have d3 : ((c : Int) == lk) = true := by simpa using hcl
        have HN := Lib.hid (show lastIdx F (L (3 * t + s)) 0 (k + 1) = (k : Int) from lastIdx_yes hc (by rw [hcl, HLK.out, HI1.out]))
        have HTR2 := Lib.hid (show ∀ q, RowIs ((X.drewN q).setCell ⟨xg, s, none⟩ (.int .i64 (k : Int))) xg 65 (iv (triF F L t s (k : Int)) 3) from fun q => by
          have := (HTR.out.drew q).set s (.int .i64 (k : Int))
          rwa [iv_set, triF_upd] at this)
        have HST2 := Lib.hid (fun q : Nat => (HST.out.drewN q).setX hgB HOX'.out s (.int .i64 (k : Int)))
        clear hc hFI hfx hi0 hi1 hlk hcl
        go_upto_region 34 with fail
        go_quiet (fail)
        go_wp2
        go_roundw
        case rel => exact ⟨k + 1, (k : Int), by omega, by go_num, HN.out.symm, HTR2.out _, HST2.out _⟩
        case measure => simp [intOf]; omega
      · have d3 : ((c : Int) == lk) = false := by simpa using hcl
        have HN := Lib.hid (show lastIdx F (L (3 * t + s)) 0 (k + 1) = lastIdx F (L (3 * t + s)) 0 k from lastIdx_no hc (by rw [← HI1.out, ← HLK.out]; exact hcl))
        clear hc hFI hfx hi0 hi1 hlk hcl
        go_upto_region 34 with fail
        go_quiet (fail)
        go_wp2
        go_roundw
        case rel => exact ⟨k + 1, z, by omega, by go_num, by rw [HN.out]; exact HZ.out, HTR.out.drew _, HST.out.drewN _⟩
        case measure => simp [intOf]; omega
    case neg =>
    obtain rfl : nF = k := by omega
    have hmem := HMEM.out (3 * t + s) (hsb s hs3) (by rw [show (3 * t + s) / 3 = t by omega]; exact HB1.out)
    have hzz : z = ixF F (L (3 * t + s)) := by rw [HZ.out, HNF.out]; exact lastIdx_ix HFN.out hmem.1 hmem.2
    have HTRn := Lib.hid (show RowIs X xg 65 (iv (triF F L t (s + 1) 0) 3) from by rw [← triF_next, ← hzz]; exact HTR.out)
    obtain ⟨hb, -, -, -, hKX, -, -⟩ := HLO2.out X HST.out.low
    have c3' := hb.cell (i := 3) rfl
    clear hb hmem hzz HZ hkn hk
    by_cases hk0 : kl = 0
    case pos =>
      have d4 : decide ((kl : Int) > 0) = false := by simp [hk0]
      have d5 : decide (0 < kl) = false := by simp [hk0]
      have d6 : decide ((0 : Int) < (kl : Int)) = false := by simp [hk0]
      have HKE := Lib.hid (show kpart K bays bay t (s + 1) = kpart K bays bay t s from by rw [kpart_none (by rw [← HKL.out]; exact hk0), kpart_none (by rw [← HKL.out]; exact hk0)])
      clear hk0 hKX
      go_wp2
      go_roundw
      case rel => exact ⟨s + 1, nK', vK', by omega, by go_num, by omega, by rw [HKE.out]; exact HKL'.out, HOX'.out, HTRn.out, by rw [HKE.out]; exact HST.out⟩
      case measure => simp [intOf]; omega
    case neg =>
    have d4 : decide ((kl : Int) > 0) = true := by simp; omega
    have d5 : decide (0 < kl) = true := by simp; omega
    have d6 : decide ((0 : Int) < (kl : Int)) = true := by simp; omega
    obtain ⟨i0', hi0⟩ : ∃ a, a = 3 * t := ⟨_, rfl⟩
    obtain ⟨i1', hi1⟩ : ∃ a, a = 3 * t + s := ⟨_, rfl⟩
    have s0 : (3 : Int) * (t : Int) = (i0' : Int) := by omega
    have s1 : (i0' : Int) + (s : Int) = (i1' : Int) := by omega
    have hi1k : i1' < kl := by
      have h1 := hsb s hs3
      rcases HKLB.out with h | h
      · exact absurd h hk0
      · rw [h, hi1]; exact h1
    obtain ⟨kb, koff, kx, hE, hkx, hkc, -, -⟩ := hKX.get (Nat.le_refl _) (Below.refl _ _) (i := i1') (by rw [← HKL.out]; exact hi1k)
    subst hE
    have HKS := Lib.hid (show kpart K bays bay t (s + 1) = kpart K bays bay t s ++ [kx] from by rw [kpart_succ (by rw [← HKL.out]; exact hk0), ← hi1, hkx.out])
    have wr0 : IntKind.i64.wrap (i0' : Int) = (i0' : Int) := wrapI _ (by omega)
    have wr1 : IntKind.i64.wrap (i1' : Int) = (i1' : Int) := wrapI _ (by omega)
    have d7 := HST.out.row.cell (i := 3) (v := vK') rfl
    have d7' : ∀ o, (X.alloc o).cell? ⟨xb + 2, 3, none⟩ = some vK' := fun o => (HST.out.row.alloc o).cell (i := 3) (v := vK') rfl
    have HOK := Lib.hid HST.out.rowK
    have hmxX := HST.out.mx
    have hxX := HTR.out.lt
    have hwi1 : (i1' : Int) < (kl : Int) := by omega
    clear hKX hkx hi0 hi1 hk0
    go_upto_region 37 with fail
    go_region_law (refine step_append_lies _ (by rfl) _ _ _ (by rfl) B 3 i0 (.int .i64 0) 1 8 (by kernel_rfl) hi hz0 hz1 hz2 rfl (by decide) vK' nK' (ic (kpart K bays bay t s)) (by rfl) (HOK.out.alloc _) ⟨X.heap.size, 0, none⟩ 1 1 [.int .i64 kx] (by rfl) rfl (World.news_of_block (heap_alloc_new X _)) (by intro u hu; simp at hu; subst hu; rfl) (by decide) (by unfold maxLen; omega) (by omega) (by simp; omega) (X.heap.size + 1) (by simp) ?_; intro g3 cap3 X8 hown8 hgr8 hat8 hlt8; have hmid8 := ((HST.out.alloc (.cells #[.int .i64 kx] 3)).drew).mid (((HST.out.alloc (.cells #[.int .i64 kx] 3)).drew).rowK) hgr8; have HST8 := Lib.hid (((HST.out.alloc (.cells #[.int .i64 kx] 3)).drew).pushK (KK' := kpart K bays bay t s ++ [kx]) (by rw [ic_snoc]; exact hown8) hgr8 (hat8.imp id fun e => by simp; omega)); have k2 := hmid8.cell (i := 3) (v := vK') rfl; have l2 := hmid8.free 3; have HTR8 := Lib.hid (((((HTRn.out.alloc (.cells #[.int .i64 kx] 3)).drew1).grown hgr8 (fun q => HOX'.out.2.2.1 q.symm)).other (p := ⟨xb + 2, 3, none⟩) (by have := HST.out.st.ob; show xb + 2 ≠ xg; omega) (.slice (some ⟨g3, 0, none⟩) (nK' + 1) cap3))); have HOX8 := Lib.hid (HOX'.out.newK (n := nK' + 1) (c := cap3) (s := X.heap.size + 1) (hat8.imp id fun e => by omega) (by omega)); clear hmid8 hown8 hgr8 hat8 hlt8)
    all_goals
      go_wp2
      go_roundw
      case rel =>
        first
          | exact ⟨s + 1, nK' + 1, .slice (some ⟨g3, 0, none⟩) (nK' + 1) cap3, by omega, by go_num, by omega, by rw [HKS.out, List.length_append, ← HKL'.out]; rfl, HOX8.out, HTR8.out, by rw [HKS.out]; exact HST8.out⟩
          | exact ⟨s + 1, nK' + 1, .slice (some ⟨g3, 0, none⟩) (nK' + 1) cap3, by omega, by go_num, by omega, by rw [HKS.out, List.length_append, ← HKL'.out]; rfl, HOX8.out, HTR8.out.drew1, by rw [HKS.out]; exact HST8.out.drew⟩
      case measure => simp [intOf]; omega
  case pos =>
  go_wp2
  clear c0 c1
  go_loopw [11, 13] (fun u j ws => ∃ (c nF : Nat) (F : List Nat) (vP vV vR : Value), c ≤ l3 ∧ j = .int .i64 c ∧ F = rowL T bays bay L v ++ repV T bays bay L v c ∧ nF = F.length ∧ RS W2 ws (xb + 2) B 0 (.slice none 0 0) vP (.slice none 0 0) vV vR u 0 nF 0 nF nF nF [] (cutP P T F) [] (cutV T F) (cutR T bays n F) F) (fun _ j _ => l3 - (intOf j).toNat)
  case atStart => exact ⟨0, nF, F, _, _, _, by omega, rfl, by rw [HF.out]; simp [repV], HNF.out, HST.out⟩
  case round =>
  clear HST HF HNF
  obtain ⟨c, nF, F, vP, vV, vR, hc, rfl, hF, hnF, hst⟩ := hrel
  obtain ⟨X, rfl⟩ : ∃ X : World, X = wr := ⟨_, rfl⟩
  have HST := Lib.hid hst
  have HF := Lib.hid hF
  have HNF := Lib.hid hnF
  have hnFb : nF ≤ 40000000 := by
    have h1 := rowL_le (T := T) (bays := bays) (bay := bay) (L := L) (by have := HL.out; omega) v
    have h2 := repV_le T bays bay L (v : Int) c
    rw [hnF, hF, List.length_append]
    omega
  obtain ⟨hb, -, -, -, -, -, -⟩ := HLO2.out X hst.low
  have c0 := hb.cell (i := 0) rfl
  have c1 := hb.cell (i := 1) rfl
  obtain ⟨fa, fc, hue⟩ := owns_slice hst.rowF
  subst hue
  clear hb hst hF hnF
  by_cases hcl : c < l3
  case neg =>
    obtain rfl : c = l3 := by omega
    have HF2 := Lib.hid (show F = rowL T bays bay L (v + 1) from by rw [rowL_succ, HF.out, HL3.out])
    clear c0 c1
    go_wp2
    go_roundw
    case rel => exact ⟨v + 1, nF, F, vP, vV, vR, by omega, by go_num, HF2.out, HNF.out, HST.out⟩
    case measure => simp [intOf]; omega
  case pos =>
  obtain ⟨-, -, ht, -, -, -, -⟩ := HLO2.out X HST.out.low
  have HVX := Lib.hid (HV.out c X ht hcl)
  obtain ⟨y, hy⟩ : ∃ y, y = vt T (c : Int) := ⟨_, rfl⟩
  rw [← hy] at HVX
  obtain ⟨c3, hc3⟩ : ∃ q, q = c / 3 := ⟨_, rfl⟩
  have s3 : (c : Int) / 3 = (c3 : Int) := by omega
  have hc3b : c3 < len := by omega
  have HY := Lib.hid hy
  have HC3 := Lib.hid hc3
  clear ht hy hc3
  go_wp2_with fail
  refine HVX.out.mono ?_
  rintro e w4 ⟨rfl, hb4⟩
  clear c0 c1 HVX
  obtain ⟨X4, rfl⟩ : ∃ X : World, X = w4 := ⟨_, rfl⟩
  have HST4 := Lib.hid (HST.out.more hb4)
  clear hb4 HST
  obtain ⟨hb, -, -, hPX, -, hBX, -⟩ := HLO2.out X4 HST4.out.low
  have hLX := (HROW.out X4 HST4.out.old).1
  obtain ⟨bb, boff, q, hE, hq, hqc, -, -⟩ := hBX.get (Nat.le_refl _) (Below.refl _ _) (i := c3) (by rw [HBL.out]; exact hc3b)
  subst hE
  have hlc := hLX.cell (iv_get L hcl)
  obtain ⟨lk, hlk⟩ : ∃ l, l = L c := ⟨_, rfl⟩
  rw [← hlk] at hlc
  have HREP := Lib.hid (show isRep T bays bay L (v : Int) c = (decide (y = (v : Int)) && decide (q = bay) && decide (lk = (c : Int))) from by
    unfold isRep; rw [← HY.out, ← HC3.out, hq.out, ← hlk])
  clear hb hPX hBX hLX hq hlk
  by_cases h1 : y = (v : Int)
  case neg =>
    have d1 : (y == (v : Int)) = false := by simpa using h1
    have HRN := Lib.hid (repV_no (show isRep T bays bay L (v : Int) c = false from by rw [HREP.out]; simp [h1]))
    clear h1
    go_wp2
    go_roundw
    case rel => exact ⟨c + 1, nF, F, vP, vV, vR, by omega, by go_num, by rw [HRN.out]; exact HF.out, HNF.out, HST4.out⟩
    case measure => simp [intOf]; omega
  case pos =>
  have d1 : (y == (v : Int)) = true := by simpa using h1
  by_cases h2 : q = bay
  case neg =>
    have d2 : (q == bay) = false := by simpa using h2
    have HRN := Lib.hid (repV_no (show isRep T bays bay L (v : Int) c = false from by rw [HREP.out]; simp [h2]))
    clear h1 h2
    go_wp2
    go_roundw
    case rel => exact ⟨c + 1, nF, F, vP, vV, vR, by omega, by go_num, by rw [HRN.out]; exact HF.out, HNF.out, HST4.out⟩
    case measure => simp [intOf]; omega
  case pos =>
  have d2 : (q == bay) = true := by simpa using h2
  by_cases h3 : lk = (c : Int)
  case neg =>
    have d3 : (lk == (c : Int)) = false := by simpa using h3
    have HRN := Lib.hid (repV_no (show isRep T bays bay L (v : Int) c = false from by rw [HREP.out]; simp [h3]))
    clear h1 h2 h3
    go_wp2
    go_roundw
    case rel => exact ⟨c + 1, nF, F, vP, vV, vR, by omega, by go_num, by rw [HRN.out]; exact HF.out, HNF.out, HST4.out⟩
    case measure => simp [intOf]; omega
  case pos =>
  have d3 : (lk == (c : Int)) = true := by simpa using h3
  have HRY := Lib.hid (repV_yes (show isRep T bays bay L (v : Int) c = true from by rw [HREP.out]; simp [h1, h2, h3]))
  have HVT := Lib.hid (show vtx T c = (v : Int) from by unfold vtx; rw [if_pos (by rw [← HL3.out]; exact hcl), ← HY.out]; exact h1)
  have HOFF := Lib.hid HST4.out.rowF
  have hmx4 := HST4.out.mx
  clear h1 h2 h3
  go_upto_region 12 with fail
  clear hqc hlc
  go_wp2_with (at_builtin; refine wpList_append_lies _ rfl _ _ 26 rfl B 3 i0 (.int .i64 0) 1 8 (by kernel_rfl) hi hz0 hz1 hz2 rfl (by decide) (.slice fa nF fc) nF (nv F) rfl (HOFF.out.alloc _) ⟨X4.heap.size, 0, none⟩ 1 1 [.int .i64 (c : Int)] rfl rfl (World.news_of_block (heap_alloc_new X4 _)) (by intro u hu; simp at hu; subst hu; rfl) (by decide) (by unfold maxLen; omega) (by omega) (by simp; omega) _ rfl ?_)
  intro g1 cap1 X5 hown5 hgr5 hat5 hlt5
  have HST5 := Lib.hid ((HST4.out.alloc (.cells #[.int .i64 (c : Int)] 3)).pushF (F' := F ++ [c]) (by rw [nv_snoc]; exact hown5) hgr5 (hat5.imp id fun e => by simp; omega))
  have hmx5 := HST5.out.mx
  have HOV := Lib.hid HST5.out.rowV
  have d4 := HST5.out.row.cell (i := 4) (v := vV) rfl
  clear hown5 hgr5 hat5 hlt5 HST4 HOFF
  go_upto_region 13 with fail
  go_wp2_with (at_builtin; refine wpList_append_lies _ rfl _ _ 26 rfl B 3 i0 (.int .i64 0) 1 8 (by kernel_rfl) hi hz0 hz1 hz2 rfl (by decide) vV nF (ic (cutV T F)) rfl (HOV.out.alloc _) ⟨X5.heap.size, 0, none⟩ 1 1 [.int .i64 (v : Int)] rfl rfl (World.news_of_block (heap_alloc_new X5 _)) (by intro u hu; simp at hu; subst hu; rfl) (by decide) (by unfold maxLen; omega) (by omega) (by simp; omega) _ rfl ?_)
  intro g2 cap2 X6 hown6 hgr6 hat6 hlt6
  have hmid6 := (HST5.out.alloc (.cells #[.int .i64 (v : Int)] 3)).mid (HOV.out.alloc _) hgr6
  have e4 := hmid6.cell (i := 4) (v := vV) rfl
  have f4 := hmid6.free 4
  have HST7' := (HST5.out.alloc (.cells #[.int .i64 (v : Int)] 3)).pushV (VV' := cutV T (F ++ [c])) (by unfold cutV; rw [List.map_append, List.map_singleton, HVT.out, ic_snoc]; exact hown6) hgr6 (hat6.imp id fun e => by simp; omega)
  obtain ⟨X7, hX7⟩ : ∃ X7, X7 = X6.setCell ⟨xb + 2, 4, none⟩ (.slice (some ⟨g2, 0, none⟩) (nF + 1) cap2) := ⟨_, rfl⟩
  rw [← hX7] at HST7'
  have HST7 := Lib.hid HST7'
  have HX7 := Lib.hid hX7
  clear d4 hown6 hgr6 hat6 hlt6 hmid6 HST7' hX7 HST5 HOV
  go_upto_region 14 with fail
  rw [← HX7.out]
  clear e4 f4
  obtain ⟨hb, -, -, hPX, -, -, -⟩ := HLO2.out X7 HST7.out.low
  have e2 := hb.cell (i := 2) rfl
  have d6 := HST7.out.row.cell (i := 2) (v := vP) rfl
  have d6' : ∀ o, (X7.alloc o).cell? ⟨xb + 2, 2, none⟩ = some vP := fun o => (HST7.out.row.alloc o).cell (i := 2) (v := vP) rfl
  have HOP := Lib.hid HST7.out.rowP
  have hmx7 := HST7.out.mx
  obtain ⟨pb, poff, px, py, pz, hE, hpt, q0, q1, q2, -, -⟩ := hPX.get (Nat.le_refl _) (Below.refl _ _) (i := v) (by rw [HPL.out]; exact hvn)
  subst hE
  have HPP := Lib.hid (show tcells (cutP P T (F ++ [c])) = tcells (cutP P T F) ++ [.int .i64 px, .int .i64 py, .int .i64 pz] from by
    unfold cutP
    rw [List.map_append, List.map_singleton, tcells_snoc, HVT.out]
    simp only [Int.toNat_natCast]
    rw [hpt.out])
  clear hb hPX hpt
  go_cut [11, 13] (fun s11 s13 wc => s11 = .slice (some ⟨g1, 0, none⟩) (nF + 1) cap1 ∧ s13 = .int .i64 (c : Int) ∧ ∃ vP2, RS W2 wc (xb + 2) B 0 (.slice none 0 0) vP2 (.slice none 0 0) (.slice (some ⟨g2, 0, none⟩) (nF + 1) cap2) vR (.slice (some ⟨g1, 0, none⟩) (nF + 1) cap1) 0 (nF + 1) 0 (nF + 1) nF (nF + 1) [] (cutP P T (F ++ [c])) [] (cutV T (F ++ [c])) (cutR T bays n F) (F ++ [c]))
  case first =>
    go_region_law (refine step_append_lies _ (by rfl) _ _ _ (by rfl) B 80 iq (.agg #[.int .i64 0, .int .i64 0, .int .i64 0]) 3 24 (by kernel_rfl) hiq hy0 hy1 hy2 rfl (by decide) vP nF (tcells (cutP P T F)) (by rfl) (HOP.out.alloc _) ⟨X7.heap.size, 0, none⟩ 1 1 [.int .i64 px, .int .i64 py, .int .i64 pz] (by rfl) rfl (World.news_of_block (heap_alloc_new X7 _)) (by intro u hu; simp at hu; rcases hu with rfl | rfl | rfl <;> rfl) (by decide) (by unfold maxLen; omega) (by omega) (by simp; omega) (X7.heap.size + 1) (by simp) ?_; intro g3 cap3 X8 hown8 hgr8 hat8 hlt8; have hmid8 := ((HST7.out.alloc (.cells #[.int .i64 px, .int .i64 py, .int .i64 pz] 80)).drew).mid (((HST7.out.alloc (.cells #[.int .i64 px, .int .i64 py, .int .i64 pz] 80)).drew).rowP) hgr8; have HST8 := Lib.hid (((HST7.out.alloc (.cells #[.int .i64 px, .int .i64 py, .int .i64 pz] 80)).drew).pushP (PP' := cutP P T (F ++ [c])) (by rw [HPP.out]; exact hown8) hgr8 (hat8.imp id fun e => by simp; omega)); have k2 := hmid8.cell (i := 2) (v := vP) rfl; have l2 := hmid8.free 2; clear hmid8 hown8)
    all_goals
      go_wp2
      go_meet
      refine ⟨rfl, rfl, .slice (some ⟨g3, 0, none⟩) (nF + 1) cap3, ?_⟩
      first | exact HST8.out | exact HST8.out.drew
  case rest =>
  obtain ⟨rfl, rfl, vP2, hst8⟩ := hcut
  obtain ⟨X8, rfl⟩ : ∃ X8 : World, X8 = wc := ⟨_, rfl⟩
  have HST8 := Lib.hid hst8
  have HRI := Lib.hid (HROW.out X8 hst8.old).2
  obtain ⟨vV2, hvV2⟩ : ∃ x, x = Value.slice (some ⟨g2, 0, none⟩) (nF + 1) cap2 := ⟨_, rfl⟩
  rw [← hvV2] at HST8
  clear hst8 hvV2 e2 d6 d6' q0 q1 q2 HST7 HX7 HOP hmx7
  go_wp2
  go_loopw [14, 15] (fun p j ws => ∃ (k : Nat) (x : Int), k ≤ lr ∧ p = .int .i64 x ∧ j = .int .i64 k ∧ x = lastIdx R (v : Int) (-1) k ∧ ws = X8) (fun _ j _ => lr - (intOf j).toNat)
  case atStart => exact ⟨0, -1, by omega, rfl, rfl, rfl, rfl⟩
  case round =>
  obtain ⟨k, x, hk, rfl, rfl, hx, hws⟩ := hrel
  rw [hws]
  clear hws
  have HX := Lib.hid hx
  clear hx
  by_cases hkl : k < lr
  case pos =>
    obtain ⟨z, hz⟩ : ∃ z, R[k]? = some z := ⟨_, List.getElem?_eq_getElem (by rw [HRR.out.2.1]; exact hkl)⟩
    obtain ⟨rb, roff, rz, hE, hrz, hrc, -, -⟩ := HRI.out.get (Nat.le_refl _) (Below.refl _ _) (i := k) (by rw [nl_length, HRR.out.2.1]; exact hkl)
    subst hE
    have hrz' : rz = (z : Int) := by rw [← hrz.out]; exact nl_get hz
    subst hrz'
    by_cases hzv : z = v
    · have d0 : ((z : Int) == (v : Int)) = true := by simp [hzv]
      have d1 : (z == v) = true := by simp [hzv]
      have HN := Lib.hid (lastIdx_yes (x := (v : Int)) (d := -1) hz (by rw [hzv]))
      clear hz hrz hzv
      go_wp2
      go_roundw
      case rel => exact ⟨k + 1, (k : Int), by omega, rfl, by go_num, HN.out.symm, by trivial⟩
      case measure => simp [intOf]; omega
    · have d0 : ((z : Int) == (v : Int)) = false := by simp; omega
      have d1 : (z == v) = false := by simpa using hzv
      have HN := Lib.hid (lastIdx_no (x := (v : Int)) (d := -1) hz (by omega))
      clear hz hrz hzv
      go_wp2
      go_roundw
      case rel => exact ⟨k + 1, x, by omega, rfl, by go_num, by rw [HN.out]; exact HX.out, by trivial⟩
      case measure => simp [intOf]; omega
  case neg =>
  obtain rfl : k = lr := by omega
  have HQ := Lib.hid (show x = Lib.idxOf (nl (rimL T bays n)) (v : Int) from by rw [HX.out, ← HRR.out.2.1, lastIdx_rim HRR.out.1 v, HRR.out.2.2])
  have d5 := HST8.out.row.cell (i := 5) (v := vR) rfl
  have HOR := Lib.hid HST8.out.rowR
  have hmx8 := HST8.out.mx
  clear HX
  go_upto_region 21 with fail
  go_wp2_with (at_builtin; refine wpList_append_lies _ rfl _ _ 26 rfl B 3 i0 (.int .i64 0) 1 8 (by kernel_rfl) hi hz0 hz1 hz2 rfl (by decide) vR nF (ic (cutR T bays n F)) rfl (HOR.out.alloc _) ⟨X8.heap.size, 0, none⟩ 1 1 [.int .i64 x] rfl rfl (World.news_of_block (heap_alloc_new X8 _)) (by intro u hu; simp at hu; subst hu; rfl) (by decide) (by unfold maxLen; omega) (by omega) (by simp; omega) _ rfl ?_)
  intro g4 cap4 X9 hown9 hgr9 hat9 hlt9
  have hmid9 := (HST8.out.alloc (.cells #[.int .i64 x] 3)).mid (HOR.out.alloc _) hgr9
  have e5 := hmid9.cell (i := 5) (v := vR) rfl
  have f5 := hmid9.free 5
  have HST9 := Lib.hid ((HST8.out.alloc (.cells #[.int .i64 x] 3)).pushR (RR' := cutR T bays n (F ++ [c])) (by unfold cutR; rw [List.map_append, List.map_singleton, HVT.out, ← HQ.out, ic_snoc]; exact hown9) hgr9 (hat9.imp id fun e => by simp; omega))
  clear d5 hown9 hgr9 hat9 hlt9 hmid9
  go_wp2
  go_roundw
  case rel => exact ⟨c + 1, nF + 1, F ++ [c], vP2, _, _, by omega, by go_num, by rw [HRY.out, ← List.append_assoc, ← HF.out], by rw [List.length_append, ← HNF.out]; rfl, HST9.out⟩
  case measure => simp [intOf]; omega
end Go.Proofs.YtknioobpoieohaaGreat

/- gypsumlaw40.RimCharts: the walk. -/
import Derived.Test.YtfbpjlfimmjieaaGreatRimCA
import Derived.Test.YtfbpjlfimmjieaaGreatGroups
import Derived.Test.YtfbpjlfimmjieaaGreatTable12
import Derived.Test.YtfbpjlfimmjieaaGreatSame08
import Derived.BigQuiet
namespace Go.Proofs.YtfbpjlfimmjieaaGreat
set_option linter.unusedVariables false
set_option linter.unusedSimpArgs false
open Go.RowKit
set_option maxRecDepth 100000 in
set_option maxHeartbeats 16000000 in
theorem rimcharts_any (N : Int) (ao : Option Addr) (cap : Nat) (T : List Tr) (bo : Option Addr) (bcap : Nat) (bays : List Int) (w : World) (hT : TrisAt w ao T) (hTl : T.length ≤ 9223372036854775807) (hB : IntsAt w bo bays) (hBl : bays.length ≤ 9223372036854775807) :
    Calls Tryz.prog 10 #[.agg #[.int .i64 N, .slice ao T.length cap], .slice bo bays.length bcap] w fun e w' => e = .returned (.bool true) ∧ Below w.heap.size w w' := by
  obtain ⟨i0, hi0, hz0, hz1, hz2⟩ := info_parts info3
  obtain ⟨W0, hW0⟩ : ∃ W0, W0 = w.alloc (.cells #[.int .i64 N, .slice ao T.length cap] 24) := ⟨_, rfl⟩
  have hb0 : Below w.heap.size w W0 := by rw [hW0]; exact (Below.refl _ _).alloc (Nat.le_refl _) _
  have hr0 : RowIs W0 w.heap.size 24 [.int .i64 N, .slice ao T.length cap] := by rw [hW0]; exact RowIs.made w 24 [.int .i64 N, .slice ao T.length cap]
  have HT := Lib.hid (hT.mono (Nat.le_refl _) hb0)
  have HB := Lib.hid (hB.mono (Nat.le_refl _) hb0)
  have HRI := Lib.hid (fun (X : World) (h1 : TrisAt X ao T) (h2 : IntsAt X bo bays) => right40 N ao cap T bo bcap bays X h1 h2)
  have HRR := Lib.hid (show Right40 N T bays → T.length ≤ 30 ∧ N ≤ 100 ∧ bays.length = T.length ∧ Surf N T ∧ BaysOK T.length bays from fun h => by
    have hg := h.1
    unfold grB at hg
    simp at hg
    exact ⟨by omega, by omega, h.2.2.1, h.2.1, h.2.2⟩)
  have HTY := Lib.hid (fun (X : World) (h : TrisAt X ao T) (n : Nat) (hn : N = n) (hs : Surf n T) (hl : T.length ≤ 40) => (show N = (n : Int) from hn) ▸ table12 n ao cap T X h hs hl)
  have HOO := Lib.hid (show ∀ (X : World) (p : Nat) (m : Nat) (ko : Option Addr) (kc : Nat), m = 3 * T.length → Tab X p N T → Surf N T → IntsAt X ko (kB bays T.length) → Calls Tryz.prog 13 #[.pointer (some ⟨p, 0, none⟩), .slice ko m kc] X (fun e w' => OfP X T (kB bays T.length) e w') from fun X p m ko kc hm h hs hk => by
    subst hm
    have := cof_ok p N T ko kc (kB bays T.length) X h hs (kB_length _ _) hk
    rw [kB_length] at this
    exact this.mono fun _ _ h => h)
  have HCU := Lib.hid (show ∀ (n : Nat) (hn : N = n) (t : Nat) (x : Int) (po : Option Addr) (pc : Nat) (X : World), I! bays t = x → t < T.length → TrisAt X ao T → TrisAt X po (ptsL n) → IntsAt X bo bays → Surf n T → BaysOK T.length bays → (∀ L F, CutIs T bays (I! bays t) L F → F.length ≠ 1) →
      Calls Tryz.prog 37 #[.agg #[.int .i64 N, .slice ao T.length cap, .slice po n pc, .slice none 0 0], .slice bo bays.length bcap, .int .i64 x] X (CutUC T bays x X) from fun n hn t x po pc X hx ht h1 h2 h4 hs hok hne => by
    subst hn hx
    have hin : I! bays t ∈ bays := by
      have hl : t < bays.length := by rw [hok.1]; exact ht
      unfold I!
      rw [List.getD_eq_getElem?_getD, List.getElem?_eq_getElem hl]
      exact List.getElem_mem hl
    have := (cut_ok n ao cap T po pc (ptsL n) none 0 [] bo bcap bays (I! bays t) X h1 h2 (fun e => absurd rfl e) h4 hs hok (ptsL_len n) (.inl rfl) (by simp)).mono fun e w' h => cut_uc hin hne h
    simpa only [ptsL_len, List.length_nil] using this)
  have HPC := Lib.hid (show ∀ (n : Nat) (hn : N = n) (M : Nat → Int), Surf N T → IsShells (KAdj T (kB bays T.length)) T.length M → ∀ (t : Nat), t < T.length → (∀ u, u < T.length → I! bays u = I! bays t → M u = M t) → (∀ L F, CutIs T bays (I! bays t) L F → F.length ≠ 1) ∧
      ∀ (L : Nat → Int) (F : List Nat), CutIs T bays (I! bays t) L F → F.length ≤ 3 * T.length ∧ (cutT bays (I! bays t) L F T.length).length ≤ T.length ∧ ∀ (X : World) (ko : Option Addr) (m kc : Nat), m = 3 * T.length → TrisAt X ao T → IntsAt X ko (kB bays T.length) →
        Calls Tryz.prog 20 #[.agg #[.int .i64 N, .slice ao T.length cap], .slice ko m kc, .int .i64 (M t)] X fun e w' => ∃ a1 a2 a3 n3 c1 c2 c3,
          e = .returned (.tuple #[.agg #[.int .i64 (F.length : Int), .slice a1 (cutT bays (I! bays t) L F T.length).length c1], .slice a2 F.length c2, .slice a3 n3 c3, .int .i64 0]) ∧
          Hid (TrisAt w' a1 (cutT bays (I! bays t) L F T.length) ∧ IntsAt w' a2 (cutV T F)) ∧ Below X.heap.size X w' from fun n hn M hs hM t ht h1 => by
    subst hn
    refine ⟨fun L F hc => ?_, fun L F hc => ?_⟩
    · obtain ⟨hp, h2, h3, h4⟩ := bay_piece hs hM ht h1 hc
      exact piece_ne1 hp hs ht (by rw [mL_get ht])
    · obtain ⟨hp, h2, h3, h4⟩ := bay_piece hs hM ht h1 hc
      refine ⟨hp.len, by unfold cutT sel; rw [List.length_map]; exact Nat.le_trans (List.length_filter_le _ _) (by simp), fun X ko m kc hm hT hK => ?_⟩
      subst hm
      have := csurf_yesC n ao cap T ko kc (kB bays T.length) (M t) X hT hs hK (kB_length _ _) hM hp h3
      rw [h4, kB_length] at this
      exact this.mono fun e w' ⟨a1, a2, a3, c1, c2, c3, h, g1, g2, _, hb⟩ => ⟨a1, a2, a3, _, c1, c2, c3, h, Lib.hid ⟨g1, g2⟩, hb⟩)
  have HCB := Lib.hid (show ∀ (n : Nat) (hn : N = n) (M : Nat → Int), Surf N T → IsShells (KAdj T (kB bays T.length)) T.length M → ∀ i j, i < T.length → j < T.length → M i = M j → I! bays i = I! bays j from fun n hn M hs hM i j hi hj h => by
    subst hn
    exact chart_bay hs hM hi hj h)
  obtain ⟨len, hlen⟩ : ∃ l, l = T.length := ⟨_, rfl⟩
  obtain ⟨bl, hbl⟩ : ∃ l, l = bays.length := ⟨_, rfl⟩
  obtain ⟨xb, hxb⟩ : ∃ x, x = w.heap.size := ⟨_, rfl⟩
  obtain ⟨l3, hl3⟩ : ∃ l, l = 3 * len := ⟨_, rfl⟩
  simp only [OfP, ← hlen, ← hbl] at HRI HRR HTY HOO HCU HPC HCB hW0 hr0 hTl hBl
  simp only [← hl3] at HOO HPC
  rw [← hlen, ← hbl]
  rw [← hxb] at hr0
  have HL := Lib.hid hlen
  have HBL := Lib.hid hbl
  have HXB := Lib.hid hxb
  have HL3 := Lib.hid hl3
  have HR0 := Lib.hid hr0
  have HB0 := Lib.hid hb0
  have HW0 := Lib.hid hW0
  clear hT hB hb0 hr0 hW0 hlen hbl hxb hl3
  go_enter Tryz.func10, Tryz.ntmps10
  go_upto_region 1 with fail
  rw [← HW0.out, ← HXB.out]
  go_wp2_with fail
  refine (awake40 _).mono ?_
  rintro e w1 ⟨rfl, hb1⟩
  have HB1 := Lib.hid (below_more HB0.out hb1 HB0.out.size)
  have HR1 := Lib.hid (HR0.out.after hb1)
  have HT1 := Lib.hid (HT.out.mono (Nat.le_refl _) hb1)
  have HY1 := Lib.hid (HB.out.mono (Nat.le_refl _) hb1)
  have c0 := HR1.out.cell (i := 0) rfl
  have c1 := HR1.out.cell (i := 1) rfl
  have HG1 := Lib.hid (HRI.out w1 HT1.out HY1.out)
  clear hb1
  go_wp2_with fail
  refine HG1.out.mono ?_
  rintro e w2 ⟨r, rfl, hr, hb2⟩
  have HB2 := Lib.hid (below_more HB1.out hb2 HB1.out.size)
  cases r
  case false =>
    clear hr hb2
    go_wp2
    exact bodyPost_ret (v := .bool true) (by simp [results, Tryz.results10, go_sem]) rfl ⟨rfl, HB2.out⟩
  case true =>
  obtain ⟨hl30, hN, hble, hs, hok⟩ := HRR.out (hr.1 rfl)
  obtain rfl : bl = len := hble
  have HOK := Lib.hid hok
  obtain ⟨W, rfl⟩ : ∃ x : World, x = w2 := ⟨_, rfl⟩
  have HR2 := Lib.hid (HR1.out.after hb2)
  have HT2 := Lib.hid (HT1.out.mono (Nat.le_refl _) hb2)
  have HY2 := Lib.hid (HY1.out.mono (Nat.le_refl _) hb2)
  obtain ⟨n, hn⟩ : ∃ n : Nat, N = n := ⟨N.toNat, by have := hs.n0; omega⟩
  have HS := Lib.hid hs
  have HNN := Lib.hid hn
  have hnb : n ≤ 100 := by omega
  have hl3b : l3 ≤ 90 := by have := HL3.out; omega
  have HOWN0 := Lib.hid (show W.ownsRow W.heap.size 3 1 (.slice none 0 0) 0 (ic (kB bays 0)) from World.ownsRow_nil _ _ _ _)
  clear hr hb2 hs hn hok
  go_wp2
  go_loopw [5, 6] (fun v c ws => ∃ (i m : Nat) (va : Option Addr) (vc : Nat), i ≤ bl ∧ c = .int .i64 i ∧ Hid (m = 3 * i) ∧ v = .slice va m vc ∧ ws.ownsRow W.heap.size 3 1 (.slice va m vc) m (ic (kB bays i)) ∧ Below W.heap.size W ws) (fun _ c _ => bl - (intOf c).toNat)
  case atStart => exact ⟨0, 0, none, 0, by omega, rfl, Lib.hid rfl, rfl, HOWN0.out, Below.refl _ _⟩
  case round =>
  clear HOWN0
  obtain ⟨i, m, va, vc, hi, rfl, HMI, rfl, hown, hb⟩ := hrel
  obtain ⟨X, rfl⟩ : ∃ X : World, X = wr := ⟨_, rfl⟩
  have hmb : m ≤ 90 := by have := HMI.out; omega
  by_cases hib : i < bl
  case pos =>
    obtain ⟨bb, boff, b, rfl, hbv, cb, hbb, -⟩ := HY2.out.get (Nat.le_refl _) hb (i := i) (by rw [← HBL.out]; exact hib)
    have cW : W.cell? ⟨bb, boff + i, none⟩ = some (.int .i64 b) := by rw [← hb.cell (p := ⟨bb, boff + i, none⟩) hbb]; exact cb
    have HKS := Lib.hid (show ∀ Y, Below W.heap.size X Y → Y.cell? ⟨bb, boff + i, none⟩ = some (.int .i64 b) from fun Y hY => ((hb.trans hY).cell (p := ⟨bb, boff + i, none⟩) hbb).trans cW)
    have HNX := Lib.hid (show ic (kB bays (i + 1)) = ic (kB bays i) ++ [.int .i64 b, .int .i64 b, .int .i64 b] from by rw [kB_succ, hbv.out]; simp [ic])
    have HOQ := Lib.hid hown
    have HBX := Lib.hid hb
    have HQ4 := Lib.hid (show m + 3 ≤ maxLen by unfold maxLen; omega)
    have HQ5 := Lib.hid (show (m + 3) * 8 ≤ 140737488355328 by omega)
    have HQ6 := Lib.hid hb.size
    have hrf : Below W.heap.size X X := Below.refl _ _
    have hx42 : W.heap.size ≤ X.heap.size := hb.size
    have bi : (0 : Int) ≤ (i : Int) ∧ (i : Int) < (bl : Int) := by omega
    clear hown hb cb cW hbv hbb
    go_upto_region 9 with fail
    go_region_held_law (fun Y => Y.cell? ⟨bb, boff + i, none⟩ = some (.int .i64 b))
      (exact HKS.out _ (by repeat (first | assumption | with_reducible apply belB_drew | (with_reducible refine belB_alloc hx42 ?_ _))))
      ((refine step_append_lies _ (by rfl) _ _ _ (by rfl) W.heap.size 3 i0 (.int .i64 0) 1 8 (by kernel_rfl) hi0 hz0 hz1 hz2 rfl (by decide) (.slice va m vc) m (ic (kB bays i)) (by rfl) (owns_below HOQ.out (by repeat (first | assumption | with_reducible exact Below.refl _ _ | with_reducible apply bel_drew | with_reducible apply bel_alloc))) ⟨X.heap.size, 0, none⟩ 3 3 [.int .i64 b, .int .i64 b, .int .i64 b] (by rfl) rfl (World.news_of_block (heap_alloc_new _ _)) (by intro u hu; simp at hu; subst hu; rfl) (by decide) HQ4.out HQ5.out (Nat.le_trans HQ6.out (by simp)) (X.heap.size + 1) (by simp) ?_; intro g3 cap3 X3 hown3 hgr3 hat3 hlt3; have hk3 : Below W.heap.size X X3 := (show Below W.heap.size X _ from (by repeat (first | assumption | with_reducible apply belB_drew | (with_reducible refine belB_alloc hx42 ?_ _)))).grown hgr3 (Nat.le_trans hx42 (by simp)) (fun q hq => (HOQ.out.lt q hq).1)))
    all_goals
      have HO3 := Lib.hid (show X3.ownsRow W.heap.size 3 1 (.slice (some ⟨g3, 0, none⟩) (m + 3) cap3) (m + 3) (ic (kB bays (i + 1))) from by rw [HNX.out]; exact hown3)
      have HK3 := Lib.hid (HBX.out.trans hk3)
      have HMN := Lib.hid (show m + 3 = 3 * (i + 1) from by have := HMI.out; omega)
      clear hown3 hgr3 hat3 hlt3 hk3
      go_wp2
      go_roundw
      case rel => exact ⟨i + 1, m + 3, _, cap3, by omega, by go_num, HMN, rfl, HO3.out, HK3.out⟩
      case measure => simp [intOf]; omega
  case neg =>
  obtain rfl : i = bl := by omega
  obtain ⟨ka, kc, hke, hkI⟩ := owns_ic hown (by rw [kB_length]; exact HMI.out)
  simp only [Value.slice.injEq, true_and] at hke
  obtain ⟨rfl, rfl⟩ := hke
  obtain rfl : m = l3 := by rw [HMI.out, HL3.out]
  have HKI := Lib.hid hkI
  have HBX := Lib.hid (below_more HB2.out hb HB2.out.size)
  have hrX := HR2.out.after hb
  have HRX := Lib.hid hrX
  have HTX := Lib.hid (HT2.out.mono (Nat.le_refl _) hb)
  have HYX := Lib.hid (HY2.out.mono (Nat.le_refl _) hb)
  have c0 := hrX.cell (i := 0) rfl
  have c1 := hrX.cell (i := 1) rfl
  have HTB := Lib.hid (HTY.out X HTX.out n HNN.out (HNN.out ▸ HS.out) (by omega))
  clear hown hb hkI hrX hib hi
  go_wp2_with fail
  refine HTB.out.mono ?_
  rintro e w3 ⟨p, rfl, -, htab, hb3⟩
  have htab : Tab w3 p N T := by first | exact htab | (rw [HNN.out]; exact htab)
  have HB3 := Lib.hid (below_more HBX.out hb3 HBX.out.size)
  have HR3 := Lib.hid (HRX.out.after hb3)
  have HT3 := Lib.hid (HTX.out.mono (Nat.le_refl _) hb3)
  have HY3 := Lib.hid (HYX.out.mono (Nat.le_refl _) hb3)
  have hk3 := HKI.out.mono (Nat.le_refl _) hb3
  have HK3 := Lib.hid hk3
  have HO1 := Lib.hid (HOO.out w3 p m va vc rfl htab HS.out hk3)
  clear hb3 htab hk3
  go_wp2_with fail
  refine HO1.out.mono ?_
  rintro e w4 ⟨g1, M, rfl, -, hr1, hm1, hb4⟩
  obtain ⟨V, rfl⟩ : ∃ x : World, x = w4 := ⟨_, rfl⟩
  have HB4 := Lib.hid (below_more HB3.out hb4 HB3.out.size)
  have HR4 := Lib.hid (HR3.out.after hb4)
  have HT4 := Lib.hid (HT3.out.mono (Nat.le_refl _) hb4)
  have HY4 := Lib.hid (HY3.out.mono (Nat.le_refl _) hb4)
  have HK4 := Lib.hid (HK3.out.mono (Nat.le_refl _) hb4)
  have HRM := Lib.hid hr1
  have HM := Lib.hid hm1
  have HCB1 := Lib.hid (HCB.out n HNN.out M HS.out hm1)
  have HPC1 := Lib.hid (HPC.out n HNN.out M HS.out hm1)
  clear hb4 hr1 hm1
  go_wp2
  go_loopw [9] (fun c ws => ∃ (t : Nat), t ≤ i ∧ c = .int .i64 t ∧ Below V.heap.size V ws) (fun c _ => i - (intOf c).toNat)
  case atStart => exact ⟨0, by omega, rfl, Below.refl _ _⟩
  case round =>
  obtain ⟨t, ht, rfl, hb⟩ := hrel
  obtain ⟨Z, rfl⟩ : ∃ X : World, X = wr := ⟨_, rfl⟩
  by_cases htb : t < i
  case neg =>
    obtain rfl : t = i := by omega
    have HBF := Lib.hid (below_more HB4.out hb HB4.out.size)
    clear hb
    go_wp2
    exact bodyPost_ret (v := .bool true) (by simp [results, Tryz.results10, go_sem]) rfl ⟨rfl, HBF.out⟩
  case pos =>
  have HBZ := Lib.hid hb
  have HTT := Lib.hid htb
  obtain ⟨bb, boff, rfl, hbb, hbc⟩ := (HY4.out.mono (Nat.le_refl _) hb) (by intro e; have := HBL.out; rw [e] at this; simp at this; omega)
  have hct := hbc t (by rw [← HBL.out]; exact htb)
  obtain ⟨bt, hbt⟩ : ∃ b, b = I! bays t := ⟨_, rfl⟩
  rw [← hbt] at hct
  have hrM := HRM.out.after hb
  have cMt := hrM.cell (iv_get M htb)
  obtain ⟨mt, hmt⟩ : ∃ b, b = M t := ⟨_, rfl⟩
  rw [← hmt] at cMt
  have HBT := Lib.hid hbt
  have HMT := Lib.hid hmt
  have HCT := Lib.hid (show bb < Z.heap.size ∧ Z.cell? ⟨bb, boff + t, none⟩ = some (.int .i64 bt) ∧ Z.cell? ⟨g1, t, none⟩ = some (.int .i64 mt) ∧ g1 < Z.heap.size ∧ ∀ u, u < i → Z.cell? ⟨bb, boff + u, none⟩ = some (.int .i64 (I! bays u)) ∧ Z.cell? ⟨g1, u, none⟩ = some (.int .i64 (M u)) from ⟨hbb, hct, cMt, hrM.lt, fun u hu => ⟨hbc u (by rw [← HBL.out]; exact hu), hrM.cell (iv_get M hu)⟩⟩)
  clear hb hbb hbc hct hbt hrM cMt hmt
  go_wp2
  go_loopw [10, 11] (fun o c ws => ∃ (u : Nat) (ob : Bool), u ≤ i ∧ c = .int .i64 u ∧ o = .bool ob ∧ Hid (ob = true ↔ ∀ v, v < u → I! bays v = bt → M v = mt) ∧ Below Z.heap.size Z ws) (fun _ c _ => i - (intOf c).toNat)
  case atStart => exact ⟨0, true, by omega, rfl, rfl, Lib.hid ⟨fun _ v h => by omega, fun _ => rfl⟩, Below.refl _ _⟩
  case round =>
  obtain ⟨u, ob, hu, rfl, rfl, HOB, hb⟩ := hrel
  obtain ⟨Y, rfl⟩ : ∃ X : World, X = wr := ⟨_, rfl⟩
  by_cases hub : u < i
  case pos =>
    obtain ⟨h1, h2⟩ := HCT.out.2.2.2.2 u hub
    have cbu := (hb.cell (p := ⟨bb, boff + u, none⟩) HCT.out.1).trans h1
    have cmu := (hb.cell (p := ⟨g1, u, none⟩) HCT.out.2.2.2.1).trans h2
    have cbt := (hb.cell (p := ⟨bb, boff + t, none⟩) HCT.out.1).trans HCT.out.2.1
    have cmt := (hb.cell (p := ⟨g1, t, none⟩) HCT.out.2.2.2.1).trans HCT.out.2.2.1
    obtain ⟨bu, hbu⟩ : ∃ b, b = I! bays u := ⟨_, rfl⟩
    obtain ⟨mu, hmu⟩ : ∃ b, b = M u := ⟨_, rfl⟩
    rw [← hbu] at cbu
    rw [← hmu] at cmu
    have HBY := Lib.hid hb
    have HQQ := Lib.hid (show ∀ a b, Below Z.heap.size Z ((Y.drewN a).drewN b) from fun a b => below_drewN (below_drewN hb a) b)
    have HQ1 := Lib.hid (show ∀ a, Below Z.heap.size Z (Y.drewN a) from fun a => below_drewN hb a)
    have HUB := Lib.hid hub
    have bu' : (0 : Int) ≤ (u : Int) ∧ (u : Int) < (i : Int) := by omega
    have bt' : (0 : Int) ≤ (t : Int) ∧ (t : Int) < (i : Int) := by omega
    by_cases hbe : bu = bt
    · have e1 : (bu == bt) = true := by simpa using hbe
      have e2 : (bu != bt) = false := by simpa using hbe
      by_cases hme : mu = mt
      · have e3 : (mu != mt) = false := by simpa using hme
        have e4 : (mu == mt) = true := by simpa using hme
        have HN := Lib.hid (show ob = true ↔ ∀ v, v < u + 1 → I! bays v = bt → M v = mt from by
          rw [HOB.out]
          refine ⟨fun h v hv he => ?_, fun h v hv he => h v (by omega) he⟩
          by_cases e : v = u
          · subst e; rw [← hmu]; exact hme
          · exact h v (by omega) he)
        subst hbe hme
        clear h1 h2 hb hbu hmu
        go_wp2
        go_quiet (fail)
        go_wp2
        go_quiet (fail)
        go_wp2
        go_roundw
        case rel => exact ⟨u + 1, ob, by have := HUB.out; omega, by go_num, rfl, HN, by first | exact HQQ.out _ _ | exact HQ1.out _ | exact HBY.out⟩
        case measure => simp [intOf]; have := HUB.out; omega
      · have e3 : (mu != mt) = true := by simpa using hme
        have e4 : (mu == mt) = false := by simpa using hme
        have HN := Lib.hid (show false = true ↔ ∀ v, v < u + 1 → I! bays v = bt → M v = mt from ⟨(fun h => by cases h), fun h => absurd (by rw [hmu]; exact h u (by omega) (by rw [← hbu]; exact hbe)) hme⟩)
        subst hbe
        clear h1 h2 hb hbu hmu hme
        go_wp2
        go_quiet (fail)
        go_wp2
        go_quiet (fail)
        go_wp2
        go_roundw
        case rel => exact ⟨u + 1, false, by have := HUB.out; omega, by go_num, rfl, HN, by first | exact HQQ.out _ _ | exact HQ1.out _ | exact HBY.out⟩
        case measure => simp [intOf]; have := HUB.out; omega
    · have e1 : (bu == bt) = false := by simpa using hbe
      have e2 : (bu != bt) = true := by simpa using hbe
      have hme : ¬ mu = mt := fun e => hbe (by rw [hbu, HBT.out]; exact HCB1.out u t hub HTT.out (by rw [← hmu, ← HMT.out]; exact e))
      have e3 : (mu != mt) = true := by simpa using hme
      have e4 : (mu == mt) = false := by simpa using hme
      have HN := Lib.hid (show ob = true ↔ ∀ v, v < u + 1 → I! bays v = bt → M v = mt from by
        rw [HOB.out]
        refine ⟨fun h v hv he => ?_, fun h v hv he => h v (by omega) he⟩
        by_cases e : v = u
        · subst e; rw [← hbu] at he; exact absurd he hbe
        · exact h v (by omega) he)
      clear h1 h2 hb hbu hmu hbe hme
      go_wp2
      go_quiet (fail)
      go_wp2
      go_quiet (fail)
      go_wp2
      go_roundw
      case rel => exact ⟨u + 1, ob, by have := HUB.out; omega, by go_num, rfl, HN, by first | exact HQQ.out _ _ | exact HQ1.out _ | exact HBY.out⟩
      case measure => simp [intOf]; have := HUB.out; omega
  case neg =>
  obtain rfl : u = i := by omega
  cases ob
  case false =>
    have HBF := Lib.hid (below_more HBZ.out hb HBZ.out.size)
    clear hb
    go_wp2
    go_roundw
    case rel => exact ⟨t + 1, by have := HTT.out; omega, by go_num, HBF.out⟩
    case measure => simp [intOf]; have := HTT.out; omega
  case true =>
  have hone := HOB.out.1 rfl
  obtain ⟨hne1, hsurf⟩ := HPC1.out t HTT.out (fun v hv he => by rw [← HMT.out]; exact hone v hv (by rw [HBT.out]; exact he))
  have HNE1 := Lib.hid hne1
  have HSURF := Lib.hid hsurf
  have hbV := below_more HBZ.out hb HBZ.out.size
  have HBV := Lib.hid hbV
  have HB5 := Lib.hid (below_more HB4.out hbV HB4.out.size)
  have HR5 := Lib.hid (HR4.out.after hbV)
  have HT5 := Lib.hid (HT4.out.mono (Nat.le_refl _) hbV)
  have HY5 := Lib.hid (HY4.out.mono (Nat.le_refl _) hbV)
  have HK5' := Lib.hid (HK4.out.mono (Nat.le_refl _) hbV)
  have cbt := (hb.cell (p := ⟨bb, boff + t, none⟩) HCT.out.1).trans HCT.out.2.1
  have cmt := (hb.cell (p := ⟨g1, t, none⟩) HCT.out.2.2.2.1).trans HCT.out.2.2.1
  have hbbY : bb < Y.heap.size := by have := HCT.out.1; have := hb.size; omega
  have hg1Y : g1 < Y.heap.size := by have := HCT.out.2.2.2.1; have := hb.size; omega
  have HK5 := Lib.hid (show ∀ w', Below Y.heap.size Y w' → w'.cell? ⟨xb, 0, none⟩ = some (.int .i64 N) ∧ w'.cell? ⟨xb, 1, none⟩ = some (.slice ao u cap) ∧ w'.cell? ⟨bb, boff + t, none⟩ = some (.int .i64 bt) from fun w' hb => ⟨(HR5.out.after hb).cell (i := 0) rfl, (HR5.out.after hb).cell (i := 1) rfl, (hb.cell (p := ⟨bb, boff + t, none⟩) hbbY).trans cbt⟩)
  have HPT := Lib.hid (show ∀ X : World, Calls Tryz.prog 38 #[.int .i64 N] X fun e w' => ∃ a c, e = .returned (.slice a n c) ∧ TrisAt w' a (ptsL n) ∧ Below X.heap.size X w' from fun X => by rw [HNN.out]; exact points40 n X (by omega))
  have HCUT := Lib.hid (show ∀ (po : Option Addr) (pc : Nat) (X : World), TrisAt X po (ptsL n) → Below Y.heap.size Y X → Calls Tryz.prog 37 #[.agg #[.int .i64 N, .slice ao u cap, .slice po n pc, .slice none 0 0], .slice (some ⟨bb, boff, none⟩) u bcap, .int .i64 bt] X (CutUC T bays bt X) from fun po pc X h1 h2 =>
    HCU.out n HNN.out t bt po pc X HBT.out.symm HTT.out (HT5.out.mono (Nat.le_refl _) h2) h1 (HY5.out.mono (Nat.le_refl _) h2) (HNN.out ▸ HS.out) HOK.out HNE1.out)
  have bt' : (0 : Int) ≤ (t : Int) ∧ (t : Int) < (u : Int) := by have := HTT.out; omega
  have HCM := Lib.hid (show Y.cell? ⟨g1, t, none⟩ = some (.int .i64 mt) ∧ g1 < Y.heap.size from ⟨cmt, hg1Y⟩)
  clear hone hne1 hsurf hbV hb cbt cmt hbbY hg1Y
  have HDR := Lib.hid (show Below Y.heap.size Y Y.drew from ⟨rfl, rfl, rfl, Nat.le_refl _, fun _ _ => rfl⟩)
  go_upto_region 25 with fail
  go_cut [12, 13] (fun s12 s13 wc => ∃ (lb : Nat) (N' : Int) (T' P' : List Tr) (K' V' R' : List Int), s12 = .pointer (some ⟨lb, 0, none⟩) ∧ s13 = .int .i64 0 ∧ CutSC T bays bt N' T' V' ∧ LocAt wc 0 lb N' T' P' K' V' R' ∧ Below Y.heap.size Y wc)
  case first =>
    as_aux_lemma =>
    (try clear HB); (try clear HT); (try clear HRI); (try clear HRR); (try clear HTY); (try clear HOO); (try clear HCU); (try clear HPC); (try clear HCB); (try clear HL); (try clear HBL); (try clear HL3); (try clear HR0); (try clear HB0); (try clear HW0); (try clear HB1); (try clear HR1); (try clear HT1); (try clear HY1); (try clear HG1); (try clear HB2); (try clear HOK); (try clear HR2); (try clear HT2); (try clear HY2); (try clear HS); (try clear HMI); (try clear HKI); (try clear HBX); (try clear HRX); (try clear HTX); (try clear HYX); (try clear HTB); (try clear HB3); (try clear HR3); (try clear HT3); (try clear HY3); (try clear HK3); (try clear HO1); (try clear HB4); (try clear HR4); (try clear HT4); (try clear HY4); (try clear HK4); (try clear HRM); (try clear HM); (try clear HCB1); (try clear HPC1); (try clear HBZ); (try clear HTT); (try clear HBT); (try clear HMT); (try clear HCT); (try clear HOB); (try clear HNE1); (try clear HSURF); (try clear HBV); (try clear HB5); (try clear HR5); (try clear HT5); (try clear HY5); (try clear HK5'); (try clear HCM); (try clear HNN); (try clear HB6); (try clear HB46); (try clear HR6); (try clear HT6); (try clear HK6); (try clear HNC); (try clear HVL); (try clear HROW); (try clear HTA); (try clear HVA); (try clear hFb); (try clear hCb); (try clear hi0); (try clear hz0); (try clear hz1); (try clear hz2); (try clear hTl); (try clear hBl); (try clear hl30); (try clear hN); (try clear hnb); (try clear hl3b); (try clear hmb); (try clear HXB)
    refine wp_region_held_drew (S := (fun w' => w'.cell? ⟨xb, 0, none⟩ = some (.int .i64 N) ∧ w'.cell? ⟨xb, 1, none⟩ = some (.slice ao u cap) ∧ w'.cell? ⟨bb, boff + t, none⟩ = some (.int .i64 bt))) (by kernel_rfl) ?_ (fun hHeld0 => ?_)
    · ((try dsimp only); first | with_reducible exact HK5.out _ (setL_below hkB hle _ _ _ _ _ _) | with_reducible exact HK5.out _ HDR.out | with_reducible exact HK5.out _ hkB | with_reducible exact HK5.out _ hkA | with_reducible exact HK5.out _ (bel_drew (bel_alloc (Below.refl _ _) _)) | with_reducible exact HK5.out _ (bel_alloc HDR.out _) | with_reducible exact HK5.out _ (bel_alloc hkA _) | with_reducible exact HK5.out _ (bel_alloc hkB _) | with_reducible exact HK5.out _ (setL_below hkB hle _ _ _ _ _ _) | with_reducible exact HK5.out _ (set6_below (bel_alloc hkB _) hkB.size _ _ _ _ _ _))
    refine wpAnyH_take (i := 0) (v := ?_) rfl (by kernel_rfl) (by kernel_rfl) (by kernel_rfl) (fun _ _ _ h => h) (Or.inl ⟨by rfl, ?_⟩) (by assumption) ?_
    rotate_left
    · (intro w hSw; (try dsimp only at hSw); go_simp; try with_reducible rfl)
    try simp only [List.getElem_toArray, List.getElem_cons_succ, List.getElem_cons_zero, Act.put, List.setIfInBounds_toArray, List.set_cons_zero, List.set_cons_succ]
    refine wpAnyH_take (i := 1) (v := ?_) rfl (by kernel_rfl) (by kernel_rfl) (by kernel_rfl) (fun _ _ _ h => h) (Or.inl ⟨by rfl, ?_⟩) (by assumption) ?_
    rotate_left
    · (intro w hSw; (try dsimp only at hSw); go_simp; try with_reducible rfl)
    try simp only [List.getElem_toArray, List.getElem_cons_succ, List.getElem_cons_zero, Act.put, List.setIfInBounds_toArray, List.set_cons_zero, List.set_cons_succ]
    refine wpAnyH_take (i := 2) (v := ?_) rfl (by kernel_rfl) (by kernel_rfl) (by kernel_rfl) (fun _ _ _ h => h) (Or.inl ⟨by rfl, ?_⟩) (by assumption) ?_
    rotate_left
    · (intro w hSw; (try dsimp only at hSw); go_simp; try with_reducible rfl)
    try simp only [List.getElem_toArray, List.getElem_cons_succ, List.getElem_cons_zero, Act.put, List.setIfInBounds_toArray, List.set_cons_zero, List.set_cons_succ]
    refine wpAnyH_take (i := 5) (v := ?_) rfl (by kernel_rfl) (by kernel_rfl) (by kernel_rfl) (fun _ _ _ h => h) (Or.inl ⟨by rfl, ?_⟩) (by assumption) ?_
    rotate_left
    · (intro w hSw; (try dsimp only at hSw); go_simp; try with_reducible rfl)
    try simp only [List.getElem_toArray, List.getElem_cons_succ, List.getElem_cons_zero, Act.put, List.setIfInBounds_toArray, List.set_cons_zero, List.set_cons_succ]
    refine wpAnyH_take (i := 6) (v := ?_) rfl (by kernel_rfl) (by kernel_rfl) (by kernel_rfl) (fun _ _ _ h => h) (Or.inl ⟨by rfl, ?_⟩) (by assumption) ?_
    rotate_left
    · (intro w hSw; (try dsimp only at hSw); go_simp; try with_reducible rfl)
    try simp only [List.getElem_toArray, List.getElem_cons_succ, List.getElem_cons_zero, Act.put, List.setIfInBounds_toArray, List.set_cons_zero, List.set_cons_succ]
    refine wpAnyH_take (i := 7) (v := ?_) rfl (by kernel_rfl) (by kernel_rfl) (by kernel_rfl) (fun _ _ _ h => h) (Or.inl ⟨by rfl, ?_⟩) (by assumption) ?_
    rotate_left
    · (intro w hSw; (try dsimp only at hSw); go_simp; try with_reducible rfl)
    try simp only [List.getElem_toArray, List.getElem_cons_succ, List.getElem_cons_zero, Act.put, List.setIfInBounds_toArray, List.set_cons_zero, List.set_cons_succ]
    refine wpAnyH_take (i := 8) (v := ?_) rfl (by kernel_rfl) (by kernel_rfl) (by kernel_rfl) (fun _ _ _ h => h) (Or.inl ⟨by rfl, ?_⟩) (by assumption) ?_
    rotate_left
    · (intro w hSw; (try dsimp only at hSw); go_simp; try with_reducible rfl)
    try simp only [List.getElem_toArray, List.getElem_cons_succ, List.getElem_cons_zero, Act.put, List.setIfInBounds_toArray, List.set_cons_zero, List.set_cons_succ]
    refine wpAnyH_take (i := 9) (v := ?_) rfl (by kernel_rfl) (by kernel_rfl) (by kernel_rfl) (fun _ _ _ h => h) (Or.inl ⟨by rfl, ?_⟩) (by assumption) ?_
    rotate_left
    · (intro w hSw; (try dsimp only at hSw); go_simp; try with_reducible rfl)
    try simp only [List.getElem_toArray, List.getElem_cons_succ, List.getElem_cons_zero, Act.put, List.setIfInBounds_toArray, List.set_cons_zero, List.set_cons_succ]
    refine wpAnyH_ready (rs := [3, 14]) (by kernel_rfl) (by simp) ?_
    refine AllReadyH.cons rfl (fun K hK => ?_) (AllReadyH.cons rfl (fun K hK => ?_) AllReadyH.nil)
    · skip
      go_simp
      go_wp2_with ((go_at_call 38; (with_reducible refine (HPT.out _).mono ?_); rintro e wA ⟨aA, cA, rfl, hA, hbA⟩; have hkA := bel_step HDR.out hbA))
      refine hK.out _ _ ?_ (fun hHeld1 => ?_)
      · ((try dsimp only); first | with_reducible exact HK5.out _ (setL_below hkB hle _ _ _ _ _ _) | with_reducible exact HK5.out _ HDR.out | with_reducible exact HK5.out _ hkB | with_reducible exact HK5.out _ hkA | with_reducible exact HK5.out _ (bel_drew (bel_alloc (Below.refl _ _) _)) | with_reducible exact HK5.out _ (bel_alloc HDR.out _) | with_reducible exact HK5.out _ (bel_alloc hkA _) | with_reducible exact HK5.out _ (bel_alloc hkB _) | with_reducible exact HK5.out _ (setL_below hkB hle _ _ _ _ _ _) | with_reducible exact HK5.out _ (set6_below (bel_alloc hkB _) hkB.size _ _ _ _ _ _))
      clear hK K hHeld0
      refine wpAnyH_take (i := 4) (v := ?_) rfl (by kernel_rfl) (by kernel_rfl) (by kernel_rfl) (fun _ _ _ h => h) (Or.inl ⟨by rfl, ?_⟩) (by assumption) ?_
      rotate_left
      · (intro w hSw; (try dsimp only at hSw); go_simp; try with_reducible rfl)
      try simp only [List.getElem_toArray, List.getElem_cons_succ, List.getElem_cons_zero, Act.put, List.setIfInBounds_toArray, List.set_cons_zero, List.set_cons_succ]
      refine wpAnyH_ready (rs := [10, 14]) (by kernel_rfl) (by simp) ?_
      refine AllReadyH.cons rfl (fun K hK => ?_) (AllReadyH.cons rfl (fun K hK => ?_) AllReadyH.nil)
      · skip
        go_simp
        go_wp2_with ((go_at_call 37; (with_reducible refine (HCUT.out _ _ _ hA hkA).mono ?_); rintro e wB ⟨N1, T1, P1, K1, V1, R1, d1, d2, d3, d4, d5, n1, n2, n3, n4, n5, m1, m2, m3, m4, m5, rfl, hV, hbB⟩; have hkB := bel_step hkA hbB))
        refine hK.out _ _ ?_ (fun hHeld2 => ?_)
        · ((try dsimp only); first | with_reducible exact HK5.out _ (setL_below hkB hle _ _ _ _ _ _) | with_reducible exact HK5.out _ HDR.out | with_reducible exact HK5.out _ hkB | with_reducible exact HK5.out _ hkA | with_reducible exact HK5.out _ (bel_drew (bel_alloc (Below.refl _ _) _)) | with_reducible exact HK5.out _ (bel_alloc HDR.out _) | with_reducible exact HK5.out _ (bel_alloc hkA _) | with_reducible exact HK5.out _ (bel_alloc hkB _) | with_reducible exact HK5.out _ (setL_below hkB hle _ _ _ _ _ _) | with_reducible exact HK5.out _ (set6_below (bel_alloc hkB _) hkB.size _ _ _ _ _ _))
        clear hK K hHeld1
        refine wpAnyH_take (i := 11) (v := ?_) rfl (by kernel_rfl) (by kernel_rfl) (by kernel_rfl) (fun _ _ _ h => h) (Or.inl ⟨by rfl, ?_⟩) (by assumption) ?_
        rotate_left
        · (intro w hSw; (try dsimp only at hSw); go_simp; try with_reducible rfl)
        try simp only [List.getElem_toArray, List.getElem_cons_succ, List.getElem_cons_zero, Act.put, List.setIfInBounds_toArray, List.set_cons_zero, List.set_cons_succ]
        refine wpAnyH_take (i := 12) (v := ?_) rfl (by kernel_rfl) (by kernel_rfl) (by kernel_rfl) (fun _ _ _ h => h) (Or.inl ⟨by rfl, ?_⟩) (by assumption) ?_
        rotate_left
        · (intro w hSw; (try dsimp only at hSw); go_simp; try with_reducible rfl)
        try simp only [List.getElem_toArray, List.getElem_cons_succ, List.getElem_cons_zero, Act.put, List.setIfInBounds_toArray, List.set_cons_zero, List.set_cons_succ]
        refine wpAnyH_take (i := 13) (v := ?_) rfl (by kernel_rfl) (by kernel_rfl) (by kernel_rfl) (fun _ _ _ h => h) (Or.inl ⟨by rfl, ?_⟩) (by assumption) ?_
        rotate_left
        · (intro w hSw; (try dsimp only at hSw); go_simp; try with_reducible rfl)
        try simp only [List.getElem_toArray, List.getElem_cons_succ, List.getElem_cons_zero, Act.put, List.setIfInBounds_toArray, List.set_cons_zero, List.set_cons_succ]
        refine wpAnyH_ready (rs := [14]) (by kernel_rfl) (by simp) ?_
        refine AllReadyH.cons rfl (fun K hK => ?_) AllReadyH.nil
        go_simp
        refine hK.out _ _ ?_ (fun hHeld3 => ?_)
        · ((try dsimp only); first | with_reducible exact HK5.out _ (setL_below hkB hle _ _ _ _ _ _) | with_reducible exact HK5.out _ HDR.out | with_reducible exact HK5.out _ hkB | with_reducible exact HK5.out _ hkA | with_reducible exact HK5.out _ (bel_drew (bel_alloc (Below.refl _ _) _)) | with_reducible exact HK5.out _ (bel_alloc HDR.out _) | with_reducible exact HK5.out _ (bel_alloc hkA _) | with_reducible exact HK5.out _ (bel_alloc hkB _) | with_reducible exact HK5.out _ (setL_below hkB hle _ _ _ _ _ _) | with_reducible exact HK5.out _ (set6_below (bel_alloc hkB _) hkB.size _ _ _ _ _ _))
        clear hK K hHeld2
        refine wpAnyH_ready (rs := [15]) (by kernel_rfl) (by simp) ?_
        refine AllReadyH.cons rfl (fun K hK => ?_) AllReadyH.nil
        go_simp
        refine hK.out _ _ ?_ (fun hHeld4 => ?_)
        · ((try dsimp only); first | with_reducible exact HK5.out _ (setL_below hkB hle _ _ _ _ _ _) | with_reducible exact HK5.out _ HDR.out | with_reducible exact HK5.out _ hkB | with_reducible exact HK5.out _ hkA | with_reducible exact HK5.out _ (bel_drew (bel_alloc (Below.refl _ _) _)) | with_reducible exact HK5.out _ (bel_alloc HDR.out _) | with_reducible exact HK5.out _ (bel_alloc hkA _) | with_reducible exact HK5.out _ (bel_alloc hkB _) | with_reducible exact HK5.out _ (setL_below hkB hle _ _ _ _ _ _) | with_reducible exact HK5.out _ (set6_below (bel_alloc hkB _) hkB.size _ _ _ _ _ _))
        clear hK K hHeld3
        refine wpAnyH_take (i := 16) (v := ?_) rfl (by kernel_rfl) (by kernel_rfl) (by kernel_rfl) (fun _ _ _ h => h) (Or.inl ⟨by rfl, ?_⟩) (by assumption) ?_
        rotate_left
        · (intro w hSw; (try dsimp only at hSw); go_simp; try with_reducible rfl)
        try simp only [List.getElem_toArray, List.getElem_cons_succ, List.getElem_cons_zero, Act.put, List.setIfInBounds_toArray, List.set_cons_zero, List.set_cons_succ]
        refine wpAnyH_done (by kernel_rfl) ?_ _
        clear hHeld4
        go_wp2
        go_meet
        obtain ⟨nK, nV, nR, hsy, e1, h1, e2, h2, e3, h3, e4, h4, e5, h5⟩ := hV.out
        first
        | with_reducible exact ⟨_, N1, T1, P1, K1, V1, R1, rfl, rfl, hsy, loc_alloc new5 e1 h1 e2 h2 e3 h3 e4 h4 e5 h5, bel_alloc hkB _⟩
        | with_reducible exact ⟨_, N1, T1, P1, K1, V1, R1, rfl, rfl, hsy, loc_storeL hZ new5 e1 h1 e2 h2 e3 h3 e4 h4 e5 h5 nK nV nR, setL_below hkB hle _ _ _ _ _ _⟩
      · skip
        go_simp
        refine hK.out _ _ ?_ (fun hHeld5 => ?_)
        · ((try dsimp only); first | with_reducible exact HK5.out _ (setL_below hkB hle _ _ _ _ _ _) | with_reducible exact HK5.out _ HDR.out | with_reducible exact HK5.out _ hkB | with_reducible exact HK5.out _ hkA | with_reducible exact HK5.out _ (bel_drew (bel_alloc (Below.refl _ _) _)) | with_reducible exact HK5.out _ (bel_alloc HDR.out _) | with_reducible exact HK5.out _ (bel_alloc hkA _) | with_reducible exact HK5.out _ (bel_alloc hkB _) | with_reducible exact HK5.out _ (setL_below hkB hle _ _ _ _ _ _) | with_reducible exact HK5.out _ (set6_below (bel_alloc hkB _) hkB.size _ _ _ _ _ _))
        clear hK K hHeld1
        refine wpAnyH_ready (rs := [10]) (by kernel_rfl) (by simp) ?_
        refine AllReadyH.cons rfl (fun K hK => ?_) AllReadyH.nil
        go_simp
        go_wp2_with ((go_at_call 37; (with_reducible refine (HCUT.out _ _ _ (tris_alloc hA _) (bel_alloc hkA _)).mono ?_); rintro e wB ⟨N1, T1, P1, K1, V1, R1, d1, d2, d3, d4, d5, n1, n2, n3, n4, n5, m1, m2, m3, m4, m5, rfl, hV, hbB⟩; have hkB := bel_step (bel_alloc hkA _) hbB; have hZ : RowIs wB wA.heap.size 63 zrow := RowIs.after (RowIs.made wA 63 zrow) hbB; have hle : Y.heap.size ≤ wA.heap.size := hkA.size))
        refine hK.out _ _ ?_ (fun hHeld6 => ?_)
        · ((try dsimp only); first | with_reducible exact HK5.out _ (setL_below hkB hle _ _ _ _ _ _) | with_reducible exact HK5.out _ HDR.out | with_reducible exact HK5.out _ hkB | with_reducible exact HK5.out _ hkA | with_reducible exact HK5.out _ (bel_drew (bel_alloc (Below.refl _ _) _)) | with_reducible exact HK5.out _ (bel_alloc HDR.out _) | with_reducible exact HK5.out _ (bel_alloc hkA _) | with_reducible exact HK5.out _ (bel_alloc hkB _) | with_reducible exact HK5.out _ (setL_below hkB hle _ _ _ _ _ _) | with_reducible exact HK5.out _ (set6_below (bel_alloc hkB _) hkB.size _ _ _ _ _ _))
        clear hK K hHeld5
        refine wpAnyH_take (i := 11) (v := ?_) rfl (by kernel_rfl) (by kernel_rfl) (by kernel_rfl) (fun _ _ _ h => h) (Or.inl ⟨by rfl, ?_⟩) (by assumption) ?_
        rotate_left
        · (intro w hSw; (try dsimp only at hSw); go_simp; try with_reducible rfl)
        try simp only [List.getElem_toArray, List.getElem_cons_succ, List.getElem_cons_zero, Act.put, List.setIfInBounds_toArray, List.set_cons_zero, List.set_cons_succ]
        refine wpAnyH_take (i := 12) (v := ?_) rfl (by kernel_rfl) (by kernel_rfl) (by kernel_rfl) (fun _ _ _ h => h) (Or.inl ⟨by rfl, ?_⟩) (by assumption) ?_
        rotate_left
        · (intro w hSw; (try dsimp only at hSw); go_simp; try with_reducible rfl)
        try simp only [List.getElem_toArray, List.getElem_cons_succ, List.getElem_cons_zero, Act.put, List.setIfInBounds_toArray, List.set_cons_zero, List.set_cons_succ]
        refine wpAnyH_take (i := 13) (v := ?_) rfl (by kernel_rfl) (by kernel_rfl) (by kernel_rfl) (fun _ _ _ h => h) (Or.inl ⟨by rfl, ?_⟩) (by assumption) ?_
        rotate_left
        · (intro w hSw; (try dsimp only at hSw); go_simp; try with_reducible rfl)
        try simp only [List.getElem_toArray, List.getElem_cons_succ, List.getElem_cons_zero, Act.put, List.setIfInBounds_toArray, List.set_cons_zero, List.set_cons_succ]
        refine wpAnyH_ready (rs := [15]) (by kernel_rfl) (by simp) ?_
        refine AllReadyH.cons rfl (fun K hK => ?_) AllReadyH.nil
        rw [if_pos (by rfl)]
        refine wp_storeL _ _ _ rfl wA.heap.size [.int .i64 N1, .slice d1 m1 n1, .slice d2 m2 n2, .slice d3 m3 n3, .slice d4 m4 n4, .slice d5 m5 n5] rfl rfl hZ rfl (by kernel_rfl) (by intro v hv; simp only [List.mem_cons, List.not_mem_nil, or_false] at hv; rcases hv with rfl | rfl | rfl | rfl | rfl | rfl <;> rfl) ?_
        refine hK.out _ _ ?_ (fun hHeld7 => ?_)
        · ((try dsimp only); first | with_reducible exact HK5.out _ (setL_below hkB hle _ _ _ _ _ _) | with_reducible exact HK5.out _ HDR.out | with_reducible exact HK5.out _ hkB | with_reducible exact HK5.out _ hkA | with_reducible exact HK5.out _ (bel_drew (bel_alloc (Below.refl _ _) _)) | with_reducible exact HK5.out _ (bel_alloc HDR.out _) | with_reducible exact HK5.out _ (bel_alloc hkA _) | with_reducible exact HK5.out _ (bel_alloc hkB _) | with_reducible exact HK5.out _ (setL_below hkB hle _ _ _ _ _ _) | with_reducible exact HK5.out _ (set6_below (bel_alloc hkB _) hkB.size _ _ _ _ _ _))
        clear hK K hHeld6
        refine wpAnyH_take (i := 16) (v := ?_) rfl (by kernel_rfl) (by kernel_rfl) (by kernel_rfl) (fun _ _ _ h => h) (Or.inl ⟨by rfl, ?_⟩) (by assumption) ?_
        rotate_left
        · (intro w hSw; (try dsimp only at hSw); go_simp; try with_reducible rfl)
        try simp only [List.getElem_toArray, List.getElem_cons_succ, List.getElem_cons_zero, Act.put, List.setIfInBounds_toArray, List.set_cons_zero, List.set_cons_succ]
        refine wpAnyH_done (by kernel_rfl) ?_ _
        clear hHeld7
        go_wp2
        go_meet
        obtain ⟨nK, nV, nR, hsy, e1, h1, e2, h2, e3, h3, e4, h4, e5, h5⟩ := hV.out
        first
        | with_reducible exact ⟨_, N1, T1, P1, K1, V1, R1, rfl, rfl, hsy, loc_alloc new5 e1 h1 e2 h2 e3 h3 e4 h4 e5 h5, bel_alloc hkB _⟩
        | with_reducible exact ⟨_, N1, T1, P1, K1, V1, R1, rfl, rfl, hsy, loc_storeL hZ new5 e1 h1 e2 h2 e3 h3 e4 h4 e5 h5 nK nV nR, setL_below hkB hle _ _ _ _ _ _⟩
    · skip
      go_simp
      refine hK.out _ _ ?_ (fun hHeld8 => ?_)
      · ((try dsimp only); first | with_reducible exact HK5.out _ (setL_below hkB hle _ _ _ _ _ _) | with_reducible exact HK5.out _ HDR.out | with_reducible exact HK5.out _ hkB | with_reducible exact HK5.out _ hkA | with_reducible exact HK5.out _ (bel_drew (bel_alloc (Below.refl _ _) _)) | with_reducible exact HK5.out _ (bel_alloc HDR.out _) | with_reducible exact HK5.out _ (bel_alloc hkA _) | with_reducible exact HK5.out _ (bel_alloc hkB _) | with_reducible exact HK5.out _ (setL_below hkB hle _ _ _ _ _ _) | with_reducible exact HK5.out _ (set6_below (bel_alloc hkB _) hkB.size _ _ _ _ _ _))
      clear hK K hHeld0
      refine wpAnyH_ready (rs := [3]) (by kernel_rfl) (by simp) ?_
      refine AllReadyH.cons rfl (fun K hK => ?_) AllReadyH.nil
      go_simp
      go_wp2_with ((go_at_call 38; (with_reducible refine (HPT.out _).mono ?_); rintro e wA ⟨aA, cA, rfl, hA, hbA⟩; have hkA := bel_step (bel_drew (bel_alloc (Below.refl Y.heap.size Y) _)) hbA; have hY : RowIs wA Y.heap.size 63 zrow := RowIs.after (RowIs.drew1 (RowIs.made Y 63 zrow)) hbA))
      refine hK.out _ _ ?_ (fun hHeld9 => ?_)
      · ((try dsimp only); first | with_reducible exact HK5.out _ (setL_below hkB hle _ _ _ _ _ _) | with_reducible exact HK5.out _ HDR.out | with_reducible exact HK5.out _ hkB | with_reducible exact HK5.out _ hkA | with_reducible exact HK5.out _ (bel_drew (bel_alloc (Below.refl _ _) _)) | with_reducible exact HK5.out _ (bel_alloc HDR.out _) | with_reducible exact HK5.out _ (bel_alloc hkA _) | with_reducible exact HK5.out _ (bel_alloc hkB _) | with_reducible exact HK5.out _ (setL_below hkB hle _ _ _ _ _ _) | with_reducible exact HK5.out _ (set6_below (bel_alloc hkB _) hkB.size _ _ _ _ _ _))
      clear hK K hHeld8
      refine wpAnyH_take (i := 4) (v := ?_) rfl (by kernel_rfl) (by kernel_rfl) (by kernel_rfl) (fun _ _ _ h => h) (Or.inl ⟨by rfl, ?_⟩) (by assumption) ?_
      rotate_left
      · (intro w hSw; (try dsimp only at hSw); go_simp; try with_reducible rfl)
      try simp only [List.getElem_toArray, List.getElem_cons_succ, List.getElem_cons_zero, Act.put, List.setIfInBounds_toArray, List.set_cons_zero, List.set_cons_succ]
      refine wpAnyH_ready (rs := [10]) (by kernel_rfl) (by simp) ?_
      refine AllReadyH.cons rfl (fun K hK => ?_) AllReadyH.nil
      go_simp
      go_wp2_with ((go_at_call 37; (with_reducible refine (HCUT.out _ _ _ hA hkA).mono ?_); rintro e wB ⟨N1, T1, P1, K1, V1, R1, d1, d2, d3, d4, d5, n1, n2, n3, n4, n5, m1, m2, m3, m4, m5, rfl, hV, hbB⟩; have hkB := bel_step hkA hbB; have hZ : RowIs wB Y.heap.size 63 zrow := RowIs.after hY hbB; have hle : Y.heap.size ≤ Y.heap.size := Nat.le_refl _))
      refine hK.out _ _ ?_ (fun hHeld10 => ?_)
      · ((try dsimp only); first | with_reducible exact HK5.out _ (setL_below hkB hle _ _ _ _ _ _) | with_reducible exact HK5.out _ HDR.out | with_reducible exact HK5.out _ hkB | with_reducible exact HK5.out _ hkA | with_reducible exact HK5.out _ (bel_drew (bel_alloc (Below.refl _ _) _)) | with_reducible exact HK5.out _ (bel_alloc HDR.out _) | with_reducible exact HK5.out _ (bel_alloc hkA _) | with_reducible exact HK5.out _ (bel_alloc hkB _) | with_reducible exact HK5.out _ (setL_below hkB hle _ _ _ _ _ _) | with_reducible exact HK5.out _ (set6_below (bel_alloc hkB _) hkB.size _ _ _ _ _ _))
      clear hK K hHeld9
      refine wpAnyH_take (i := 11) (v := ?_) rfl (by kernel_rfl) (by kernel_rfl) (by kernel_rfl) (fun _ _ _ h => h) (Or.inl ⟨by rfl, ?_⟩) (by assumption) ?_
      rotate_left
      · (intro w hSw; (try dsimp only at hSw); go_simp; try with_reducible rfl)
      try simp only [List.getElem_toArray, List.getElem_cons_succ, List.getElem_cons_zero, Act.put, List.setIfInBounds_toArray, List.set_cons_zero, List.set_cons_succ]
      refine wpAnyH_take (i := 12) (v := ?_) rfl (by kernel_rfl) (by kernel_rfl) (by kernel_rfl) (fun _ _ _ h => h) (Or.inl ⟨by rfl, ?_⟩) (by assumption) ?_
      rotate_left
      · (intro w hSw; (try dsimp only at hSw); go_simp; try with_reducible rfl)
      try simp only [List.getElem_toArray, List.getElem_cons_succ, List.getElem_cons_zero, Act.put, List.setIfInBounds_toArray, List.set_cons_zero, List.set_cons_succ]
      refine wpAnyH_take (i := 13) (v := ?_) rfl (by kernel_rfl) (by kernel_rfl) (by kernel_rfl) (fun _ _ _ h => h) (Or.inl ⟨by rfl, ?_⟩) (by assumption) ?_
      rotate_left
      · (intro w hSw; (try dsimp only at hSw); go_simp; try with_reducible rfl)
      try simp only [List.getElem_toArray, List.getElem_cons_succ, List.getElem_cons_zero, Act.put, List.setIfInBounds_toArray, List.set_cons_zero, List.set_cons_succ]
      refine wpAnyH_ready (rs := [15]) (by kernel_rfl) (by simp) ?_
      refine AllReadyH.cons rfl (fun K hK => ?_) AllReadyH.nil
      rw [if_pos (by rfl)]
      refine wp_storeL _ _ _ rfl Y.heap.size [.int .i64 N1, .slice d1 m1 n1, .slice d2 m2 n2, .slice d3 m3 n3, .slice d4 m4 n4, .slice d5 m5 n5] rfl rfl hZ rfl (by kernel_rfl) (by intro v hv; simp only [List.mem_cons, List.not_mem_nil, or_false] at hv; rcases hv with rfl | rfl | rfl | rfl | rfl | rfl <;> rfl) ?_
      refine hK.out _ _ ?_ (fun hHeld11 => ?_)
      · ((try dsimp only); first | with_reducible exact HK5.out _ (setL_below hkB hle _ _ _ _ _ _) | with_reducible exact HK5.out _ HDR.out | with_reducible exact HK5.out _ hkB | with_reducible exact HK5.out _ hkA | with_reducible exact HK5.out _ (bel_drew (bel_alloc (Below.refl _ _) _)) | with_reducible exact HK5.out _ (bel_alloc HDR.out _) | with_reducible exact HK5.out _ (bel_alloc hkA _) | with_reducible exact HK5.out _ (bel_alloc hkB _) | with_reducible exact HK5.out _ (setL_below hkB hle _ _ _ _ _ _) | with_reducible exact HK5.out _ (set6_below (bel_alloc hkB _) hkB.size _ _ _ _ _ _))
      clear hK K hHeld10
      refine wpAnyH_take (i := 16) (v := ?_) rfl (by kernel_rfl) (by kernel_rfl) (by kernel_rfl) (fun _ _ _ h => h) (Or.inl ⟨by rfl, ?_⟩) (by assumption) ?_
      rotate_left
      · (intro w hSw; (try dsimp only at hSw); go_simp; try with_reducible rfl)
      try simp only [List.getElem_toArray, List.getElem_cons_succ, List.getElem_cons_zero, Act.put, List.setIfInBounds_toArray, List.set_cons_zero, List.set_cons_succ]
      refine wpAnyH_done (by kernel_rfl) ?_ _
      clear hHeld11
      go_wp2
      go_meet
      obtain ⟨nK, nV, nR, hsy, e1, h1, e2, h2, e3, h3, e4, h4, e5, h5⟩ := hV.out
      first
      | with_reducible exact ⟨_, N1, T1, P1, K1, V1, R1, rfl, rfl, hsy, loc_alloc new5 e1 h1 e2 h2 e3 h3 e4 h4 e5 h5, bel_alloc hkB _⟩
      | with_reducible exact ⟨_, N1, T1, P1, K1, V1, R1, rfl, rfl, hsy, loc_storeL hZ new5 e1 h1 e2 h2 e3 h3 e4 h4 e5 h5 nK nV nR, setL_below hkB hle _ _ _ _ _ _⟩
  case rest =>
  obtain ⟨lb, N', T', P', K', V', R', rfl, rfl, ⟨L, F, hcut, rfl, rfl, rfl⟩, hloc, hb6⟩ := hcut
  obtain ⟨Y6, rfl⟩ : ∃ X : World, X = wc := ⟨_, rfl⟩
  obtain ⟨a1, a2, a3, a4, a5, d1, d2, d3, d4, d5, l1, l2, l3', l4, l5, hrow, -, e1, h1, -, -, -, -, e4, h4, -, -⟩ := hloc
  obtain ⟨hF, hC, hcs⟩ := HSURF.out L F (by rw [← HBT.out]; exact hcut)
  rw [← HBT.out] at hC
  simp only [← HBT.out, ← HMT.out] at hcs
  have hVn : (cutV T F).length ≠ 1 := by
    have := HNE1.out L F (by rw [← HBT.out]; exact hcut)
    simpa [cutV] using this
  have hVl : (cutV T F).length = F.length := by simp [cutV]
  rw [← HL.out] at e1 h1
  obtain ⟨CT, hCT⟩ : ∃ C, C = cutT bays bt L F u := ⟨_, rfl⟩
  obtain ⟨VV, hVV⟩ : ∃ C, C = cutV T F := ⟨_, rfl⟩
  obtain ⟨nF, hnF⟩ : ∃ q, q = F.length := ⟨_, rfl⟩
  rw [← hCT] at e1 h1 hC
  rw [← hVV] at e4 h4 hVn hVl
  simp only [← hCT, ← hVV, ← hnF] at hcs
  rw [← hnF] at hrow hF hVl
  rw [hVl] at e4
  subst e1
  obtain rfl : nF = l4 := e4.symm
  obtain ⟨nC, hnC⟩ : ∃ q, q = CT.length := ⟨_, rfl⟩
  simp only [← hnC] at hcs hC hrow
  have HNC := Lib.hid hnC
  have HVL := Lib.hid hVl
  have HB6 := Lib.hid (below_more HBV.out hb6 HBV.out.size)
  have HB46 := Lib.hid (below_more HB5.out hb6 HB5.out.size)
  have HR6 := Lib.hid (HR5.out.after hb6)
  have HT6 := Lib.hid (HT5.out.mono (Nat.le_refl _) hb6)
  have HK6 := Lib.hid (HK5'.out.mono (Nat.le_refl _) hb6)
  have cm6 := (hb6.cell (p := ⟨g1, t, none⟩) HCM.out.2).trans HCM.out.1
  have hg6 : g1 < Y6.heap.size := by have := HCM.out.2; have := hb6.size; omega
  have HKC := Lib.hid (show ∀ w', Below Y6.heap.size Y6 w' → w'.cell? ⟨xb, 0, none⟩ = some (.int .i64 N) ∧ w'.cell? ⟨xb, 1, none⟩ = some (.slice ao u cap) ∧ w'.cell? ⟨g1, t, none⟩ = some (.int .i64 mt) from fun w' hb => ⟨(HR6.out.after hb).cell (i := 0) rfl, (HR6.out.after hb).cell (i := 1) rfl, (hb.cell (p := ⟨g1, t, none⟩) hg6).trans cm6⟩)
  have HCS := Lib.hid (show ∀ X, Below Y6.heap.size Y6 X → Calls Tryz.prog 20 #[.agg #[.int .i64 N, .slice ao u cap], .slice va m vc, .int .i64 mt] X fun e w' => ∃ b1 b2 b3 n3 f1 f2 f3, e = .returned (.tuple #[.agg #[.int .i64 (nF : Int), .slice b1 nC f1], .slice b2 nF f2, .slice b3 n3 f3, .int .i64 0]) ∧ Hid (nC = CT.length ∧ TrisAt w' b1 CT ∧ IntsAt w' b2 VV ∧ VV.length ≠ 1) ∧ Below X.heap.size X w' from fun X hX =>
    (hcs X va m vc rfl (HT6.out.mono (Nat.le_refl _) hX) (HK6.out.mono (Nat.le_refl _) hX)).mono fun e w' ⟨b1, b2, b3, n3, f1, f2, f3, h, hh, hb⟩ => ⟨b1, b2, b3, n3, f1, f2, f3, h, Lib.hid ⟨HNC.out, hh.out.1, hh.out.2, hVn⟩, hb⟩)
  have HROW := Lib.hid hrow
  have HTA := Lib.hid h1
  have HVA := Lib.hid h4
  have hFb : nF ≤ 90 := by omega
  have hCb : nC ≤ 30 := by omega
  clear hcut hrow h1 h4 hF hC hcs hVn hVl hCT hVV hnF hnC hb6 cm6 hg6
  have HDR6 := Lib.hid (show Below Y6.heap.size Y6 Y6.drew from ⟨rfl, rfl, rfl, Nat.le_refl _, fun _ _ => rfl⟩)
  go_upto_region 26 with fail
  go_cut [14, 15, 17] (fun s14 s15 s17 wc => ∃ (yb : Nat) (b2 : Option Addr) (f2 : Nat), s14 = .pointer (some ⟨yb, 0, none⟩) ∧ s15 = .slice b2 nF f2 ∧ s17 = .int .i64 0 ∧ SoupAt wc yb (nF : Int) CT b2 VV ∧ Below Y6.heap.size Y6 wc)
  case first =>
    as_aux_lemma =>
    (try clear HB); (try clear HT); (try clear HRI); (try clear HRR); (try clear HTY); (try clear HOO); (try clear HCU); (try clear HPC); (try clear HCB); (try clear HL); (try clear HBL); (try clear HL3); (try clear HR0); (try clear HB0); (try clear HW0); (try clear HB1); (try clear HR1); (try clear HT1); (try clear HY1); (try clear HG1); (try clear HB2); (try clear HOK); (try clear HR2); (try clear HT2); (try clear HY2); (try clear HS); (try clear HMI); (try clear HKI); (try clear HBX); (try clear HRX); (try clear HTX); (try clear HYX); (try clear HTB); (try clear HB3); (try clear HR3); (try clear HT3); (try clear HY3); (try clear HK3); (try clear HO1); (try clear HB4); (try clear HR4); (try clear HT4); (try clear HY4); (try clear HK4); (try clear HRM); (try clear HM); (try clear HCB1); (try clear HPC1); (try clear HBZ); (try clear HTT); (try clear HBT); (try clear HMT); (try clear HCT); (try clear HOB); (try clear HNE1); (try clear HSURF); (try clear HBV); (try clear HB5); (try clear HR5); (try clear HT5); (try clear HY5); (try clear HK5'); (try clear HCM); (try clear HNN); (try clear HB6); (try clear HB46); (try clear HR6); (try clear HT6); (try clear HK6); (try clear HNC); (try clear HVL); (try clear HROW); (try clear HTA); (try clear HVA); (try clear hFb); (try clear hCb); (try clear hi0); (try clear hz0); (try clear hz1); (try clear hz2); (try clear hTl); (try clear hBl); (try clear hl30); (try clear hN); (try clear hnb); (try clear hl3b); (try clear hmb); (try clear HXB)
    refine wp_region_held_drew (S := (fun w' => w'.cell? ⟨xb, 0, none⟩ = some (.int .i64 N) ∧ w'.cell? ⟨xb, 1, none⟩ = some (.slice ao u cap) ∧ w'.cell? ⟨g1, t, none⟩ = some (.int .i64 mt))) (by kernel_rfl) ?_ (fun hHeld0 => ?_)
    · ((try dsimp only); first | with_reducible exact HKC.out _ HDR6.out | with_reducible exact HKC.out _ hkB | with_reducible exact HKC.out _ (bel_drew (bel_alloc (Below.refl _ _) _)) | with_reducible exact HKC.out _ (bel_alloc HDR6.out _) | with_reducible exact HKC.out _ (bel_alloc hkB _) | with_reducible exact HKC.out _ (setL2_below hkB hle _ _) | with_reducible exact HKC.out _ (set2_below (bel_alloc hkB _) hkB.size _ _))
    refine wpAnyH_take (i := 0) (v := ?_) rfl (by kernel_rfl) (by kernel_rfl) (by kernel_rfl) (fun _ _ _ h => h) (Or.inl ⟨by rfl, ?_⟩) (by assumption) ?_
    rotate_left
    · (intro w hSw; (try dsimp only at hSw); go_simp; try with_reducible rfl)
    try simp only [List.getElem_toArray, List.getElem_cons_succ, List.getElem_cons_zero, Act.put, List.setIfInBounds_toArray, List.set_cons_zero, List.set_cons_succ]
    refine wpAnyH_take (i := 1) (v := ?_) rfl (by kernel_rfl) (by kernel_rfl) (by kernel_rfl) (fun _ _ _ h => h) (Or.inl ⟨by rfl, ?_⟩) (by assumption) ?_
    rotate_left
    · (intro w hSw; (try dsimp only at hSw); go_simp; try with_reducible rfl)
    try simp only [List.getElem_toArray, List.getElem_cons_succ, List.getElem_cons_zero, Act.put, List.setIfInBounds_toArray, List.set_cons_zero, List.set_cons_succ]
    refine wpAnyH_take (i := 2) (v := ?_) rfl (by kernel_rfl) (by kernel_rfl) (by kernel_rfl) (fun _ _ _ h => h) (Or.inl ⟨by rfl, ?_⟩) (by assumption) ?_
    rotate_left
    · (intro w hSw; (try dsimp only at hSw); go_simp; try with_reducible rfl)
    try simp only [List.getElem_toArray, List.getElem_cons_succ, List.getElem_cons_zero, Act.put, List.setIfInBounds_toArray, List.set_cons_zero, List.set_cons_succ]
    refine wpAnyH_take (i := 3) (v := ?_) rfl (by kernel_rfl) (by kernel_rfl) (by kernel_rfl) (fun _ _ _ h => h) (Or.inl ⟨by rfl, ?_⟩) (by assumption) ?_
    rotate_left
    · (intro w hSw; (try dsimp only at hSw); go_simp; try with_reducible rfl)
    try simp only [List.getElem_toArray, List.getElem_cons_succ, List.getElem_cons_zero, Act.put, List.setIfInBounds_toArray, List.set_cons_zero, List.set_cons_succ]
    refine wpAnyH_take (i := 4) (v := ?_) rfl (by kernel_rfl) (by kernel_rfl) (by kernel_rfl) (fun _ _ _ h => h) (Or.inl ⟨by rfl, ?_⟩) (by assumption) ?_
    rotate_left
    · (intro w hSw; (try dsimp only at hSw); go_simp; try with_reducible rfl)
    try simp only [List.getElem_toArray, List.getElem_cons_succ, List.getElem_cons_zero, Act.put, List.setIfInBounds_toArray, List.set_cons_zero, List.set_cons_succ]
    refine wpAnyH_take (i := 5) (v := ?_) rfl (by kernel_rfl) (by kernel_rfl) (by kernel_rfl) (fun _ _ _ h => h) (Or.inl ⟨by rfl, ?_⟩) (by assumption) ?_
    rotate_left
    · (intro w hSw; (try dsimp only at hSw); go_simp; try with_reducible rfl)
    try simp only [List.getElem_toArray, List.getElem_cons_succ, List.getElem_cons_zero, Act.put, List.setIfInBounds_toArray, List.set_cons_zero, List.set_cons_succ]
    refine wpAnyH_ready (rs := [6, 12]) (by kernel_rfl) (by simp) ?_
    refine AllReadyH.cons rfl (fun K hK => ?_) (AllReadyH.cons rfl (fun K hK => ?_) AllReadyH.nil)
    · skip
      go_simp
      go_wp2_with ((go_at_call 20; (with_reducible refine (HCS.out _ HDR6.out).mono ?_); rintro e wB ⟨b1, b2, b3, n3, f1, f2, f3, rfl, hV, hbB⟩; have hkB := bel_step HDR6.out hbB))
      refine hK.out _ _ ?_ (fun hHeld1 => ?_)
      · ((try dsimp only); first | with_reducible exact HKC.out _ HDR6.out | with_reducible exact HKC.out _ hkB | with_reducible exact HKC.out _ (bel_drew (bel_alloc (Below.refl _ _) _)) | with_reducible exact HKC.out _ (bel_alloc HDR6.out _) | with_reducible exact HKC.out _ (bel_alloc hkB _) | with_reducible exact HKC.out _ (setL2_below hkB hle _ _) | with_reducible exact HKC.out _ (set2_below (bel_alloc hkB _) hkB.size _ _))
      clear hK K hHeld0
      refine wpAnyH_take (i := 7) (v := ?_) rfl (by kernel_rfl) (by kernel_rfl) (by kernel_rfl) (fun _ _ _ h => h) (Or.inl ⟨by rfl, ?_⟩) (by assumption) ?_
      rotate_left
      · (intro w hSw; (try dsimp only at hSw); go_simp; try with_reducible rfl)
      try simp only [List.getElem_toArray, List.getElem_cons_succ, List.getElem_cons_zero, Act.put, List.setIfInBounds_toArray, List.set_cons_zero, List.set_cons_succ]
      refine wpAnyH_take (i := 8) (v := ?_) rfl (by kernel_rfl) (by kernel_rfl) (by kernel_rfl) (fun _ _ _ h => h) (Or.inl ⟨by rfl, ?_⟩) (by assumption) ?_
      rotate_left
      · (intro w hSw; (try dsimp only at hSw); go_simp; try with_reducible rfl)
      try simp only [List.getElem_toArray, List.getElem_cons_succ, List.getElem_cons_zero, Act.put, List.setIfInBounds_toArray, List.set_cons_zero, List.set_cons_succ]
      refine wpAnyH_take (i := 9) (v := ?_) rfl (by kernel_rfl) (by kernel_rfl) (by kernel_rfl) (fun _ _ _ h => h) (Or.inl ⟨by rfl, ?_⟩) (by assumption) ?_
      rotate_left
      · (intro w hSw; (try dsimp only at hSw); go_simp; try with_reducible rfl)
      try simp only [List.getElem_toArray, List.getElem_cons_succ, List.getElem_cons_zero, Act.put, List.setIfInBounds_toArray, List.set_cons_zero, List.set_cons_succ]
      refine wpAnyH_take (i := 10) (v := ?_) rfl (by kernel_rfl) (by kernel_rfl) (by kernel_rfl) (fun _ _ _ h => h) (Or.inl ⟨by rfl, ?_⟩) (by assumption) ?_
      rotate_left
      · (intro w hSw; (try dsimp only at hSw); go_simp; try with_reducible rfl)
      try simp only [List.getElem_toArray, List.getElem_cons_succ, List.getElem_cons_zero, Act.put, List.setIfInBounds_toArray, List.set_cons_zero, List.set_cons_succ]
      refine wpAnyH_take (i := 11) (v := ?_) rfl (by kernel_rfl) (by kernel_rfl) (by kernel_rfl) (fun _ _ _ h => h) (Or.inl ⟨by rfl, ?_⟩) (by assumption) ?_
      rotate_left
      · (intro w hSw; (try dsimp only at hSw); go_simp; try with_reducible rfl)
      try simp only [List.getElem_toArray, List.getElem_cons_succ, List.getElem_cons_zero, Act.put, List.setIfInBounds_toArray, List.set_cons_zero, List.set_cons_succ]
      refine wpAnyH_ready (rs := [12]) (by kernel_rfl) (by simp) ?_
      refine AllReadyH.cons rfl (fun K hK => ?_) AllReadyH.nil
      go_simp
      refine hK.out _ _ ?_ (fun hHeld2 => ?_)
      · ((try dsimp only); first | with_reducible exact HKC.out _ HDR6.out | with_reducible exact HKC.out _ hkB | with_reducible exact HKC.out _ (bel_drew (bel_alloc (Below.refl _ _) _)) | with_reducible exact HKC.out _ (bel_alloc HDR6.out _) | with_reducible exact HKC.out _ (bel_alloc hkB _) | with_reducible exact HKC.out _ (setL2_below hkB hle _ _) | with_reducible exact HKC.out _ (set2_below (bel_alloc hkB _) hkB.size _ _))
      clear hK K hHeld1
      refine wpAnyH_ready (rs := [13]) (by kernel_rfl) (by simp) ?_
      refine AllReadyH.cons rfl (fun K hK => ?_) AllReadyH.nil
      go_simp
      refine hK.out _ _ ?_ (fun hHeld3 => ?_)
      · ((try dsimp only); first | with_reducible exact HKC.out _ HDR6.out | with_reducible exact HKC.out _ hkB | with_reducible exact HKC.out _ (bel_drew (bel_alloc (Below.refl _ _) _)) | with_reducible exact HKC.out _ (bel_alloc HDR6.out _) | with_reducible exact HKC.out _ (bel_alloc hkB _) | with_reducible exact HKC.out _ (setL2_below hkB hle _ _) | with_reducible exact HKC.out _ (set2_below (bel_alloc hkB _) hkB.size _ _))
      clear hK K hHeld2
      refine wpAnyH_take (i := 14) (v := ?_) rfl (by kernel_rfl) (by kernel_rfl) (by kernel_rfl) (fun _ _ _ h => h) (Or.inl ⟨by rfl, ?_⟩) (by assumption) ?_
      rotate_left
      · (intro w hSw; (try dsimp only at hSw); go_simp; try with_reducible rfl)
      try simp only [List.getElem_toArray, List.getElem_cons_succ, List.getElem_cons_zero, Act.put, List.setIfInBounds_toArray, List.set_cons_zero, List.set_cons_succ]
      refine wpAnyH_take (i := 15) (v := ?_) rfl (by kernel_rfl) (by kernel_rfl) (by kernel_rfl) (fun _ _ _ h => h) (Or.inl ⟨by rfl, ?_⟩) (by assumption) ?_
      rotate_left
      · (intro w hSw; (try dsimp only at hSw); go_simp; try with_reducible rfl)
      try simp only [List.getElem_toArray, List.getElem_cons_succ, List.getElem_cons_zero, Act.put, List.setIfInBounds_toArray, List.set_cons_zero, List.set_cons_succ]
      refine wpAnyH_take (i := 16) (v := ?_) rfl (by kernel_rfl) (by kernel_rfl) (by kernel_rfl) (fun _ _ _ h => h) (Or.inl ⟨by rfl, ?_⟩) (by assumption) ?_
      rotate_left
      · (intro w hSw; (try dsimp only at hSw); go_simp; try with_reducible rfl)
      try simp only [List.getElem_toArray, List.getElem_cons_succ, List.getElem_cons_zero, Act.put, List.setIfInBounds_toArray, List.set_cons_zero, List.set_cons_succ]
      refine wpAnyH_done (by kernel_rfl) ?_ _
      clear hHeld3
      go_wp2
      go_meet
      obtain ⟨e1, h1, h2, n2⟩ := hV.out
      first
      | with_reducible exact ⟨_, b2, f2, rfl, rfl, rfl, soup_alloc e1 h1 h2, bel_alloc hkB _⟩
      | with_reducible exact ⟨_, b2, f2, rfl, rfl, rfl, soup_storeL hZ e1 h1 h2 n2, setL2_below hkB hle _ _⟩
    · skip
      go_simp
      refine hK.out _ _ ?_ (fun hHeld4 => ?_)
      · ((try dsimp only); first | with_reducible exact HKC.out _ HDR6.out | with_reducible exact HKC.out _ hkB | with_reducible exact HKC.out _ (bel_drew (bel_alloc (Below.refl _ _) _)) | with_reducible exact HKC.out _ (bel_alloc HDR6.out _) | with_reducible exact HKC.out _ (bel_alloc hkB _) | with_reducible exact HKC.out _ (setL2_below hkB hle _ _) | with_reducible exact HKC.out _ (set2_below (bel_alloc hkB _) hkB.size _ _))
      clear hK K hHeld0
      refine wpAnyH_ready (rs := [6]) (by kernel_rfl) (by simp) ?_
      refine AllReadyH.cons rfl (fun K hK => ?_) AllReadyH.nil
      go_simp
      go_wp2_with ((go_at_call 20; (with_reducible refine (HCS.out _ (bel_drew (bel_alloc (Below.refl _ _) _))).mono ?_); rintro e wB ⟨b1, b2, b3, n3, f1, f2, f3, rfl, hV, hbB⟩; have hkB := bel_step (bel_drew (bel_alloc (Below.refl Y6.heap.size Y6) _)) hbB; have hZ : RowIs wB Y6.heap.size 24 zsoup := RowIs.after (RowIs.drew1 (RowIs.made Y6 24 zsoup)) hbB; have hle : Y6.heap.size ≤ Y6.heap.size := Nat.le_refl _))
      refine hK.out _ _ ?_ (fun hHeld5 => ?_)
      · ((try dsimp only); first | with_reducible exact HKC.out _ HDR6.out | with_reducible exact HKC.out _ hkB | with_reducible exact HKC.out _ (bel_drew (bel_alloc (Below.refl _ _) _)) | with_reducible exact HKC.out _ (bel_alloc HDR6.out _) | with_reducible exact HKC.out _ (bel_alloc hkB _) | with_reducible exact HKC.out _ (setL2_below hkB hle _ _) | with_reducible exact HKC.out _ (set2_below (bel_alloc hkB _) hkB.size _ _))
      clear hK K hHeld4
      refine wpAnyH_take (i := 7) (v := ?_) rfl (by kernel_rfl) (by kernel_rfl) (by kernel_rfl) (fun _ _ _ h => h) (Or.inl ⟨by rfl, ?_⟩) (by assumption) ?_
      rotate_left
      · (intro w hSw; (try dsimp only at hSw); go_simp; try with_reducible rfl)
      try simp only [List.getElem_toArray, List.getElem_cons_succ, List.getElem_cons_zero, Act.put, List.setIfInBounds_toArray, List.set_cons_zero, List.set_cons_succ]
      refine wpAnyH_take (i := 8) (v := ?_) rfl (by kernel_rfl) (by kernel_rfl) (by kernel_rfl) (fun _ _ _ h => h) (Or.inl ⟨by rfl, ?_⟩) (by assumption) ?_
      rotate_left
      · (intro w hSw; (try dsimp only at hSw); go_simp; try with_reducible rfl)
      try simp only [List.getElem_toArray, List.getElem_cons_succ, List.getElem_cons_zero, Act.put, List.setIfInBounds_toArray, List.set_cons_zero, List.set_cons_succ]
      refine wpAnyH_take (i := 9) (v := ?_) rfl (by kernel_rfl) (by kernel_rfl) (by kernel_rfl) (fun _ _ _ h => h) (Or.inl ⟨by rfl, ?_⟩) (by assumption) ?_
      rotate_left
      · (intro w hSw; (try dsimp only at hSw); go_simp; try with_reducible rfl)
      try simp only [List.getElem_toArray, List.getElem_cons_succ, List.getElem_cons_zero, Act.put, List.setIfInBounds_toArray, List.set_cons_zero, List.set_cons_succ]
      refine wpAnyH_take (i := 10) (v := ?_) rfl (by kernel_rfl) (by kernel_rfl) (by kernel_rfl) (fun _ _ _ h => h) (Or.inl ⟨by rfl, ?_⟩) (by assumption) ?_
      rotate_left
      · (intro w hSw; (try dsimp only at hSw); go_simp; try with_reducible rfl)
      try simp only [List.getElem_toArray, List.getElem_cons_succ, List.getElem_cons_zero, Act.put, List.setIfInBounds_toArray, List.set_cons_zero, List.set_cons_succ]
      refine wpAnyH_take (i := 11) (v := ?_) rfl (by kernel_rfl) (by kernel_rfl) (by kernel_rfl) (fun _ _ _ h => h) (Or.inl ⟨by rfl, ?_⟩) (by assumption) ?_
      rotate_left
      · (intro w hSw; (try dsimp only at hSw); go_simp; try with_reducible rfl)
      try simp only [List.getElem_toArray, List.getElem_cons_succ, List.getElem_cons_zero, Act.put, List.setIfInBounds_toArray, List.set_cons_zero, List.set_cons_succ]
      refine wpAnyH_ready (rs := [13]) (by kernel_rfl) (by simp) ?_
      refine AllReadyH.cons rfl (fun K hK => ?_) AllReadyH.nil
      rw [if_pos (by rfl)]
      refine wp_storeL _ _ _ rfl Y6.heap.size [.int .i64 (nF : Int), .slice b1 nC f1] rfl rfl hZ rfl (by kernel_rfl) (by intro v hv; simp only [List.mem_cons, List.not_mem_nil, or_false] at hv; rcases hv with rfl | rfl <;> rfl) ?_
      refine hK.out _ _ ?_ (fun hHeld6 => ?_)
      · ((try dsimp only); first | with_reducible exact HKC.out _ HDR6.out | with_reducible exact HKC.out _ hkB | with_reducible exact HKC.out _ (bel_drew (bel_alloc (Below.refl _ _) _)) | with_reducible exact HKC.out _ (bel_alloc HDR6.out _) | with_reducible exact HKC.out _ (bel_alloc hkB _) | with_reducible exact HKC.out _ (setL2_below hkB hle _ _) | with_reducible exact HKC.out _ (set2_below (bel_alloc hkB _) hkB.size _ _))
      clear hK K hHeld5
      refine wpAnyH_take (i := 14) (v := ?_) rfl (by kernel_rfl) (by kernel_rfl) (by kernel_rfl) (fun _ _ _ h => h) (Or.inl ⟨by rfl, ?_⟩) (by assumption) ?_
      rotate_left
      · (intro w hSw; (try dsimp only at hSw); go_simp; try with_reducible rfl)
      try simp only [List.getElem_toArray, List.getElem_cons_succ, List.getElem_cons_zero, Act.put, List.setIfInBounds_toArray, List.set_cons_zero, List.set_cons_succ]
      refine wpAnyH_take (i := 15) (v := ?_) rfl (by kernel_rfl) (by kernel_rfl) (by kernel_rfl) (fun _ _ _ h => h) (Or.inl ⟨by rfl, ?_⟩) (by assumption) ?_
      rotate_left
      · (intro w hSw; (try dsimp only at hSw); go_simp; try with_reducible rfl)
      try simp only [List.getElem_toArray, List.getElem_cons_succ, List.getElem_cons_zero, Act.put, List.setIfInBounds_toArray, List.set_cons_zero, List.set_cons_succ]
      refine wpAnyH_take (i := 16) (v := ?_) rfl (by kernel_rfl) (by kernel_rfl) (by kernel_rfl) (fun _ _ _ h => h) (Or.inl ⟨by rfl, ?_⟩) (by assumption) ?_
      rotate_left
      · (intro w hSw; (try dsimp only at hSw); go_simp; try with_reducible rfl)
      try simp only [List.getElem_toArray, List.getElem_cons_succ, List.getElem_cons_zero, Act.put, List.setIfInBounds_toArray, List.set_cons_zero, List.set_cons_succ]
      refine wpAnyH_done (by kernel_rfl) ?_ _
      clear hHeld6
      go_wp2
      go_meet
      obtain ⟨e1, h1, h2, n2⟩ := hV.out
      first
      | with_reducible exact ⟨_, b2, f2, rfl, rfl, rfl, soup_alloc e1 h1 h2, bel_alloc hkB _⟩
      | with_reducible exact ⟨_, b2, f2, rfl, rfl, rfl, soup_storeL hZ e1 h1 h2 n2, setL2_below hkB hle _ _⟩
  case rest =>
  obtain ⟨yb, b2, f2, rfl, rfl, rfl, ⟨b1, f1, n1, hrs, en1, hs1, hs2⟩, hb7⟩ := hcut
  obtain ⟨Y7, rfl⟩ : ∃ X : World, X = wc := ⟨_, rfl⟩
  obtain rfl : n1 = nC := by rw [en1, HNC.out]
  have HB7 := Lib.hid (below_more HB6.out hb7 HB6.out.size)
  have hr7 := HROW.out.after hb7
  have HR7 := Lib.hid hr7
  have HTA7 := HTA.out.mono (Nat.le_refl _) hb7
  have hsa := same08 (nF : Int) a1 b1 d1 f1 CT Y7 (by rw [← HNC.out]; omega) HTA7 hs1
  rw [← HNC.out] at hsa
  have HSAM := Lib.hid hsa
  have hin := fun (X : World) (h : Below Y7.heap.size Y7 X) => ints08 a4 b2 d4 f2 VV VV X (by rw [HVL.out]; omega) ((HVA.out.mono (Nat.le_refl _) hb7).mono (Nat.le_refl _) h) (hs2.mono (Nat.le_refl _) h)
  simp only [HVL.out, decide_true] at hin
  have HINT := Lib.hid hin
  have u0 := hr7.cell (i := 0) rfl
  have u1 := hr7.cell (i := 1) rfl
  have u4 := hr7.cell (i := 4) rfl
  have y0 := hrs.cell (i := 0) rfl
  have y1 := hrs.cell (i := 1) rfl
  clear en1 hs1 hs2 hr7 HTA7 hsa hin hb7 hrs
  go_wp2_with fail
  refine HSAM.out.mono ?_
  rintro e w8 ⟨rfl, hb8⟩
  have HB8 := Lib.hid (below_more HB7.out hb8 HB7.out.size)
  have hr8 := HR7.out.after hb8
  have u4 := hr8.cell (i := 4) rfl
  have HI8 := Lib.hid (HINT.out w8 hb8)
  clear hb8 hr8
  go_wp2_with fail
  refine HI8.out.mono ?_
  rintro e w9 ⟨rfl, hb9⟩
  have HB9 := Lib.hid (below_more HB8.out hb9 HB8.out.size)
  clear hb9
  go_wp2
  go_roundw
  case rel => exact ⟨t + 1, by have := HTT.out; omega, by go_num, HB9.out⟩
  case measure => simp [intOf]; have := HTT.out; omega
end Go.Proofs.YtfbpjlfimmjieaaGreat

/- gypsumlaw40.great, gypsumref40.Right, gypsumlaw40.right. rim.Of of a surface with right bays; gypsumlaw40.points, square. -/
import Derived.Test.YtfbpjlfimmjieaaGreatIs15b
import Derived.Test.YtfbpjlfimmjieaaGreatRimTab
import Derived.Test.YtfbpjlfimmjieaaGreatRims
import Derived.Test.YtfbpjlfimmjieaaGreatRowFam
namespace Go.Proofs.YtfbpjlfimmjieaaGreat
set_option linter.unusedVariables false
set_option linter.unusedSimpArgs false
open Go.RowKit
def grB (N : Int) (l bl : Nat) : Bool := decide (30 < l) || decide (100 < N) || decide (60 < bl)
set_option maxHeartbeats 1000000 in
theorem great40 (N : Int) (ao : Option Addr) (l cap : Nat) (bo : Option Addr) (bl bcap : Nat) (w : World) :
    Calls Tryz.prog 74 #[.agg #[.int .i64 N, .slice ao l cap], .slice bo bl bcap] w fun e w' => e = .returned (.bool (grB N l bl)) ∧ Below w.heap.size w w' := by
  obtain ⟨r, hr⟩ : ∃ r, r = grB N l bl := ⟨_, rfl⟩
  rw [← hr]
  unfold grB at hr
  have e1 : decide ((30 : Int) < (l : Int)) = decide (30 < l) := by simp; omega
  have e3 : decide ((60 : Int) < (bl : Int)) = decide (60 < bl) := by simp; omega
  cases h1 : decide (30 < l) <;> cases h2 : decide (100 < N) <;> cases h3 : decide (60 < bl) <;> simp only [h1, h2, h3, Bool.or_false, Bool.or_true] at hr <;> subst hr
  all_goals
    rw [h1] at e1
    rw [h3] at e3
    have g1 : decide ((l : Int) > 30) = _ := e1
    have g2 : decide (N > 100) = _ := h2
    have g3 : decide ((bl : Int) > 60) = _ := e3
    go_enter Tryz.func74, Tryz.ntmps74
    go_wp2
    go_ret
    exact ⟨rfl, (Below.refl _ _).alloc (Nat.le_refl _) _⟩
set_option maxRecDepth 100000 in
set_option maxHeartbeats 1000000 in
theorem right40r (n : Nat) (bo : Option Addr) (bcap : Nat) (bays : List Int) (w : World) (hB : IntsAt w bo bays) (hl : bays.length ≤ 100000) :
    Calls Tryz.prog 75 #[.int .i64 (n : Int), .slice bo bays.length bcap] w (BoolPost (BaysOK n bays) w) := by
  obtain ⟨bl, hbl⟩ : ∃ l, l = bays.length := ⟨_, rfl⟩
  rw [← hbl] at hl ⊢
  have HB := Lib.hid hB
  have HBL := Lib.hid hbl
  clear hB hbl
  go_enter Tryz.func75, Tryz.ntmps75
  go_wp2
  go_loopw [5] (fun c ws => ∃ k : Nat, k ≤ bl ∧ c = .int .i64 k ∧ (∀ i, i < k → 0 ≤ I! bays i ∧ I! bays i < 256) ∧ ws = w) (fun c _ => bl - (intOf c).toNat)
  case atStart => exact ⟨0, by omega, rfl, fun i h => by omega, rfl⟩
  case round =>
    obtain ⟨k, hk, rfl, hok, rfl⟩ := hrel
    obtain ⟨w, rfl⟩ : ∃ x : World, x = wr := ⟨_, rfl⟩
    have HOK := Lib.hid hok
    clear hok
    by_cases hkb : k < bl
    · obtain ⟨b, off, x, hE, hx, hc, -, -⟩ := HB.out.get (Nat.le_refl _) (Below.refl _ _) (i := k) (by rw [← HBL.out]; exact hkb)
      subst hE
      have HX := Lib.hid (show ¬ (0 ≤ x ∧ x < 256) → ¬ BaysOK n bays from fun h hb => h (by
        have hm : I! bays k ∈ bays := by
          have hl : k < bays.length := by rw [← HBL.out]; exact hkb
          unfold I!
          rw [List.getD_eq_getElem?_getD, List.getElem?_eq_getElem hl]
          exact List.getElem_mem hl
        have := hb.2 _ hm
        rw [hx.out] at this
        exact this))
      by_cases h0 : x < 0
      · have d0 : decide (x < 0) = true := by simpa using h0
        have HF := Lib.hid (HX.out (by omega))
        clear h0
        go_wp2
        exact bodyPost_ret (v := .bool false) (by simp [results, Tryz.results75, go_sem]) rfl ⟨_, rfl, says_no HF.out, Below.refl _ _⟩
      · have d0 : decide (x < 0) = false := by simpa using h0
        by_cases h1 : 255 < x
        · have d1 : decide (x > 255) = true := by simpa using h1
          have d2 : decide (255 < x) = true := by simpa using h1
          have HF := Lib.hid (HX.out (by omega))
          clear h0 h1
          go_wp2
          exact bodyPost_ret (v := .bool false) (by simp [results, Tryz.results75, go_sem]) rfl ⟨_, rfl, says_no HF.out, Below.refl _ _⟩
        · have d1 : decide (x > 255) = false := by simpa using h1
          have d2 : decide (255 < x) = false := by simpa using h1
          have HN := Lib.hid (show 0 ≤ x ∧ x < 256 by omega)
          clear h0 h1
          go_wp2
          go_roundw
          case rel => exact ⟨k + 1, by omega, by go_num, fun i hi => by
            by_cases e : i = k
            · subst e; rw [hx.out]; exact HN.out
            · exact HOK.out i (by omega), by trivial⟩
          case measure => simp [intOf]; omega
    · obtain rfl : k = bl := by omega
      have HALL := Lib.hid (show ∀ b ∈ bays, 0 ≤ b ∧ b < 256 from fun b hb => by
        obtain ⟨i, hi, rfl⟩ := List.mem_iff_getElem.1 hb
        have := HOK.out i (by rw [HBL.out]; exact hi)
        unfold I! at this
        simpa [List.getD_eq_getElem?_getD, hi] using this)
      by_cases hn : k = n
      · have d0 : ((k : Int) == (n : Int)) = true := by simp; omega
        have d1 : (k == n) = true := by simpa using hn
        have HY := Lib.hid (show BaysOK n bays from ⟨by rw [← HBL.out]; exact hn, HALL.out⟩)
        clear hn
        go_wp2
        exact bodyPost_ret (v := .bool true) (by simp [results, Tryz.results75, go_sem]) rfl ⟨_, rfl, says_yes HY.out, Below.refl _ _⟩
      · have d0 : ((k : Int) == (n : Int)) = false := by simp; omega
        have d1 : (k == n) = false := by simpa using hn
        have HY := Lib.hid (show ¬ BaysOK n bays from fun h => hn (by rw [HBL.out]; exact h.1))
        clear hn
        go_wp2
        exact bodyPost_ret (v := .bool false) (by simp [results, Tryz.results75, go_sem]) rfl ⟨_, rfl, says_no HY.out, Below.refl _ _⟩
/-- What layer 40 looks at. -/
def Right40 (N : Int) (T : List Tr) (bays : List Int) : Prop := grB N T.length bays.length = false ∧ Surf N T ∧ BaysOK T.length bays
set_option maxRecDepth 100000 in
set_option maxHeartbeats 1000000 in
theorem right40 (N : Int) (ao : Option Addr) (cap : Nat) (T : List Tr) (bo : Option Addr) (bcap : Nat) (bays : List Int) (w : World) (hT : TrisAt w ao T) (hB : IntsAt w bo bays) :
    Calls Tryz.prog 36 #[.agg #[.int .i64 N, .slice ao T.length cap], .slice bo bays.length bcap] w (BoolPost (Right40 N T bays) w) := by
  obtain ⟨W0, hW0⟩ : ∃ W0, W0 = w.alloc (.cells #[.int .i64 N, .slice ao T.length cap] 24) := ⟨_, rfl⟩
  have hb0 : Below w.heap.size w W0 := by rw [hW0]; exact (Below.refl _ _).alloc (Nat.le_refl _) _
  have hr0 : RowIs W0 w.heap.size 24 [.int .i64 N, .slice ao T.length cap] := by rw [hW0]; exact RowIs.made w 24 [.int .i64 N, .slice ao T.length cap]
  have HG := Lib.hid (great40 N ao T.length cap bo bays.length bcap W0)
  have HT := Lib.hid (hT.mono (Nat.le_refl _) hb0)
  have HB := Lib.hid (hB.mono (Nat.le_refl _) hb0)
  have hw0 : w.heap.size < W0.heap.size := hr0.lt
  have HR0 := Lib.hid hr0
  have HB0 := Lib.hid hb0
  have HIS := Lib.hid (fun (X : World) (h : TrisAt X ao T) (hl : T.length ≤ 10000) => is15 N ao cap T X h hl)
  have HRI := Lib.hid (fun (X : World) (h : IntsAt X bo bays) (hl : bays.length ≤ 100000) => right40r T.length bo bcap bays X h hl)
  have HRS2 := Lib.hid (show ∀ k, k = T.length → (BaysOK k bays ↔ BaysOK T.length bays) from fun k h => by rw [h])
  obtain ⟨len, hlen⟩ : ∃ l, l = T.length := ⟨_, rfl⟩
  obtain ⟨bl, hbl⟩ : ∃ l, l = bays.length := ⟨_, rfl⟩
  have HPG := Lib.hid (show grB N T.length bays.length = grB N len bl from by rw [hlen, hbl])
  rw [← hlen] at hW0 HR0 HG HIS HRI ⊢
  rw [← hbl] at HG HRI ⊢
  have HW0 := Lib.hid hW0
  have HLE := Lib.hid (HRS2.out len hlen)
  clear hT hB hb0 hr0 hW0 hlen hbl HRS2
  go_enter Tryz.func36, Tryz.ntmps36
  go_upto_region 1 with fail
  rw [← HW0.out]
  have c0 := HR0.out.cell (i := 0) rfl
  have c1 := HR0.out.cell (i := 1) rfl
  cases hg : grB N len bl
  · rw [hg] at HG
    have hgb : len ≤ 30 ∧ bl ≤ 60 := by
      unfold grB at hg
      simp at hg
      omega
    go_wp2_with fail
    refine HG.out.mono ?_
    rintro e w1 ⟨rfl, hb1⟩
    have HB1 := Lib.hid (below_more HB0.out hb1 HB0.out.size)
    have HI1 := Lib.hid (HIS.out w1 (HT.out.mono (Nat.le_refl _) hb1) (by omega))
    have HBY1 := Lib.hid (HB.out.mono (Nat.le_refl _) hb1)
    have hr1 := HR0.out.below hb1 HR0.out.lt
    have c0 := hr1.cell (i := 0) rfl
    have c1 := hr1.cell (i := 1) rfl
    have HR1 := Lib.hid hr1
    have HGF := Lib.hid hg
    clear hb1 hr1 hg
    go_wp2_with fail
    refine HI1.out.mono ?_
    rintro e w2 ⟨r1, rfl, hs1, hb2⟩
    have HB2 := Lib.hid (below_more HB1.out hb2 HB1.out.size)
    have HRX := Lib.hid (HRI.out w2 (HBY1.out.mono (Nat.le_refl _) hb2) (by omega))
    have hr2 := HR1.out.below hb2 HR1.out.lt
    have c1 := hr2.cell (i := 1) rfl
    have HS1 := Lib.hid hs1
    clear hb2 hr2 hs1
    cases r1
    · have HN := Lib.hid (show ¬ Right40 N T bays from fun h => by have := HS1.out.2 h.2.1; cases this)
      go_wp2
      exact bodyPost_ret (v := .bool false) (by simp [results, Tryz.results36, go_sem]) rfl ⟨_, rfl, says_no HN.out, HB2.out⟩
    · go_wp2_with fail
      refine HRX.out.mono ?_
      rintro e w3 ⟨r2, rfl, hs2, hb3⟩
      have HF := Lib.hid (show SaysB r2 (Right40 N T bays) from ⟨fun h => ⟨by rw [HPG.out]; exact HGF.out, HS1.out.1 rfl, HLE.out.1 (hs2.1 h)⟩, fun h => hs2.2 (HLE.out.2 h.2.2)⟩)
      have HB3 := Lib.hid (below_more HB2.out hb3 HB2.out.size)
      clear hs2 hb3
      go_wp2
      exact bodyPost_ret (v := .bool r2) (by simp [results, Tryz.results36, go_sem]) rfl ⟨_, rfl, HF.out, HB3.out⟩
  · rw [hg] at HG
    have HN := Lib.hid (show ¬ Right40 N T bays from fun h => by have := h.1; rw [HPG.out, hg] at this; cases this)
    clear hg
    go_wp2_with fail
    refine HG.out.mono ?_
    rintro e w1 ⟨rfl, hb1⟩
    have HB1 := Lib.hid (below_more HB0.out hb1 HB0.out.size)
    clear hb1
    go_wp2
    exact bodyPost_ret (v := .bool false) (by simp [results, Tryz.results36, go_sem]) rfl ⟨_, rfl, says_no HN.out, HB1.out⟩
set_option maxRecDepth 100000 in
set_option maxHeartbeats 1000000 in
theorem of40_ok (n : Nat) (ao : Option Addr) (cap : Nat) (T : List Tr) (bo : Option Addr) (bcap : Nat) (bays : List Int) (w : World) (hT : TrisAt w ao T) (hB : IntsAt w bo bays) (hs : Surf n T) (hok : BaysOK T.length bays) :
    Calls Tryz.prog 72 #[.agg #[.int .i64 (n : Int), .slice ao T.length cap], .slice bo bays.length bcap] w fun e w' => ∃ a c, e = .returned (.tuple #[.slice a (rimL T bays n).length c, .int .i64 0]) ∧ IntsAt w' a ((rimL T bays n).map fun (x : Nat) => (x : Int)) ∧ Below w.heap.size w w' := by
  obtain ⟨W0, hW0⟩ : ∃ W0, W0 = w.alloc (.cells #[.int .i64 (n : Int), .slice ao T.length cap] 24) := ⟨_, rfl⟩
  have hb0 : Below w.heap.size w W0 := by rw [hW0]; exact (Below.refl _ _).alloc (Nat.le_refl _) _
  have hr0 : RowIs W0 w.heap.size 24 [.int .i64 (n : Int), .slice ao T.length cap] := by rw [hW0]; exact RowIs.made w 24 [.int .i64 (n : Int), .slice ao T.length cap]
  have hbl : bays.length ≤ 100000 := by have := hok.1; have := hs.t1; omega
  have HC := Lib.hid (table_ok n ao cap T bo bcap bays W0 (hT.mono (Nat.le_refl _) hb0) (hB.mono (Nat.le_refl _) hb0) hs hbl)
  have HR := Lib.hid (fun (X : World) (h1 : TrisAt X ao T) (h2 : IntsAt X bo bays) => rims_ok n ao cap T bo bcap bays X h1 h2 hs hok)
  have HT := Lib.hid (hT.mono (Nat.le_refl _) hb0)
  have HB := Lib.hid (hB.mono (Nat.le_refl _) hb0)
  have HOK := Lib.hid hok
  have HB0 := Lib.hid hb0
  have HR0 := Lib.hid hr0
  obtain ⟨len, hlen⟩ : ∃ l, l = T.length := ⟨_, rfl⟩
  obtain ⟨bl, hbl'⟩ : ∃ l, l = bays.length := ⟨_, rfl⟩
  rw [← hlen] at hW0 HC HR HR0 ⊢
  rw [← hbl'] at HC HR ⊢
  have HW0 := Lib.hid hW0
  clear hT hB hb0 hr0 hW0 hlen hbl' hbl hs hok
  go_enter Tryz.func72, Tryz.ntmps72
  go_upto_region 1 with fail
  rw [← HW0.out]
  have c0 := HR0.out.cell (i := 0) rfl
  have c1 := HR0.out.cell (i := 1) rfl
  go_wp2_with fail
  refine HC.out.mono ?_
  rintro e w1 ⟨hcase, hb1⟩
  obtain ⟨p, rfl, -, -⟩ := (hcase.resolve_right (fun h => h.1 HOK.out)).2
  have HB1 := Lib.hid (below_more HB0.out hb1 HB0.out.size)
  have HC2 := Lib.hid (HR.out w1 (HT.out.mono (Nat.le_refl _) hb1) (HB.out.mono (Nat.le_refl _) hb1))
  have hr1 := HR0.out.below hb1 HR0.out.lt
  have c0 := hr1.cell (i := 0) rfl
  have c1 := hr1.cell (i := 1) rfl
  clear hcase hb1 hr1
  go_wp2_with fail
  refine HC2.out.mono ?_
  rintro e w2 ⟨v, rfl, hown, hb2⟩
  have HB2 := Lib.hid (below_more HB1.out hb2 HB1.out.size)
  obtain ⟨a, c, rfl⟩ := owns_slice hown
  have HO := Lib.hid (owns_nl hown)
  clear hown hb2
  go_wp2
  exact bodyPost_ret (v := .tuple #[.slice a (rimL T bays n).length c, .int .i64 0]) (by simp [results, Tryz.results72, go_sem]) rfl ⟨a, c, rfl, HO.out, HB2.out⟩
/-- Of each vertex a point of its own. -/
def ptsL (n : Nat) : List Tr := (List.range n).map fun (v : Nat) => ((v : Int), -(v : Int), 7)
theorem ptsL_succ (n : Nat) : ptsL (n + 1) = ptsL n ++ [((n : Int), -(n : Int), 7)] := by simp [ptsL, List.range_succ]
theorem ptsL_len (n : Nat) : (ptsL n).length = n := by simp [ptsL]
theorem infoPt0 : (Tryz.prog.info? 108).map (fun i => (i.zero, i.size, i.bytes)) = some (some (.agg #[.int .i64 0, .int .i64 0, .int .i64 0]), 3, 24) := by kernel_rfl
set_option maxRecDepth 100000 in
set_option maxHeartbeats 1000000 in
theorem points40 (n : Nat) (w : World) (hn : n ≤ 10000) :
    Calls Tryz.prog 38 #[.int .i64 (n : Int)] w fun e w' => ∃ a c, e = .returned (.slice a n c) ∧ TrisAt w' a (ptsL n) ∧ Below w.heap.size w w' := by
  obtain ⟨i0, hi, hz0, hz1, hz2⟩ := info_parts infoPt0
  go_enter Tryz.func38, Tryz.ntmps38
  go_wp2
  go_loopw [4, 3] (fun c u ws => ∃ k : Nat, k ≤ n ∧ c = .int .i64 k ∧ ws.ownsRow w.heap.size 108 3 u k (tcells (ptsL k)) ∧ Below w.heap.size w ws) (fun c _ _ => n - (intOf c).toNat)
  case atStart => exact ⟨0, by omega, rfl, by exact World.ownsRow_nil _ _ _ _, Below.refl _ _⟩
  case round =>
    obtain ⟨k, hk, rfl, hown, hb⟩ := hrel
    by_cases hkn : k < n
    · have HW := Lib.hid hown
      have HB := Lib.hid hb
      have hs5 := hb.size
      clear hown hb
      go_wp2_with (at_builtin; refine wpList_append_new _ rfl _ _ 59 rfl w.heap.size 108 i0 _ 3 24 (by kernel_rfl) hi hz0 hz1 hz2 rfl (by decide) _ _ _ rfl HW.out _ _ _ rfl (by first | rfl | simp) rfl ?_ ?_ ?_ ?_ ?_)
      all_goals first | rfl | omega | (unfold maxLen; omega) | exact ⟨rfl, rfl, rfl⟩ | skip
      · intro v' w5 hown5 hbel hgr
        have HW5 := Lib.hid hown5
        have HB6 := Lib.hid (hbel w.heap.size _ (Nat.le_refl _) HB.out)
        clear hown5 hbel hgr
        go_wp2
        go_roundw
        case rel => exact ⟨k + 1, by omega, by go_num, by
          rw [ptsL_succ, tcells_snoc]
          exact HW5.out, HB6.out⟩
        case measure => simp [intOf]; omega
    · obtain rfl : k = n := by omega
      obtain ⟨a, c, e, ht⟩ := owns_tris (L := ptsL k) (by rw [ptsL_len]; exact hown)
      rw [ptsL_len] at e
      subst e
      have HT := Lib.hid ht
      have HB := Lib.hid hb
      clear hown hb ht
      go_wp2
      go_ret
      exact ⟨a, c, rfl, HT.out, HB.out⟩
def squareT : List Tr := [(0, 1, 4), (1, 2, 4), (2, 3, 4), (3, 0, 4)]
set_option maxRecDepth 100000 in
set_option maxHeartbeats 1000000 in
theorem square40 (w : World) :
    Calls Tryz.prog 73 #[] w fun e w' => ∃ a, e = .returned (.agg #[.int .i64 5, .slice a 4 4]) ∧ TrisAt w' a squareT ∧ Below w.heap.size w w' := by
  go_enter Tryz.func73, Tryz.ntmps73
  go_wp2
  obtain ⟨W, hW⟩ : ∃ W, W = (w.alloc (.cells #[.int .i64 5, .slice (some ⟨w.heap.size + 1, 0, none⟩) 4 4] 24)).alloc (.cells #[.int .i64 0, .int .i64 1, .int .i64 4, .int .i64 1, .int .i64 2, .int .i64 4, .int .i64 2, .int .i64 3, .int .i64 4, .int .i64 3, .int .i64 0, .int .i64 4] 49) := ⟨_, rfl⟩
  rw [← hW]
  have hr0 : RowIs W w.heap.size 24 [.int .i64 5, .slice (some ⟨w.heap.size + 1, 0, none⟩) 4 4] := by rw [hW]; exact (RowIs.made w 24 [.int .i64 5, .slice (some ⟨w.heap.size + 1, 0, none⟩) 4 4]).alloc _
  have hr1 : RowIs W (w.heap.size + 1) 49 (tcells squareT) := by rw [hW]; exact RowIs.made' _ _ (tcells squareT) _ (by simp)
  have hb : Below w.heap.size w W := by rw [hW]; exact ((Below.refl _ _).alloc (Nat.le_refl _) _).alloc (by simp) _
  obtain ⟨a, c, e, ht⟩ : ∃ a c, Value.slice (some ⟨w.heap.size + 1, 0, none⟩) 4 4 = .slice a squareT.length c ∧ TrisAt W a squareT := owns_tris (L := squareT) (hr1.owns (base := w.heap.size) (size := 3) (n := 4) (by omega) rfl (by decide))
  have y0 := hr0.cell (i := 0) rfl
  have y1 := hr0.cell (i := 1) rfl
  have HF := Lib.hid (show TrisAt W (some ⟨w.heap.size + 1, 0, none⟩) squareT from by simp only [Value.slice.injEq] at e; rw [e.1]; exact ht)
  have HB := Lib.hid hb
  clear hW hr0 hr1 hb e ht
  exact bodyPost_ret (v := .agg #[.int .i64 5, .slice (some ⟨w.heap.size + 1, 0, none⟩) 4 4]) (by simp [results, Tryz.results73, go_sem, y0, y1]) rfl ⟨_, rfl, HF.out, HB.out⟩
end Go.Proofs.YtfbpjlfimmjieaaGreat

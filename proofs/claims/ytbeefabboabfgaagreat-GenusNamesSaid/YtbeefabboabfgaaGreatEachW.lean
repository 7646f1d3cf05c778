/- soup.Mirror$1, soup.Rename$1, and soup.each of each of them. gypsumlaw14.GenusNames, plain: a surface in the mirror, and with other names. gypsumlaw14.GenusNames, plain: the triangles in another order, each turned. Surfaces of the same numbers and kinds as one; a row of such in memory. soup.Mirror of any soup; soup.Rename of a surface. soup.Rename of a surface. soup.Pick of a surface. -/
import Derived.Test.YtbeefabboabfgaaGreatSoupFitsG
import Derived.Test.YtbeefabboabfgaaGreatAppAny
import Derived.Deep.RegionHeld3
import Derived.Test.YtbeefabboabfgaaGreatIsoLaw
import Derived.Test.YtbeefabboabfgaaGreatKinds
import Derived.Test.YtbeefabboabfgaaGreatLoopsW
import Derived.Test.YtbeefabboabfgaaGreatIntsDef
import Derived.StillTailTactics
namespace Go.Proofs.YtbeefabboabfgaaGreat
set_option linter.unusedVariables false
set_option linter.unusedSimpArgs false
open Go.RowKit
/-- A triangle as a value. -/
def triV (t : Tr) : Value := .agg #[.int .i64 t.1, .int .i64 t.2.1, .int .i64 t.2.2]
set_option maxRecDepth 100000 in
set_option maxHeartbeats 1500000 in
theorem each_mirror (F : Tr → Tr) (N : Int) (ao : Option Addr) (cap : Nat) (T : List Tr) (w : World) (hT : TrisAt w ao T) (hl : T.length ≤ 8192)
    (hF : ∀ X i, i < T.length → Below w.heap.size w X → Calls Tryz.prog 53 #[triV (T! T i)] X fun e w' => e = .returned (triV (F (T! T i))) ∧ Below X.heap.size X w') :
    Calls Tryz.prog 52 #[.agg #[.int .i64 N, .slice ao T.length cap], .func (.func 53) #[] #[]] w fun e w' => ∃ ao' cap', e = .returned (.agg #[.int .i64 N, .slice ao' T.length cap']) ∧ w'.ownsRow w.heap.size 62 3 (.slice ao' T.length cap') T.length (tcells (T.map F)) ∧ Below w.heap.size w w' := by
  obtain ⟨i4, hi4, hx0, hx1, hx2⟩ := info_parts info49
  obtain ⟨B, hB⟩ : ∃ B, B = w.heap.size := ⟨_, rfl⟩
  obtain ⟨n, hn⟩ : ∃ n, n = T.length := ⟨_, rfl⟩
  obtain ⟨W0, hW0⟩ : ∃ W0, W0 = ((w.alloc (.cells #[.int .i64 N, .slice ao n cap] 24)).alloc (.cells #[.int .i64 0, .slice none 0 0] 24)).alloc (.cells #[.int .i64 N, .slice none 0 0] 24) := ⟨_, rfl⟩
  have HB0 := Lib.hid (show Below B w W0 from by rw [hW0, hB]; exact (((Below.refl _ _).alloc (Nat.le_refl _) _).alloc (by simp) _).alloc (by simp; omega) _)
  have HS0 := Lib.hid (show RowIs W0 B 24 [.int .i64 N, .slice ao n cap] from by rw [hW0, hB]; exact ((RowIs.made w 24 [.int .i64 N, .slice ao n cap]).alloc _).alloc _)
  have HR0 := Lib.hid (show RowIs W0 (B + 1) 24 [.int .i64 0, .slice none 0 0] from by rw [hW0, hB]; exact (row_two w _ 24 [.int .i64 0, .slice none 0 0]).alloc _)
  have HX0 := Lib.hid (show RowIs W0 (B + 2) 24 [.int .i64 N, .slice none 0 0] from by rw [hW0, hB]; exact RowIs.made' _ _ [.int .i64 N, .slice none 0 0] _ (by simp))
  have HBB := Lib.hid hB
  have HN := Lib.hid hn
  rw [← hn] at hl ⊢
  have HT := Lib.hid (show ∀ X, Below B w X → TrisAt X ao T from fun X h => hT.mono (by rw [hB]; exact Nat.le_refl _) h)
  have HF := Lib.hid (show ∀ X i, i < n → Below B w X → Calls Tryz.prog 53 #[triV (T! T i)] X fun e w' => e = .returned (triV (F (T! T i))) ∧ Below X.heap.size X w' from fun X i h1 h2 => hF X i (by rw [← hn]; exact h1) (by rw [← hB]; exact h2))
  clear hT hF hn
  go_enter Tryz.func52, Tryz.ntmps52
  go_upto_region 2 with fail
  rw [← hW0]
  rw [← hB]
  clear hW0 hB
  have k1 := HS0.out.cell (i := 1) rfl
  go_wp2
  clear k1
  go_loopw [14] (fun i ws => ∃ (k : Nat) (v : Value), k ≤ n ∧ i = .int .i64 k ∧ RowIs ws (B + 2) 24 [.int .i64 N, v] ∧ RowIs ws (B + 1) 24 [.int .i64 0, .slice none 0 0] ∧ ws.ownsRow (B + 3) 62 3 v k (tcells ((T.take k).map F)) ∧ Below B w ws) (fun i _ => n - (intOf i).toNat)
  case atStart => exact ⟨0, _, by omega, rfl, HX0.out, HR0.out, World.ownsRow_nil _ _ _ _, HB0.out⟩
  case round =>
  clear HB0 HS0 HR0 HX0
  obtain ⟨k, v, hk, rfl, hx, hr, ho, hb⟩ := hrel
  obtain ⟨X, rfl⟩ : ∃ X : World, X = wr := ⟨_, rfl⟩
  by_cases hkn : k < n
  case neg =>
    obtain rfl : k = n := by omega
    obtain ⟨ao9, cap9, rfl⟩ := owns_slice ho
    have x0 := hx.cell (i := 0) rfl
    have x1 := hx.cell (i := 1) rfl
    have d0 := hr.cell (i := 0) rfl
    have d1 := hr.cell (i := 1) rfl
    have f0 := hr.free 0
    have f1 := hr.free 1
    have hr9 := (hr.set 0 (.int .i64 N)).set 1 (.slice ao9 k cap9)
    have e0 := hr9.cell (i := 0) rfl
    have e1 := hr9.cell (i := 1) rfl
    have HF' := Lib.hid ((hb.setCell (p := ⟨B + 1, 0, none⟩) (Nat.le_succ _) (.int .i64 N)).setCell (p := ⟨B + 1, 1, none⟩) (Nat.le_succ _) (.slice ao9 k cap9))
    have HTF := Lib.hid (show ((X.setCell ⟨B + 1, 0, none⟩ (.int .i64 N)).setCell ⟨B + 1, 1, none⟩ (.slice ao9 k cap9)).ownsRow B 62 3 (.slice ao9 k cap9) k (tcells (T.map F)) from by
      have h1 := ho.kept (grown_set X (B + 1) 0 (.int .i64 N)) (by
        have := row_own_ne hr ho (by decide)
        exact .inr fun e => this e.symm)
      have h2 := h1.kept (grown_set _ (B + 1) 1 (.slice ao9 k cap9)) (by
        have := row_own_ne hr ho (by decide)
        exact .inr fun e => this e.symm)
      rw [List.take_of_length_le (by have := HN.out; omega)] at h2
      exact owns_base h2 (by omega))
    clear hx hr ho hb hr9
    go_wp2
    refine bodyPost_ret (v := .agg #[.int .i64 N, .slice ao9 k cap9]) (by simp [results, Tryz.results52, go_sem, e0, e1]) rfl ⟨ao9, cap9, rfl, ?_, ?_⟩
    · rw [← HBB.out]
      exact HTF.out
    · rw [← HBB.out]
      exact HF'.out
  case pos =>
  obtain ⟨tb, off, x, y, z, rfl, ht, g0, g1, g2, -, -⟩ := (HT.out X hb).get (Nat.le_refl _) (Below.refl _ _) (i := k) (by have := HN.out; omega)
  obtain ⟨ao5, cap5, rfl⟩ := owns_slice ho
  have hba : Below X.heap.size X (X.alloc (.cells #[.int .i64 x, .int .i64 y, .int .i64 z] 62)) := (Below.refl _ _).alloc (Nat.le_refl _) _
  have hrt : RowIs (X.alloc (.cells #[.int .i64 x, .int .i64 y, .int .i64 z] 62)) X.heap.size 62 [.int .i64 x, .int .i64 y, .int .i64 z] := RowIs.made X 62 [.int .i64 x, .int .i64 y, .int .i64 z]
  obtain ⟨Y, hY⟩ : ∃ Y, Y = X.alloc (.cells #[.int .i64 x, .int .i64 y, .int .i64 z] 62) := ⟨_, rfl⟩
  obtain ⟨tq, htq⟩ : ∃ t, t = X.heap.size := ⟨_, rfl⟩
  rw [← hY] at hba hrt
  rw [← htq] at hrt
  have HXY := Lib.hid (hx.after hba)
  have HRY := Lib.hid (hr.after hba)
  have HOY := Lib.hid (owns_below ho hba)
  have HBY := Lib.hid (below_more hb hba (by have := hx.lt; omega))
  have HSY := Lib.hid (show B + 3 ≤ Y.heap.size from by have := HXY.out.lt; omega)
  obtain ⟨⟨u0, u1, u2⟩, hu⟩ : ∃ u : Tr, u = F (T! T k) := ⟨_, rfl⟩
  have HC := Lib.hid (show ∀ Z, Hid (Below Y.heap.size Y Z) → Calls Tryz.prog 53 #[.agg #[.int .i64 x, .int .i64 y, .int .i64 z]] Z fun e w' => e = .returned (.agg #[.int .i64 u0, .int .i64 u1, .int .i64 u2]) ∧ Hid (Below Y.heap.size Y w') from fun Z hZ => by
    have h := HF.out Z k hkn (below_more HBY.out hZ.out (by have := HSY.out; omega))
    rw [← hu, ht.out] at h
    exact h.mono fun e w' ⟨h1, h2⟩ => ⟨h1, below_more hZ.out h2 hZ.out.size⟩)
  have HTK := Lib.hid (show (T.take (k + 1)).map F = (T.take k).map F ++ [(u0, u1, u2)] from by
    have hk' : k < T.length := by have := HN.out; omega
    rw [List.take_add_one, List.getElem?_eq_getElem hk', List.map_append, hu]
    simp [T!, hk'])
  have y0 := HXY.out.cell (i := 0) rfl
  have y1 := HXY.out.cell (i := 1) rfl
  have t0 := hrt.cell (i := 0) rfl
  have t1 := hrt.cell (i := 1) rfl
  have t2 := hrt.cell (i := 2) rfl
  have HRF := Lib.hid (Below.refl Y.heap.size Y)
  have HDR := Lib.hid (below_drew (Below.refl Y.heap.size Y))
  have HYY := Lib.hid hY
  have HQQ := Lib.hid htq
  clear hx hr ho hb hba hrt hY htq ht hu
  go_upto_region 5 with fail
  rw [← HYY.out]
  simp only [← HQQ.out]
  clear g0 g1 g2
  go_region_law (first
    | (go_simp; go_at_call 53; (with_reducible refine (HC.out _ (by first | assumption | exact (show Hid (Below Y.heap.size Y _) from by repeat (first | exact HRF.out | with_reducible apply below_drew)))).mono ?_); rintro e w2 ⟨rfl, hb2⟩; have hxa := Lib.hid (HXY.out.after hb2.out); have hoa := Lib.hid (owns_below HOY.out hb2.out); have y1a := hxa.out.cell (i := 1) rfl; have y1b := (hxa.out.alloc (.cells #[.int .i64 u0, .int .i64 u1, .int .i64 u2] 62)).cell (i := 1) rfl)
    | (refine step_append_any (by rfl) _ _ _ (by rfl) (B + 3) 62 i4 _ 3 24 (by kernel_rfl) hi4 hx0 hx1 hx2 rfl (by decide) _ k _ (by rfl) (hoa.out.alloc _) ⟨w2.heap.size, 0, none⟩ 1 1 [.int .i64 u0, .int .i64 u1, .int .i64 u2] (by rfl) rfl (World.news_of_block (heap_alloc_new w2 _)) (by intro u hu; simp at hu; rcases hu with rfl | rfl | rfl <;> rfl) (by unfold maxLen; omega) (by omega) (by have := hb2.out.size; have := HSY.out; simp; omega) ?_; intro a1 c1 w5 hown5 hbel5 hgr5; have hrow5 := Lib.hid (box_kept hgr5 (hoa.out.alloc _) (hxa.out.alloc _) (by decide)); have y1c := hrow5.out.cell (i := 1) rfl; have kf := hrow5.out.free 1))
  all_goals
    have hrowR := box_kept hgr5 (hoa.out.alloc _) ((HRY.out.after hb2.out).alloc _) (by decide)
    have HR6 := Lib.hid (hrowR.other (p := ⟨B + 2, 1, none⟩) (by simp) (.slice a1 (k + 1) c1))
    have HX6 := Lib.hid (hrow5.out.set 1 (.slice a1 (k + 1) c1))
    have HO6 := Lib.hid (show (w5.setCell ⟨B + 2, 1, none⟩ (.slice a1 (k + 1) c1)).ownsRow (B + 3) 62 3 (.slice a1 (k + 1) c1) (k + 1) (tcells ((T.take (k + 1)).map F)) from by
      rw [HTK.out, tcells_snoc]
      exact ownsRow_setCell_below hown5 (a := ⟨B + 2, 1, none⟩) (Nat.lt_succ_self _) _)
    have HB6 := Lib.hid ((hbel5 B w (by omega) ((below_more HBY.out hb2.out (by have := HSY.out; omega)).alloc (by have := HSY.out; have := hb2.out.size; omega) _)).setCell (p := ⟨B + 2, 1, none⟩) (show B ≤ B + 2 by omega) (.slice a1 (k + 1) c1))
    clear hown5 hbel5 hgr5 hrowR y0 y1 y1a y1b y1c kf t0 t1 t2
    go_wp2
    go_roundw
    case rel => exact ⟨k + 1, _, by omega, by go_num, HX6.out, HR6.out, HO6.out, HB6.out⟩
    case measure => simp [intOf]; omega
set_option maxRecDepth 100000 in
set_option maxHeartbeats 1500000 in
theorem each_rename (cb : Nat) (F : Tr → Tr) (N : Int) (ao : Option Addr) (cap : Nat) (T : List Tr) (w : World) (hT : TrisAt w ao T) (hl : T.length ≤ 8192)
    (hF : ∀ X i, i < T.length → Below w.heap.size w X → Calls Tryz.prog 54 #[triV (T! T i), .pointer (some ⟨cb, 0, none⟩)] X fun e w' => e = .returned (triV (F (T! T i))) ∧ Below X.heap.size X w') :
    Calls Tryz.prog 52 #[.agg #[.int .i64 N, .slice ao T.length cap], .func (.func 54) #[] #[.pointer (some ⟨cb, 0, none⟩)]] w fun e w' => ∃ ao' cap', e = .returned (.agg #[.int .i64 N, .slice ao' T.length cap']) ∧ w'.ownsRow w.heap.size 62 3 (.slice ao' T.length cap') T.length (tcells (T.map F)) ∧ Below w.heap.size w w' := by
  obtain ⟨i4, hi4, hx0, hx1, hx2⟩ := info_parts info49
  obtain ⟨B, hB⟩ : ∃ B, B = w.heap.size := ⟨_, rfl⟩
  obtain ⟨n, hn⟩ : ∃ n, n = T.length := ⟨_, rfl⟩
  obtain ⟨W0, hW0⟩ : ∃ W0, W0 = ((w.alloc (.cells #[.int .i64 N, .slice ao n cap] 24)).alloc (.cells #[.int .i64 0, .slice none 0 0] 24)).alloc (.cells #[.int .i64 N, .slice none 0 0] 24) := ⟨_, rfl⟩
  have HB0 := Lib.hid (show Below B w W0 from by rw [hW0, hB]; exact (((Below.refl _ _).alloc (Nat.le_refl _) _).alloc (by simp) _).alloc (by simp; omega) _)
  have HS0 := Lib.hid (show RowIs W0 B 24 [.int .i64 N, .slice ao n cap] from by rw [hW0, hB]; exact ((RowIs.made w 24 [.int .i64 N, .slice ao n cap]).alloc _).alloc _)
  have HR0 := Lib.hid (show RowIs W0 (B + 1) 24 [.int .i64 0, .slice none 0 0] from by rw [hW0, hB]; exact (row_two w _ 24 [.int .i64 0, .slice none 0 0]).alloc _)
  have HX0 := Lib.hid (show RowIs W0 (B + 2) 24 [.int .i64 N, .slice none 0 0] from by rw [hW0, hB]; exact RowIs.made' _ _ [.int .i64 N, .slice none 0 0] _ (by simp))
  have HBB := Lib.hid hB
  have HN := Lib.hid hn
  rw [← hn] at hl ⊢
  have HT := Lib.hid (show ∀ X, Below B w X → TrisAt X ao T from fun X h => hT.mono (by rw [hB]; exact Nat.le_refl _) h)
  have HF := Lib.hid (show ∀ X i, i < n → Below B w X → Calls Tryz.prog 54 #[triV (T! T i), .pointer (some ⟨cb, 0, none⟩)] X fun e w' => e = .returned (triV (F (T! T i))) ∧ Below X.heap.size X w' from fun X i h1 h2 => hF X i (by rw [← hn]; exact h1) (by rw [← hB]; exact h2))
  clear hT hF hn
  go_enter Tryz.func52, Tryz.ntmps52
  go_upto_region 2 with fail
  rw [← hW0]
  rw [← hB]
  clear hW0 hB
  have k1 := HS0.out.cell (i := 1) rfl
  go_wp2
  clear k1
  go_loopw [14] (fun i ws => ∃ (k : Nat) (v : Value), k ≤ n ∧ i = .int .i64 k ∧ RowIs ws (B + 2) 24 [.int .i64 N, v] ∧ RowIs ws (B + 1) 24 [.int .i64 0, .slice none 0 0] ∧ ws.ownsRow (B + 3) 62 3 v k (tcells ((T.take k).map F)) ∧ Below B w ws) (fun i _ => n - (intOf i).toNat)
  case atStart => exact ⟨0, _, by omega, rfl, HX0.out, HR0.out, World.ownsRow_nil _ _ _ _, HB0.out⟩
  case round =>
  clear HB0 HS0 HR0 HX0
  obtain ⟨k, v, hk, rfl, hx, hr, ho, hb⟩ := hrel
  obtain ⟨X, rfl⟩ : ∃ X : World, X = wr := ⟨_, rfl⟩
  by_cases hkn : k < n
  case neg =>
    obtain rfl : k = n := by omega
    obtain ⟨ao9, cap9, rfl⟩ := owns_slice ho
    have x0 := hx.cell (i := 0) rfl
    have x1 := hx.cell (i := 1) rfl
    have d0 := hr.cell (i := 0) rfl
    have d1 := hr.cell (i := 1) rfl
    have f0 := hr.free 0
    have f1 := hr.free 1
    have hr9 := (hr.set 0 (.int .i64 N)).set 1 (.slice ao9 k cap9)
    have e0 := hr9.cell (i := 0) rfl
    have e1 := hr9.cell (i := 1) rfl
    have HF' := Lib.hid ((hb.setCell (p := ⟨B + 1, 0, none⟩) (Nat.le_succ _) (.int .i64 N)).setCell (p := ⟨B + 1, 1, none⟩) (Nat.le_succ _) (.slice ao9 k cap9))
    have HTF := Lib.hid (show ((X.setCell ⟨B + 1, 0, none⟩ (.int .i64 N)).setCell ⟨B + 1, 1, none⟩ (.slice ao9 k cap9)).ownsRow B 62 3 (.slice ao9 k cap9) k (tcells (T.map F)) from by
      have h1 := ho.kept (grown_set X (B + 1) 0 (.int .i64 N)) (by
        have := row_own_ne hr ho (by decide)
        exact .inr fun e => this e.symm)
      have h2 := h1.kept (grown_set _ (B + 1) 1 (.slice ao9 k cap9)) (by
        have := row_own_ne hr ho (by decide)
        exact .inr fun e => this e.symm)
      rw [List.take_of_length_le (by have := HN.out; omega)] at h2
      exact owns_base h2 (by omega))
    clear hx hr ho hb hr9
    go_wp2
    refine bodyPost_ret (v := .agg #[.int .i64 N, .slice ao9 k cap9]) (by simp [results, Tryz.results52, go_sem, e0, e1]) rfl ⟨ao9, cap9, rfl, ?_, ?_⟩
    · rw [← HBB.out]
      exact HTF.out
    · rw [← HBB.out]
      exact HF'.out
  case pos =>
  obtain ⟨tb, off, x, y, z, rfl, ht, g0, g1, g2, -, -⟩ := (HT.out X hb).get (Nat.le_refl _) (Below.refl _ _) (i := k) (by have := HN.out; omega)
  obtain ⟨ao5, cap5, rfl⟩ := owns_slice ho
  have hba : Below X.heap.size X (X.alloc (.cells #[.int .i64 x, .int .i64 y, .int .i64 z] 62)) := (Below.refl _ _).alloc (Nat.le_refl _) _
  have hrt : RowIs (X.alloc (.cells #[.int .i64 x, .int .i64 y, .int .i64 z] 62)) X.heap.size 62 [.int .i64 x, .int .i64 y, .int .i64 z] := RowIs.made X 62 [.int .i64 x, .int .i64 y, .int .i64 z]
  obtain ⟨Y, hY⟩ : ∃ Y, Y = X.alloc (.cells #[.int .i64 x, .int .i64 y, .int .i64 z] 62) := ⟨_, rfl⟩
  obtain ⟨tq, htq⟩ : ∃ t, t = X.heap.size := ⟨_, rfl⟩
  rw [← hY] at hba hrt
  rw [← htq] at hrt
  have HXY := Lib.hid (hx.after hba)
  have HRY := Lib.hid (hr.after hba)
  have HOY := Lib.hid (owns_below ho hba)
  have HBY := Lib.hid (below_more hb hba (by have := hx.lt; omega))
  have HSY := Lib.hid (show B + 3 ≤ Y.heap.size from by have := HXY.out.lt; omega)
  obtain ⟨⟨u0, u1, u2⟩, hu⟩ : ∃ u : Tr, u = F (T! T k) := ⟨_, rfl⟩
  have HC := Lib.hid (show ∀ Z, Hid (Below Y.heap.size Y Z) → Calls Tryz.prog 54 #[.agg #[.int .i64 x, .int .i64 y, .int .i64 z], .pointer (some ⟨cb, 0, none⟩)] Z fun e w' => e = .returned (.agg #[.int .i64 u0, .int .i64 u1, .int .i64 u2]) ∧ Hid (Below Y.heap.size Y w') from fun Z hZ => by
    have h := HF.out Z k hkn (below_more HBY.out hZ.out (by have := HSY.out; omega))
    rw [← hu, ht.out] at h
    exact h.mono fun e w' ⟨h1, h2⟩ => ⟨h1, below_more hZ.out h2 hZ.out.size⟩)
  have HTK := Lib.hid (show (T.take (k + 1)).map F = (T.take k).map F ++ [(u0, u1, u2)] from by
    have hk' : k < T.length := by have := HN.out; omega
    rw [List.take_add_one, List.getElem?_eq_getElem hk', List.map_append, hu]
    simp [T!, hk'])
  have y0 := HXY.out.cell (i := 0) rfl
  have y1 := HXY.out.cell (i := 1) rfl
  have t0 := hrt.cell (i := 0) rfl
  have t1 := hrt.cell (i := 1) rfl
  have t2 := hrt.cell (i := 2) rfl
  have HRF := Lib.hid (Below.refl Y.heap.size Y)
  have HDR := Lib.hid (below_drew (Below.refl Y.heap.size Y))
  have HYY := Lib.hid hY
  have HQQ := Lib.hid htq
  clear hx hr ho hb hba hrt hY htq ht hu
  go_upto_region 5 with fail
  rw [← HYY.out]
  simp only [← HQQ.out]
  clear g0 g1 g2
  go_region_law (first
    | (go_simp; go_at_call 54; (with_reducible refine (HC.out _ (by first | assumption | exact (show Hid (Below Y.heap.size Y _) from by repeat (first | exact HRF.out | with_reducible apply below_drew)))).mono ?_); rintro e w2 ⟨rfl, hb2⟩; have hxa := Lib.hid (HXY.out.after hb2.out); have hoa := Lib.hid (owns_below HOY.out hb2.out); have y1a := hxa.out.cell (i := 1) rfl; have y1b := (hxa.out.alloc (.cells #[.int .i64 u0, .int .i64 u1, .int .i64 u2] 62)).cell (i := 1) rfl)
    | (refine step_append_any (by rfl) _ _ _ (by rfl) (B + 3) 62 i4 _ 3 24 (by kernel_rfl) hi4 hx0 hx1 hx2 rfl (by decide) _ k _ (by rfl) (hoa.out.alloc _) ⟨w2.heap.size, 0, none⟩ 1 1 [.int .i64 u0, .int .i64 u1, .int .i64 u2] (by rfl) rfl (World.news_of_block (heap_alloc_new w2 _)) (by intro u hu; simp at hu; rcases hu with rfl | rfl | rfl <;> rfl) (by unfold maxLen; omega) (by omega) (by have := hb2.out.size; have := HSY.out; simp; omega) ?_; intro a1 c1 w5 hown5 hbel5 hgr5; have hrow5 := Lib.hid (box_kept hgr5 (hoa.out.alloc _) (hxa.out.alloc _) (by decide)); have y1c := hrow5.out.cell (i := 1) rfl; have kf := hrow5.out.free 1))
  all_goals
    have hrowR := box_kept hgr5 (hoa.out.alloc _) ((HRY.out.after hb2.out).alloc _) (by decide)
    have HR6 := Lib.hid (hrowR.other (p := ⟨B + 2, 1, none⟩) (by simp) (.slice a1 (k + 1) c1))
    have HX6 := Lib.hid (hrow5.out.set 1 (.slice a1 (k + 1) c1))
    have HO6 := Lib.hid (show (w5.setCell ⟨B + 2, 1, none⟩ (.slice a1 (k + 1) c1)).ownsRow (B + 3) 62 3 (.slice a1 (k + 1) c1) (k + 1) (tcells ((T.take (k + 1)).map F)) from by
      rw [HTK.out, tcells_snoc]
      exact ownsRow_setCell_below hown5 (a := ⟨B + 2, 1, none⟩) (Nat.lt_succ_self _) _)
    have HB6 := Lib.hid ((hbel5 B w (by omega) ((below_more HBY.out hb2.out (by have := HSY.out; omega)).alloc (by have := HSY.out; have := hb2.out.size; omega) _)).setCell (p := ⟨B + 2, 1, none⟩) (show B ≤ B + 2 by omega) (.slice a1 (k + 1) c1))
    clear hown5 hbel5 hgr5 hrowR y0 y1 y1a y1b y1c kf t0 t1 t2
    go_wp2
    go_roundw
    case rel => exact ⟨k + 1, _, by omega, by go_num, HX6.out, HR6.out, HO6.out, HB6.out⟩
    case measure => simp [intOf]; omega
/-- Turned round. -/
def mt (t : Tr) : Tr := (t.1, t.2.2, t.2.1)
def mj (j : Nat) : Nat := if j = 0 then 0 else if j = 1 then 2 else 1
theorem mj_lt (j : Nat) : mj j < 3 := by
  unfold mj
  split
  · omega
  · split <;> omega
theorem mj_mj {j : Nat} (h : j < 3) : mj (mj j) = j := by
  match j, h with
  | 0, _ => rfl
  | 1, _ => rfl
  | 2, _ => rfl
theorem tg_mt (t : Tr) {j : Nat} (h : j < 3) : tg (mt t) j = tg t (mj j) := by
  obtain ⟨x, y, z⟩ := t
  match j, h with
  | 0, _ => rfl
  | 1, _ => rfl
  | 2, _ => rfl
theorem hasB_mt (t : Tr) (v : Int) : hasB (mt t) v = hasB t v := by
  unfold hasB mt
  cases (t.1 == v) <;> cases (t.2.1 == v) <;> cases (t.2.2 == v) <;> rfl
theorem loopB_mt (t : Tr) : loopB (mt t) = loopB t := by
  unfold loopB mt
  have e1 : (t.1 == t.2.2) = (t.2.2 == t.1) := Bool.beq_comm
  have e2 : (t.2.2 == t.2.1) = (t.2.1 == t.2.2) := Bool.beq_comm
  have e3 : (t.2.1 == t.1) = (t.1 == t.2.1) := Bool.beq_comm
  simp only [e1, e2, e3]
  cases (t.2.2 == t.1) <;> cases (t.2.1 == t.2.2) <;> cases (t.1 == t.2.1) <;> rfl
theorem edgeB_mt (t : Tr) (a b : Int) : edgeB (mt t) a b = edgeB t b a := by
  unfold edgeB mt
  cases (t.1 == a) <;> cases (t.2.1 == a) <;> cases (t.2.2 == a) <;> cases (t.1 == b) <;> cases (t.2.1 == b) <;> cases (t.2.2 == b) <;> rfl
theorem twB_mt (t u : Tr) : twB (mt t) (mt u) = twB t u := by
  unfold twB
  rw [edgeB_mt, edgeB_mt, edgeB_mt]
  show (edgeB u t.2.2 t.1 || edgeB u t.2.1 t.2.2 || edgeB u t.1 t.2.1) = _
  cases edgeB u t.2.2 t.1 <;> cases edgeB u t.2.1 t.2.2 <;> cases edgeB u t.1 t.2.1 <;> rfl
theorem mirB_mt (t u : Tr) : mirB (mt t) (mt u) = mirB t u := by
  unfold mirB
  rw [hasB_mt, hasB_mt, hasB_mt]
  show (hasB u t.1 && hasB u t.2.2 && hasB u t.2.1) = _
  cases hasB u t.1 <;> cases hasB u t.2.2 <;> cases hasB u t.2.1 <;> rfl
theorem nbB_mt (t u : Tr) : nbB (mt t) (mt u) = true ↔ nbB t u = true := by
  have one : ∀ t u : Tr, nbB t u = true → nbB (mt t) (mt u) = true := fun t u h => by
    obtain ⟨i, k, hi, hk, e1, e2⟩ := nbB_iff.1 h
    refine nbB_iff.2 ⟨mj ((i + 1) % 3), mj ((k + 1) % 3), mj_lt _, mj_lt _, ?_, ?_⟩
    · rw [tg_mt t (mj_lt _), mj_mj (by omega), e2, tg_mt u (by omega)]
      congr 1
      match k, hk with
      | 0, _ => rfl
      | 1, _ => rfl
      | 2, _ => rfl
    · rw [tg_mt u (mj_lt _), mj_mj (by omega), ← e1, tg_mt t (by omega)]
      congr 1
      match i, hi with
      | 0, _ => rfl
      | 1, _ => rfl
      | 2, _ => rfl
  refine ⟨fun h => ?_, one t u⟩
  have := one _ _ h
  exact this
def mirT (T : List Tr) : List Tr := T.map mt
theorem mirT_len (T : List Tr) : (mirT T).length = T.length := by simp [mirT]
theorem mirT_get (T : List Tr) {i : Nat} (h : i < T.length) : T! (mirT T) i = mt (T! T i) := by simp [T!, mirT, h]
/-- A surface each of whose triangles was made another one, by F, that keeps what is asked. -/
theorem surf_map {n : Nat} {T : List Tr} (hs : Surf n T) (F : Tr → Tr) (r : Int → Int) (hr : ∀ v : Int, 0 ≤ v → v < (n : Int) → 0 ≤ r v ∧ r v < (n : Int)) (hsur : ∀ v : Int, 0 ≤ v → v < (n : Int) → ∃ u : Int, 0 ≤ u ∧ u < (n : Int) ∧ r u = v)
    (hF : ∀ i, i < T.length → ∀ j, ∃ j', j' < 3 ∧ tg (F (T! T i)) j = r (tg (T! T i) j')) (hF' : ∀ i, i < T.length → ∀ j, j < 3 → ∃ j', j' < 3 ∧ tg (F (T! T i)) j' = r (tg (T! T i) j))
    (hl : ∀ i, i < T.length → loopB (F (T! T i)) = loopB (T! T i)) (ht : ∀ i k, i < T.length → k < T.length → twB (F (T! T i)) (F (T! T k)) = twB (T! T i) (T! T k)) (hm : ∀ i k, i < T.length → k < T.length → mirB (F (T! T i)) (F (T! T k)) = mirB (T! T i) (T! T k))
    (hh : ∀ i, i < T.length → ∀ v, 0 ≤ v → v < (n : Int) → hasB (F (T! T i)) (r v) = hasB (T! T i) v) (hinj : ∀ u v, 0 ≤ u → u < (n : Int) → 0 ≤ v → v < (n : Int) → r u = r v → u = v) : Surf n (T.map F) := by
  have hlen : (T.map F).length = T.length := by simp
  have hget : ∀ i, i < T.length → T! (T.map F) i = F (T! T i) := fun i h => by simp [T!, h]
  refine ⟨hs.n0, hs.n1, by rw [hlen]; exact hs.t1, fun i hi j => ?_, fun i hi => ?_, fun b a hb hab => ?_, fun b a hb hab => ?_, fun v h0 h1 => ?_, fun v h0 h1 => ?_⟩
  · rw [hlen] at hi
    rw [hget i hi]
    obtain ⟨j', -, e⟩ := hF i hi j
    rw [e]
    have := hs.vin i hi j'
    exact hr _ this.1 this.2
  · rw [hlen] at hi
    rw [hget i hi, hl i hi]
    exact hs.noloop i hi
  · rw [hlen] at hb
    rw [hget a (by omega), hget b hb, ht a b (by omega) hb]
    exact hs.tw b a hb hab
  · rw [hlen] at hb
    rw [hget a (by omega), hget b hb, hm a b (by omega) hb]
    exact hs.mir b a hb hab
  · obtain ⟨u, u0, u1, rfl⟩ := hsur v h0 h1
    obtain ⟨i, hi, h⟩ := hs.used u u0 u1
    exact ⟨i, by rw [hlen]; exact hi, by rw [hget i hi, hh i hi u u0 u1]; exact h⟩
  · obtain ⟨u, u0, u1, rfl⟩ := hsur v h0 h1
    intro i k hi hk h2 h3
    rw [hlen] at hi hk
    rw [hget i hi, hh i hi u u0 u1] at h2
    rw [hget k hk, hh k hk u u0 u1] at h3
    have step : ∀ {a b : Nat}, PAdj T u a b → PAdj (T.map F) (r u) a b := fun {a b} ⟨p1, p2, p3, p4, j, p5, p6, p7⟩ => by
      obtain ⟨j', q1, q2⟩ := hF' a p1 j p5
      have hv := hs.vin a p1 j
      refine ⟨by rw [hlen]; exact p1, by rw [hlen]; exact p2, by rw [hget a p1, hh a p1 u u0 u1]; exact p3, by rw [hget b p2, hh b p2 u u0 u1]; exact p4, j', q1, ?_, ?_⟩
      · rw [hget a p1, q2]
        exact fun e => p6 (hinj _ _ hv.1 hv.2 u0 u1 e)
      · rw [hget a p1, hget b p2, q2, hh b p2 _ hv.1 hv.2]
        exact p7
    have hc := hs.pin u u0 u1 i k hi hk h2 h3
    induction hc with
    | refl => exact .refl _
    | step _ ha ih => exact .step (ih ha.1 ha.2.2.1) (step ha)
    | back _ ha ih => exact .back (ih ha.2.1 ha.2.2.2.1) (step ha)
theorem tg_big (t : Tr) (j : Nat) : ∃ j', j' < 3 ∧ tg t j = tg t j' := by
  obtain ⟨x, y, z⟩ := t
  match j with
  | 0 => exact ⟨0, by omega, rfl⟩
  | 1 => exact ⟨1, by omega, rfl⟩
  | j + 2 => exact ⟨2, by omega, rfl⟩
theorem mirror_surf {n : Nat} {T : List Tr} (hs : Surf n T) : Surf n (mirT T) := by
  refine surf_map hs mt (fun v => v) (fun v h0 h1 => ⟨h0, h1⟩) (fun v h0 h1 => ⟨v, h0, h1, rfl⟩) (fun i hi j => ?_) (fun i hi j hj => ⟨mj j, mj_lt j, by rw [tg_mt _ (mj_lt j), mj_mj hj]⟩) (fun i _ => loopB_mt _) (fun i k _ _ => twB_mt _ _) (fun i k _ _ => mirB_mt _ _) (fun i _ v _ _ => hasB_mt _ _) (fun u v _ _ _ _ e => e)
  obtain ⟨j', h1, h2⟩ := tg_big (mt (T! T i)) j
  exact ⟨mj j', mj_lt j', by rw [h2, tg_mt _ h1]⟩
section
variable {n : Nat} {T : List Tr} {L : Nat → Int}
theorem mirror_shells (hs : Surf n T) (hL : IsShells (Adj T) T.length L) : IsShells (Adj (mirT T)) (mirT T).length L := by
  have h2 := mirror_surf hs
  have hab : ∀ i j, Adj T i j ↔ Adj (mirT T) i j := fun i j => by
    constructor
    · intro h
      obtain ⟨a, b, c⟩ := hs.adj_nb h
      exact h2.nb_adj ⟨by rw [mirT_len]; exact a, by rw [mirT_len]; exact b, by rw [mirT_get T a, mirT_get T b]; exact (nbB_mt _ _).2 c⟩
    · intro h
      obtain ⟨a, b, c⟩ := h2.adj_nb h
      rw [mirT_len] at a b
      rw [mirT_get T a, mirT_get T b] at c
      exact hs.nb_adj ⟨a, b, (nbB_mt _ _).1 c⟩
  rw [mirT_len]
  exact IsShells.congr hL hab
def mc (c : Nat) : Nat := 3 * (c / 3) + mj (c % 3)
theorem mc_mc (c : Nat) : mc (mc c) = c := by
  have h := mj_lt (c % 3)
  have e := mj_mj (show c % 3 < 3 by omega)
  unfold mc
  rw [show (3 * (c / 3) + mj (c % 3)) / 3 = c / 3 by omega, show (3 * (c / 3) + mj (c % 3)) % 3 = mj (c % 3) by omega, e]
  omega
theorem mc_div (c : Nat) : mc c / 3 = c / 3 := by have := mj_lt (c % 3); unfold mc; omega
theorem vt_mc {c : Nat} (hc : c < 3 * T.length) : vt (mirT T) (mc c : Nat) = vt T (c : Nat) := by
  have h := mj_lt (c % 3)
  rw [vt_nat3, vt_nat3, mc_div, mirT_get T (by omega), show mc c % 3 = mj (c % 3) by unfold mc; omega, tg_mt _ h, mj_mj (by omega)]
theorem iso_mirror (hs : Surf n T) (hL : IsShells (Adj T) T.length L) (k : Nat) : Iso n T L k n (mirT T) L k true mc mc where
  s1 := hs
  s2 := mirror_surf hs
  l1 := hL
  l2 := mirror_shells hs hL
  fw c hc := ⟨by rw [mirT_len]; have := hc.1; have := mc_div c; omega, by rw [mc_div]; exact hc.2⟩
  bw d hd := ⟨by have := hd.1; rw [mirT_len] at this; have := mc_div d; omega, by rw [mc_div]; exact hd.2⟩
  inv1 c _ := mc_mc c
  inv2 d _ := mc_mc d
  vti c d hc hd := by rw [vt_mc hc.1, vt_mc hd.1]
  nxi c _ := by
    rw [if_pos rfl]
    have : c % 3 = 0 ∨ c % 3 = 1 ∨ c % 3 = 2 := by omega
    unfold mc
    rw [nxn_div]
    rcases this with e | e | e
    · rw [show nxn c % 3 = 1 by unfold nxn; omega, e]
      simp only [mj]
      unfold pvn
      first
      | (simp; done)
      | (simp; omega)
    · rw [show nxn c % 3 = 2 by unfold nxn; omega, e]
      simp only [mj]
      unfold pvn
      first
      | (simp; done)
      | (simp; omega)
    · rw [show nxn c % 3 = 0 by unfold nxn; omega, e]
      simp only [mj]
      unfold pvn
      first
      | (simp; done)
      | (simp; omega)
theorem mirror_gen (hs : Surf n T) (hL : IsShells (Adj T) T.length L) (k : Nat) {i : Nat} (hi : i < 6) : genF (mirT T) L n (k * 6 + i) = genF T L n (k * 6 + i) := ((iso_mirror hs hL k).gen hi).symm
end
/-- Other names. -/
def rn (r : Int → Int) (t : Tr) : Tr := (r t.1, r t.2.1, r t.2.2)
theorem tg_rn (r : Int → Int) (t : Tr) (j : Nat) : tg (rn r t) j = r (tg t j) := by
  obtain ⟨x, y, z⟩ := t
  match j with
  | 0 => rfl
  | 1 => rfl
  | j + 2 => rfl
def rnT (r : Int → Int) (T : List Tr) : List Tr := T.map (rn r)
theorem rnT_len (r : Int → Int) (T : List Tr) : (rnT r T).length = T.length := by simp [rnT]
theorem rnT_get (r : Int → Int) (T : List Tr) {i : Nat} (h : i < T.length) : T! (rnT r T) i = rn r (T! T i) := by simp [T!, rnT, h]
/-- Names of n vertices, each once. -/
structure Names (n : Nat) (r : Int → Int) : Prop where
  inn : ∀ v, 0 ≤ v → v < (n : Int) → 0 ≤ r v ∧ r v < n
  inj : ∀ u v, 0 ≤ u → u < (n : Int) → 0 ≤ v → v < (n : Int) → r u = r v → u = v
theorem Names.sur {n : Nat} {r : Int → Int} (h : Names n r) : ∀ v, 0 ≤ v → v < (n : Int) → ∃ u, 0 ≤ u ∧ u < (n : Int) ∧ r u = v := by
  intro v v0 v1
  obtain ⟨x, rfl⟩ := Int.eq_ofNat_of_zero_le v0
  apply Classical.byContradiction
  intro hc
  have hno : ∀ i : Nat, i < n → (r (i : Int)).toNat ≠ x := fun i hi e => by
    have := h.inn i (by omega) (by omega)
    exact hc ⟨i, by omega, by omega, by omega⟩
  have h1 := sub_len ((List.range n).map fun i : Nat => (r (i : Int)).toNat) ((List.range n).erase x) (nodup_on (fun a ha b hb e => by
    have ha := List.mem_range.1 ha
    have hb := List.mem_range.1 hb
    have p := h.inn a (by omega) (by omega)
    have q := h.inn b (by omega) (by omega)
    have := h.inj a b (by omega) (by omega) (by omega) (by omega) (by omega)
    omega) List.nodup_range) (fun y hy => by
    obtain ⟨i, hi, rfl⟩ := List.mem_map.1 hy
    have hi := List.mem_range.1 hi
    have p := h.inn i (by omega) (by omega)
    exact (List.mem_erase_of_ne (hno i hi)).2 (List.mem_range.2 (by omega)))
  have hx : x ∈ List.range n := List.mem_range.2 (by omega)
  rw [List.length_map, List.length_erase_of_mem hx, List.length_range] at h1
  omega
section
variable {n : Nat} {T : List Tr} {L : Nat → Int} {r : Int → Int}
theorem Names.beq (h : Names n r) {a b : Int} (ha : 0 ≤ a ∧ a < n) (hb : 0 ≤ b ∧ b < n) : (r a == r b) = (a == b) := by
  by_cases e : a = b
  · subst e; simp
  · have : r a ≠ r b := fun g => e (h.inj a b ha.1 ha.2 hb.1 hb.2 g)
    rw [beq_eq_false_iff_ne.2 this, beq_eq_false_iff_ne.2 e]
theorem tri_in (hs : Surf n T) {i : Nat} (hi : i < T.length) : (0 ≤ (T! T i).1 ∧ (T! T i).1 < n) ∧ (0 ≤ (T! T i).2.1 ∧ (T! T i).2.1 < n) ∧ (0 ≤ (T! T i).2.2 ∧ (T! T i).2.2 < n) := ⟨hs.vin i hi 0, hs.vin i hi 1, hs.vin i hi 2⟩
theorem rename_surf (hs : Surf n T) (h : Names n r) : Surf n (rnT r T) := by
  have hb : ∀ i k, i < T.length → k < T.length → ∀ a b : Int, (0 ≤ a ∧ a < n) → (0 ≤ b ∧ b < n) → edgeB (rn r (T! T k)) (r a) (r b) = edgeB (T! T k) a b := fun i k hi hk a b ha hb => by
    obtain ⟨p, q, s⟩ := tri_in hs hk
    unfold edgeB rn
    rw [h.beq p ha, h.beq q hb, h.beq q ha, h.beq s hb, h.beq s ha, h.beq p hb]
  have hh : ∀ i, i < T.length → ∀ v, 0 ≤ v → v < (n : Int) → hasB (rn r (T! T i)) (r v) = hasB (T! T i) v := fun i hi v v0 v1 => by
    obtain ⟨p, q, s⟩ := tri_in hs hi
    unfold hasB rn
    rw [h.beq p ⟨v0, v1⟩, h.beq q ⟨v0, v1⟩, h.beq s ⟨v0, v1⟩]
  refine surf_map hs (rn r) r h.inn h.sur (fun i hi j => ?_) (fun i hi j hj => ⟨j, hj, tg_rn r _ j⟩) (fun i hi => ?_) (fun i k hi hk => ?_) (fun i k hi hk => ?_) hh h.inj
  · obtain ⟨j', h1, h2⟩ := tg_big (T! T i) j
    exact ⟨j', h1, by rw [tg_rn, h2]⟩
  · obtain ⟨p, q, s⟩ := tri_in hs hi
    unfold loopB rn
    rw [h.beq p q, h.beq q s, h.beq s p]
  · obtain ⟨p, q, s⟩ := tri_in hs hi
    show (edgeB _ (r _) (r _) || edgeB _ (r _) (r _) || edgeB _ (r _) (r _)) = twB _ _
    rw [hb i k hi hk _ _ p q, hb i k hi hk _ _ q s, hb i k hi hk _ _ s p]
    rfl
  · obtain ⟨p, q, s⟩ := tri_in hs hi
    show (hasB _ (r _) && hasB _ (r _) && hasB _ (r _)) = mirB _ _
    rw [hh k hk _ p.1 p.2, hh k hk _ q.1 q.2, hh k hk _ s.1 s.2]
    rfl
theorem nbB_rn (hs : Surf n T) (h : Names n r) {i k : Nat} (hi : i < T.length) (hk : k < T.length) : nbB (rn r (T! T i)) (rn r (T! T k)) = true ↔ nbB (T! T i) (T! T k) = true := by
  rw [nbB_iff, nbB_iff]
  have e : ∀ a b, (tg (rn r (T! T i)) a = tg (rn r (T! T k)) b) ↔ (tg (T! T i) a = tg (T! T k) b) := fun a b => by
    rw [tg_rn, tg_rn]
    have p := hs.vin i hi a
    have q := hs.vin k hk b
    exact ⟨fun g => h.inj _ _ p.1 p.2 q.1 q.2 g, fun g => by rw [g]⟩
  exact ⟨fun ⟨a, b, g1, g2, g3, g4⟩ => ⟨a, b, g1, g2, (e _ _).1 g3, (e _ _).1 g4⟩, fun ⟨a, b, g1, g2, g3, g4⟩ => ⟨a, b, g1, g2, (e _ _).2 g3, (e _ _).2 g4⟩⟩
theorem rename_shells (hs : Surf n T) (h : Names n r) (hL : IsShells (Adj T) T.length L) : IsShells (Adj (rnT r T)) (rnT r T).length L := by
  have h2 := rename_surf hs h
  have hab : ∀ i j, Adj T i j ↔ Adj (rnT r T) i j := fun i j => by
    constructor
    · intro g
      obtain ⟨a, b, c⟩ := hs.adj_nb g
      exact h2.nb_adj ⟨by rw [rnT_len]; exact a, by rw [rnT_len]; exact b, by rw [rnT_get r T a, rnT_get r T b]; exact (nbB_rn hs h a b).2 c⟩
    · intro g
      obtain ⟨a, b, c⟩ := h2.adj_nb g
      rw [rnT_len] at a b
      rw [rnT_get r T a, rnT_get r T b] at c
      exact hs.nb_adj ⟨a, b, (nbB_rn hs h a b).1 c⟩
  rw [rnT_len]
  exact IsShells.congr hL hab
theorem vt_rn {c : Nat} (hc : c < 3 * T.length) : vt (rnT r T) (c : Nat) = r (vt T (c : Nat)) := by
  rw [vt_nat3, vt_nat3, rnT_get r T (by omega), tg_rn]
theorem iso_rename (hs : Surf n T) (h : Names n r) (hL : IsShells (Adj T) T.length L) (k : Nat) : Iso n T L k n (rnT r T) L k false (fun c => c) (fun c => c) where
  s1 := hs
  s2 := rename_surf hs h
  l1 := hL
  l2 := rename_shells hs h hL
  fw c hc := ⟨by rw [rnT_len]; exact hc.1, hc.2⟩
  bw d hd := ⟨by have := hd.1; rw [rnT_len] at this; exact this, hd.2⟩
  inv1 _ _ := rfl
  inv2 _ _ := rfl
  vti c d hc hd := by
    rw [vt_rn hc.1, vt_rn hd.1]
    have p := hs.vin.vt (c := ((c : Nat) : Int)) (by omega) (by have := hc.1; omega)
    have q := hs.vin.vt (c := ((d : Nat) : Int)) (by omega) (by have := hd.1; omega)
    exact ⟨fun g => by rw [g], fun g => h.inj _ _ p.1 p.2 q.1 q.2 g⟩
  nxi _ _ := rfl
theorem rename_gen (hs : Surf n T) (h : Names n r) (hL : IsShells (Adj T) T.length L) (k : Nat) {i : Nat} (hi : i < 6) : genF (rnT r T) L n (k * 6 + i) = genF T L n (k * 6 + i) := ((iso_rename hs h hL k).gen hi).symm
end
/-- A corner so many steps on. -/
def turn (c j : Nat) : Nat := 3 * (c / 3) + (c % 3 + j) % 3
theorem turn_div (c j : Nat) : turn c j / 3 = c / 3 := by unfold turn; omega
theorem turn_nxn (c j : Nat) : turn c ((j + 1) % 3) = nxn (turn c j) := by unfold turn nxn; omega
/-- The triangle of a corner, turned to it. -/
def rotT (T : List Tr) (c : Nat) : Tr := (vt T (turn c 0 : Nat), vt T (turn c 1 : Nat), vt T (turn c 2 : Nat))
theorem tg_rot (T : List Tr) (c : Nat) {j : Nat} (h : j < 3) : tg (rotT T c) j = vt T (turn c j : Nat) := by
  match j, h with
  | 0, _ => rfl
  | 1, _ => rfl
  | 2, _ => rfl
def pickT (T : List Tr) (C : List Nat) : List Tr := C.map (rotT T)
theorem pick_len (T : List Tr) (C : List Nat) : (pickT T C).length = C.length := by simp [pickT]
theorem pick_get (T : List Tr) {C : List Nat} {i : Nat} (h : i < C.length) : T! (pickT T C) i = rotT T (C.getD i 0) := by simp [T!, pickT, h]
theorem vt_pick {T : List Tr} {C : List Nat} {c : Nat} (h : c < 3 * C.length) : vt (pickT T C) (c : Nat) = vt T (turn (C.getD (c / 3) 0) (c % 3) : Nat) := by
  rw [vt_nat3, pick_get T (by omega), tg_rot T _ (by omega)]
/-- All triangles, in another order, each turned; a surface. -/
structure Picks (n : Nat) (T : List Tr) (C : List Nat) (L M : Nat → Int) : Prop where
  s1 : Surf n T
  s2 : Surf n (pickT T C)
  l1 : IsShells (Adj T) T.length L
  l2 : IsShells (Adj (pickT T C)) (pickT T C).length M
  inn : ∀ c, c ∈ C → c < 3 * T.length
  len : C.length = T.length
section
variable {n : Nat} {T : List Tr} {C : List Nat} {L M : Nat → Int}
theorem getC {i : Nat} (h : i < C.length) : C.getD i 0 ∈ C := getD_mem h
theorem Picks.sg_lt (h : Picks n T C L M) {i : Nat} (hi : i < C.length) : C.getD i 0 / 3 < T.length := by
  have := h.inn _ (getC hi)
  omega
theorem rot_has {T : List Tr} {c : Nat} (j : Nat) (h : j < 3) : ∃ j', j' < 3 ∧ turn c j' = 3 * (c / 3) + j := ⟨(j + 3 - c % 3) % 3, by omega, by unfold turn; omega⟩
theorem Picks.sg_inj (h : Picks n T C L M) {i k : Nat} (hi : i < C.length) (hk : k < C.length) (e : C.getD i 0 / 3 = C.getD k 0 / 3) : i = k := by
  have key : ∀ a b, a < C.length → b < C.length → a < b → C.getD a 0 / 3 = C.getD b 0 / 3 → False := fun a b ha hb hab e => by
    have hm := h.s2.mir b a (by rw [pick_len]; exact hb) hab
    have hall : ∀ x : Nat, x / 3 = a → hasB (T! (pickT T C) b) (vt (pickT T C) (x : Nat)) = true := fun x hx => by
      rw [vt_pick (by omega), hx]
      obtain ⟨j', h1, h2⟩ := rot_has (T := T) (c := C.getD b 0) (turn (C.getD a 0) (x % 3) % 3) (by omega)
      have e2 : turn (C.getD a 0) (x % 3) = turn (C.getD b 0) j' := by
        rw [h2, ← e]
        have := turn_div (C.getD a 0) (x % 3)
        omega
      rw [e2, ← tg_rot T _ h1, ← pick_get T hb, show tg (T! (pickT T C) b) j' = vt (pickT T C) ((3 * b + j' : Nat) : Int) from by rw [vt_nat3]; rw [show (3 * b + j') / 3 = b by omega, show (3 * b + j') % 3 = j' by omega]]
      have := has_vt (T := pickT T C) (3 * b + j')
      rw [show (3 * b + j') / 3 = b by omega] at this
      exact this
    rw [mir_of (by rw [pick_len]; exact ha) hall] at hm
    cases hm
  rcases Nat.lt_trichotomy i k with g | g | g
  · exact (key i k hi hk g e).elim
  · exact g
  · exact (key k i hk hi g e.symm).elim
theorem Picks.sg_sur (h : Picks n T C L M) {t : Nat} (ht : t < T.length) : ∃ i, i < C.length ∧ C.getD i 0 / 3 = t := by
  apply Classical.byContradiction
  intro hc
  have h1 := sub_len ((List.range C.length).map fun i => C.getD i 0 / 3) ((List.range T.length).erase t) (nodup_on (fun a ha b hb e => h.sg_inj (List.mem_range.1 ha) (List.mem_range.1 hb) e) List.nodup_range) (fun y hy => by
    obtain ⟨i, hi, rfl⟩ := List.mem_map.1 hy
    have hi := List.mem_range.1 hi
    exact (List.mem_erase_of_ne fun e => hc ⟨i, hi, e⟩).2 (List.mem_range.2 (h.sg_lt hi)))
  rw [List.length_map, List.length_erase_of_mem (List.mem_range.2 ht), List.length_range, List.length_range, h.len] at h1
  omega
theorem nb_corners {T : List Tr} {i k : Nat} : nbB (T! T i) (T! T k) = true ↔ ∃ c d : Nat, c / 3 = i ∧ d / 3 = k ∧ vt T (nxn c : Nat) = vt T (d : Nat) ∧ vt T (c : Nat) = vt T (nxn d : Nat) := by
  rw [nbB_iff]
  constructor
  · rintro ⟨a, b, ha, hb, e1, e2⟩
    refine ⟨3 * i + a, 3 * k + b, by omega, by omega, ?_, ?_⟩
    · rw [vt_nat3, vt_nat3, nxn_div, show (3 * i + a) / 3 = i by omega, show nxn (3 * i + a) % 3 = (a + 1) % 3 by unfold nxn; omega, show (3 * k + b) / 3 = k by omega, show (3 * k + b) % 3 = b by omega]
      exact e2
    · rw [vt_nat3, vt_nat3, nxn_div, show (3 * i + a) / 3 = i by omega, show nxn (3 * k + b) % 3 = (b + 1) % 3 by unfold nxn; omega, show (3 * k + b) / 3 = k by omega, show (3 * i + a) % 3 = a by omega]
      exact e1
  · rintro ⟨c, d, rfl, rfl, e1, e2⟩
    refine ⟨c % 3, d % 3, by omega, by omega, ?_, ?_⟩
    · rw [vt_nat3, vt_nat3, nxn_div, show nxn d % 3 = (d % 3 + 1) % 3 by unfold nxn; omega] at e2
      exact e2
    · rw [vt_nat3, vt_nat3, nxn_div, show nxn c % 3 = (c % 3 + 1) % 3 by unfold nxn; omega] at e1
      exact e1
/-- The corner that it was. -/
def pc' (C : List Nat) (c : Nat) : Nat := turn (C.getD (c / 3) 0) (c % 3)
theorem pc_div (C : List Nat) (c : Nat) : pc' C c / 3 = C.getD (c / 3) 0 / 3 := turn_div _ _
theorem pc_nxn (C : List Nat) (c : Nat) : pc' C (nxn c) = nxn (pc' C c) := by
  unfold pc'
  rw [nxn_div, show nxn c % 3 = (c % 3 + 1) % 3 by unfold nxn; omega, turn_nxn]
theorem Picks.pc_lt (h : Picks n T C L M) {c : Nat} (hc : c < 3 * C.length) : pc' C c < 3 * T.length := by
  have := h.sg_lt (i := c / 3) (by omega)
  have := pc_div C c
  omega
theorem Picks.pc_inj (h : Picks n T C L M) {c d : Nat} (hc : c < 3 * C.length) (hd : d < 3 * C.length) (e : pc' C c = pc' C d) : c = d := by
  have e1 : pc' C c / 3 = pc' C d / 3 := by rw [e]
  rw [pc_div, pc_div] at e1
  have e2 := h.sg_inj (by omega) (by omega) e1
  unfold pc' turn at e
  rw [e2] at e
  omega
theorem Picks.pc_sur (h : Picks n T C L M) {x : Nat} (hx : x < 3 * T.length) : ∃ c, c < 3 * C.length ∧ pc' C c = x := by
  obtain ⟨i, hi, e⟩ := h.sg_sur (t := x / 3) (by omega)
  obtain ⟨j, hj, e2⟩ := rot_has (T := T) (c := C.getD i 0) (x % 3) (by omega)
  refine ⟨3 * i + j, by omega, ?_⟩
  unfold pc'
  rw [show (3 * i + j) / 3 = i by omega, show (3 * i + j) % 3 = j by omega, e2, e]
  omega
theorem Picks.adj (h : Picks n T C L M) {i k : Nat} (hi : i < C.length) (hk : k < C.length) : Adj (pickT T C) i k ↔ Adj T (C.getD i 0 / 3) (C.getD k 0 / 3) := by
  have a1 : Adj (pickT T C) i k ↔ nbB (T! (pickT T C) i) (T! (pickT T C) k) = true := ⟨fun g => (h.s2.adj_nb g).2.2, fun g => h.s2.nb_adj ⟨by rw [pick_len]; exact hi, by rw [pick_len]; exact hk, g⟩⟩
  have a2 : Adj T (C.getD i 0 / 3) (C.getD k 0 / 3) ↔ nbB (T! T (C.getD i 0 / 3)) (T! T (C.getD k 0 / 3)) = true := ⟨fun g => (h.s1.adj_nb g).2.2, fun g => h.s1.nb_adj ⟨h.sg_lt hi, h.sg_lt hk, g⟩⟩
  rw [a1, a2, nb_corners, nb_corners]
  constructor
  · rintro ⟨c, d, rfl, rfl, e1, e2⟩
    have hc : c < 3 * C.length := by omega
    have hd : d < 3 * C.length := by omega
    refine ⟨pc' C c, pc' C d, pc_div C c, pc_div C d, ?_, ?_⟩
    · rw [← pc_nxn]
      rw [vt_pick (nxn_lt hc), vt_pick hd] at e1
      exact e1
    · rw [← pc_nxn]
      rw [vt_pick hc, vt_pick (nxn_lt hd)] at e2
      exact e2
  · rintro ⟨x, y, e1, e2, e3, e4⟩
    have hx : x < 3 * T.length := by have := h.sg_lt hi; omega
    have hy : y < 3 * T.length := by have := h.sg_lt hk; omega
    obtain ⟨c, hc, rfl⟩ := h.pc_sur hx
    obtain ⟨d, hd, rfl⟩ := h.pc_sur hy
    rw [pc_div] at e1 e2
    refine ⟨c, d, h.sg_inj (by omega) hi e1, h.sg_inj (by omega) hk e2, ?_, ?_⟩
    · rw [vt_pick (nxn_lt hc), vt_pick hd]
      rw [← pc_nxn] at e3
      exact e3
    · rw [vt_pick hc, vt_pick (nxn_lt hd)]
      rw [← pc_nxn] at e4
      exact e4
theorem Picks.fwd (h : Picks n T C L M) {i k : Nat} (hi : i < C.length) (hc : Conn (Adj (pickT T C)) i k) : k < C.length ∧ L (C.getD k 0 / 3) = L (C.getD i 0 / 3) := by
  induction hc with
  | refl => exact ⟨hi, rfl⟩
  | @step a b _ ha ih =>
    have hb : b < C.length := by have := (h.s2.adj_nb ha).2.1; rw [pick_len] at this; exact this
    exact ⟨hb, by rw [h.l1.clo _ _ (h.sg_lt ih.1) (h.sg_lt hb) ((h.adj ih.1 hb).1 ha), ih.2]⟩
  | @back a b _ ha ih =>
    have hb : b < C.length := by have := (h.s2.adj_nb ha).1; rw [pick_len] at this; exact this
    exact ⟨hb, by rw [← h.l1.clo _ _ (h.sg_lt hb) (h.sg_lt ih.1) ((h.adj hb ih.1).1 ha), ih.2]⟩
theorem Picks.bwd (h : Picks n T C L M) {i : Nat} (hi : i < C.length) {t : Nat} (hc : Conn (Adj T) (C.getD i 0 / 3) t) : ∃ k, k < C.length ∧ C.getD k 0 / 3 = t ∧ M k = M i := by
  induction hc with
  | refl => exact ⟨i, hi, rfl, rfl⟩
  | step _ ha ih =>
    obtain ⟨a, h1, rfl, h3⟩ := ih
    obtain ⟨b, g1, rfl⟩ := h.sg_sur (h.s1.adj_nb ha).2.1
    exact ⟨b, g1, rfl, by rw [h.l2.clo a b (by rw [pick_len]; exact h1) (by rw [pick_len]; exact g1) ((h.adj h1 g1).2 ha), h3]⟩
  | back _ ha ih =>
    obtain ⟨a, h1, rfl, h3⟩ := ih
    obtain ⟨b, g1, rfl⟩ := h.sg_sur (h.s1.adj_nb ha).1
    exact ⟨b, g1, rfl, by rw [← h.l2.clo b a (by rw [pick_len]; exact g1) (by rw [pick_len]; exact h1) ((h.adj g1 h1).2 ha), h3]⟩
theorem Picks.same (h : Picks n T C L M) {i k : Nat} (hi : i < C.length) (hk : k < C.length) : M i = M k ↔ L (C.getD i 0 / 3) = L (C.getD k 0 / 3) := by
  constructor
  · intro e
    exact (h.fwd hi (h.l2.con i k (by rw [pick_len]; exact hi) (by rw [pick_len]; exact hk) e)).2.symm
  · intro e
    obtain ⟨k', h1, h2, h3⟩ := h.bwd hi (h.l1.con _ _ (h.sg_lt hi) (h.sg_lt hk) e)
    rw [← h3, h.sg_inj h1 hk h2]
/-- A picked shell is a shell. -/
theorem Picks.iso (h : Picks n T C L M) {i j k : Nat} (hi : i < C.length) (hj : M i = (j : Int)) (hk : L (C.getD i 0 / 3) = (k : Int)) : ∃ ψ, Iso n (pickT T C) M j n T L k false (pc' C) ψ := by
  obtain ⟨ψ, hψ⟩ : ∃ ψ : Nat → Nat, ∀ x, x < 3 * T.length → ψ x < 3 * C.length ∧ pc' C (ψ x) = x := by
    have : ∀ x : Nat, ∃ c : Nat, x < 3 * T.length → c < 3 * C.length ∧ pc' C c = x := fun x => by
      by_cases hx : x < 3 * T.length
      · obtain ⟨c, h1, h2⟩ := h.pc_sur hx
        exact ⟨c, fun _ => ⟨h1, h2⟩⟩
      · exact ⟨0, fun g => absurd g hx⟩
    exact Classical.skolem.1 this
  have hin : ∀ c, InSh (pickT T C) M j c → c < 3 * C.length := fun c hc => by have := hc.1; rw [pick_len] at this; exact this
  refine ⟨ψ, h.s2, h.s1, h.l2, h.l1, fun c hc => ?_, fun d hd => ?_, fun c hc => ?_, fun d hd => (hψ d hd.1).2, fun c d hc hd => ?_, fun c hc => pc_nxn C c⟩
  · have hc3 := hin c hc
    refine ⟨h.pc_lt hc3, ?_⟩
    rw [pc_div, ← hk]
    exact (h.same (by omega) hi).1 (by rw [hc.2, hj])
  · obtain ⟨h1, h2⟩ := hψ d hd.1
    refine ⟨by rw [pick_len]; exact h1, ?_⟩
    rw [← hj]
    refine (h.same (by omega) hi).2 ?_
    rw [← pc_div, h2, hd.2, hk]
  · have hc3 := hin c hc
    obtain ⟨h1, h2⟩ := hψ (pc' C c) (h.pc_lt hc3)
    exact h.pc_inj h1 hc3 h2
  · rw [vt_pick (hin c hc), vt_pick (hin d hd)]
    rfl
end
/-- A permutation of the shells. -/
theorem perm_of {m : Nat} {π : Nat → Nat} (h1 : ∀ k, k < m → π k < m) (h2 : ∀ a b, a < m → b < m → π a = π b → a = b) : ((List.range m).map π).Perm (List.range m) := by
  have hn : ((List.range m).map π).Nodup := nodup_on (fun a ha b hb e => h2 a b (List.mem_range.1 ha) (List.mem_range.1 hb) e) List.nodup_range
  refine (List.perm_ext_iff_of_nodup hn List.nodup_range).2 fun x => ?_
  constructor
  · intro hx
    obtain ⟨k, hk, rfl⟩ := List.mem_map.1 hx
    exact List.mem_range.2 (h1 k (List.mem_range.1 hk))
  · intro hx
    apply Classical.byContradiction
    intro hc
    have := sub_len ((List.range m).map π) ((List.range m).erase x) hn (fun y hy => by
      obtain ⟨k, hk, rfl⟩ := List.mem_map.1 hy
      exact (List.mem_erase_of_ne fun e => hc (by rw [← e]; exact hy)).2 (List.mem_range.2 (h1 k (List.mem_range.1 hk))))
    rw [List.length_map, List.length_erase_of_mem hx, List.length_range] at this
    have := List.mem_range.1 hx
    omega
def sumL : List Int → Int
  | [] => 0
  | a :: l => a + sumL l
theorem sumL_app (a b : List Int) : sumL (a ++ b) = sumL a + sumL b := by
  induction a with
  | nil => simp [sumL]
  | cons x a ih => simp only [List.cons_append, sumL, ih]; omega
theorem sumL_perm {a b : List Int} (h : a.Perm b) : sumL a = sumL b := by
  induction h with
  | nil => rfl
  | cons x _ ih => simp only [sumL, ih]
  | swap x y l => simp only [sumL]; omega
  | trans _ _ h1 h2 => rw [h1, h2]
theorem sumF_sumL (Φ : Nat → Int) (i : Nat) : ∀ m, sumF Φ m i = sumL ((List.range m).map fun k => Φ (k * 6 + i))
  | 0 => rfl
  | m + 1 => by
    rw [List.range_succ, List.map_append, sumL_app, ← sumF_sumL Φ i m]
    show sumF Φ m i + Φ (6 * m + i) = _
    simp only [List.map_cons, List.map_nil, sumL]
    rw [show 6 * m + i = m * 6 + i by omega]
    omega
/-- Shells that go over into one another: the numbers together, and the kinds. -/
theorem numbers_perm {Φ Ψ : Nat → Int} {m : Nat} {π : Nat → Nat} (h1 : ∀ k, k < m → π k < m) (h2 : ∀ a b, a < m → b < m → π a = π b → a = b) (hg : ∀ k i, k < m → i < 6 → Φ (k * 6 + i) = Ψ (π k * 6 + i)) :
    (∀ i, i < 6 → sumF Φ m i = sumF Ψ m i) ∧ (kindL Φ m).Perm (kindL Ψ m) := by
  have hp := perm_of h1 h2
  constructor
  · intro i hi
    rw [sumF_sumL, sumF_sumL]
    have e : ((List.range m).map fun k => Φ (k * 6 + i)) = ((List.range m).map π).map fun k => Ψ (k * 6 + i) := by
      rw [List.map_map]
      exact List.map_congr_left fun k hk => hg k i (List.mem_range.1 hk) hi
    rw [e]
    exact sumL_perm (hp.map _)
  · have e : kindL Φ m = ((List.range m).map π).map fun k => (Ψ (k * 6 + 3), Ψ (k * 6 + 5)) := by
      unfold kindL
      rw [List.map_map]
      exact List.map_congr_left fun k hk => by
        show (_, _) = (_, _)
        rw [hg k 3 (List.mem_range.1 hk) (by omega), hg k 5 (List.mem_range.1 hk) (by omega)]
    rw [e]
    exact hp.map _
section
variable {n : Nat} {T : List Tr} {C : List Nat} {L M : Nat → Int} {m m' : Nat}
theorem Picks.perm (h : Picks n T C L M) (hm : (m : Int) = cnt L T.length) (hm' : (m' : Int) = cnt M (pickT T C).length) :
    m' = m ∧ (∀ i, i < 6 → sumF (genF (pickT T C) M n) m i = sumF (genF T L n) m i) ∧ (kindL (genF (pickT T C) M n) m).Perm (kindL (genF T L n) m) := by
  -- to each picked shell its shell
  obtain ⟨π, hπ⟩ : ∃ π : Nat → Nat, ∀ k, k < m' → ∃ i, i < C.length ∧ M i = (k : Int) ∧ L (C.getD i 0 / 3) = (π k : Int) := by
    have : ∀ k : Nat, ∃ x : Nat, k < m' → ∃ i, i < C.length ∧ M i = (k : Int) ∧ L (C.getD i 0 / 3) = (x : Int) := fun k => by
      by_cases hk : k < m'
      · obtain ⟨i, h1, h2⟩ := h.l2.has (k := k) (by omega)
        rw [pick_len] at h1
        have := h.l1.nonneg _ (h.sg_lt h1)
        exact ⟨(L (C.getD i 0 / 3)).toNat, fun _ => ⟨i, h1, h2, by omega⟩⟩
      · exact ⟨0, fun g => absurd g hk⟩
    exact Classical.skolem.1 this
  have p1 : ∀ k, k < m' → π k < m := fun k hk => by
    obtain ⟨i, h1, -, h3⟩ := hπ k hk
    have := cnt_lt L T.length _ (h.sg_lt h1)
    omega
  have p2 : ∀ a b, a < m' → b < m' → π a = π b → a = b := fun a b ha hb e => by
    obtain ⟨i, h1, h2, h3⟩ := hπ a ha
    obtain ⟨j, g1, g2, g3⟩ := hπ b hb
    have := (h.same h1 g1).2 (by rw [h3, g3, e])
    omega
  have hle1 : m' ≤ m := by
    have := sub_len ((List.range m').map π) (List.range m) (nodup_on (fun a ha b hb e => p2 a b (List.mem_range.1 ha) (List.mem_range.1 hb) e) List.nodup_range) (fun y hy => by
      obtain ⟨k, hk, rfl⟩ := List.mem_map.1 hy
      exact List.mem_range.2 (p1 k (List.mem_range.1 hk)))
    simpa using this
  have hle2 : m ≤ m' := by
    apply Classical.byContradiction
    intro hlt
    -- a shell that no picked one goes to
    obtain ⟨ρ, hρ⟩ : ∃ ρ : Nat → Nat, ∀ k, k < m → ∃ i, i < C.length ∧ L (C.getD i 0 / 3) = (k : Int) ∧ M i = (ρ k : Int) := by
      have : ∀ k : Nat, ∃ x : Nat, k < m → ∃ i, i < C.length ∧ L (C.getD i 0 / 3) = (k : Int) ∧ M i = (x : Int) := fun k => by
        by_cases hk : k < m
        · obtain ⟨t, h1, h2⟩ := h.l1.has (k := k) (by omega)
          obtain ⟨i, g1, g2⟩ := h.sg_sur h1
          have := h.l2.nonneg i (by rw [pick_len]; exact g1)
          exact ⟨(M i).toNat, fun _ => ⟨i, g1, by rw [g2, h2], by omega⟩⟩
        · exact ⟨0, fun g => absurd g hk⟩
      exact Classical.skolem.1 this
    have := sub_len ((List.range m).map ρ) (List.range m') (nodup_on (fun a ha b hb e => by
      obtain ⟨i, h1, h2, h3⟩ := hρ a (List.mem_range.1 ha)
      obtain ⟨j, g1, g2, g3⟩ := hρ b (List.mem_range.1 hb)
      have := (h.same h1 g1).1 (by rw [h3, g3, e])
      omega) List.nodup_range) (fun y hy => by
      obtain ⟨k, hk, rfl⟩ := List.mem_map.1 hy
      obtain ⟨i, h1, h2, h3⟩ := hρ k (List.mem_range.1 hk)
      have := cnt_lt M (pickT T C).length i (by rw [pick_len]; exact h1)
      exact List.mem_range.2 (by omega))
    rw [List.length_map, List.length_range, List.length_range] at this
    omega
  have hmm : m' = m := by omega
  subst hmm
  refine ⟨rfl, numbers_perm p1 p2 fun k i hk hi => ?_⟩
  obtain ⟨x, h1, h2, h3⟩ := hπ k hk
  obtain ⟨ψ, iso⟩ := h.iso h1 h2 h3
  exact iso.gen hi
end
/-- A surface of n vertices whose numbers together are z, whose kinds are E. -/
def Like (n : Nat) (z : Nat → Int) (E : List (Int × Int)) (U : List Tr) : Prop :=
  Surf n U ∧ KindIs n U E true ∧ ∃ (m : Nat) (L : Nat → Int), IsShells (Adj U) U.length L ∧ (m : Int) = cnt L U.length ∧ ∀ i, i < 6 → sumF (genF U L n) m i = z i
theorem sumF_congr {Φ Ψ : Nat → Int} {i : Nat} (hi : i < 6) (h : ∀ k i, i < 6 → Φ (k * 6 + i) = Ψ (k * 6 + i)) : ∀ m, sumF Φ m i = sumF Ψ m i
  | 0 => rfl
  | m + 1 => by
    show sumF Φ m i + Φ (6 * m + i) = sumF Ψ m i + Ψ (6 * m + i)
    rw [sumF_congr hi h m, Nat.mul_comm 6 m, h m i hi]
theorem kindL_congr {Φ Ψ : Nat → Int} (h : ∀ k i, i < 6 → Φ (k * 6 + i) = Ψ (k * 6 + i)) (m : Nat) : kindL Φ m = kindL Ψ m := by
  unfold kindL
  exact List.map_congr_left fun s _ => by rw [h s 3 (by omega), h s 5 (by omega)]
section
variable {n m : Nat} {T U : List Tr} {L : Nat → Int}
theorem like_of (hs' : Surf n U) (hL : IsShells (Adj T) T.length L) (hm : (m : Int) = cnt L T.length) (hL' : IsShells (Adj U) U.length L) (hlen : U.length = T.length) (hg : ∀ k i, i < 6 → genF U L n (k * 6 + i) = genF T L n (k * 6 + i)) :
    Like n (fun i => sumF (genF T L n) m i) (sortP (kindL (genF T L n) m)) U :=
  ⟨hs', Or.inl ⟨n, m, L, rfl, hs', hL', by rw [hlen]; exact hm, by rw [kindL_congr hg], rfl⟩, m, L, hL', by rw [hlen]; exact hm, fun i hi => sumF_congr hi hg m⟩
theorem like_self (hs : Surf n T) (hL : IsShells (Adj T) T.length L) (hm : (m : Int) = cnt L T.length) : Like n (fun i => sumF (genF T L n) m i) (sortP (kindL (genF T L n) m)) T := like_of hs hL hm hL rfl (fun _ _ _ => rfl)
theorem like_mirror (hs : Surf n T) (hL : IsShells (Adj T) T.length L) (hm : (m : Int) = cnt L T.length) : Like n (fun i => sumF (genF T L n) m i) (sortP (kindL (genF T L n) m)) (mirT T) :=
  like_of (mirror_surf hs) hL hm (mirror_shells hs hL) (mirT_len T) (fun k _ hi => mirror_gen hs hL k hi)
theorem like_rename {r : Int → Int} (hs : Surf n T) (h : Names n r) (hL : IsShells (Adj T) T.length L) (hm : (m : Int) = cnt L T.length) : Like n (fun i => sumF (genF T L n) m i) (sortP (kindL (genF T L n) m)) (rnT r T) :=
  like_of (rename_surf hs h) hL hm (rename_shells hs h hL) (rnT_len r T) (fun k _ hi => rename_gen hs h hL k hi)
theorem like_pick {C : List Nat} (hs : Surf n T) (hL : IsShells (Adj T) T.length L) (hm : (m : Int) = cnt L T.length) (hC : ∀ c ∈ C, c < 3 * T.length) (hl : C.length = T.length) (hs' : Surf n (pickT T C)) : Like n (fun i => sumF (genF T L n) m i) (sortP (kindL (genF T L n) m)) (pickT T C) := by
  obtain ⟨M, hM⟩ := shells_exist (Adj (pickT T C)) (pickT T C).length
  obtain ⟨m', hm'⟩ := Int.eq_ofNat_of_zero_le (cnt_nonneg M (pickT T C).length)
  have hP : Picks n T C L M := ⟨hs, hs', hL, hM, hC, hl⟩
  obtain ⟨rfl, h1, h2⟩ := hP.perm hm hm'.symm
  exact ⟨hs', Or.inl ⟨n, m', M, rfl, hs', hM, hm'.symm, sortP_eq.2 h2.symm, rfl⟩, m', M, hM, hm'.symm, h1⟩
end
/-- A list of triangles where it lies. -/
abbrev SoupAt := Option Addr × Nat × List Tr
def scells (n : Nat) (D : List SoupAt) : List Value := D.flatMap fun d => [.int .i64 (n : Int), .slice d.1 d.2.2.length d.2.1]
theorem scells_snoc (n : Nat) (D : List SoupAt) (d : SoupAt) : scells n (D ++ [d]) = scells n D ++ [.int .i64 (n : Int), .slice d.1 d.2.2.length d.2.1] := by simp [scells]
theorem scells_get (n : Nat) : ∀ (D : List SoupAt) (i : Nat) (d : SoupAt), D[i]? = some d → (scells n D)[i * 2]? = some (.int .i64 (n : Int)) ∧ (scells n D)[i * 2 + 1]? = some (.slice d.1 d.2.2.length d.2.1)
  | [], i, d, h => by simp at h
  | c :: D, 0, d, h => by
    simp at h
    subst h
    exact ⟨rfl, rfl⟩
  | c :: D, i + 1, d, h => by
    have := scells_get n D i d (by simpa using h)
    rw [show (i + 1) * 2 = i * 2 + 2 by omega, show i * 2 + 2 + 1 = i * 2 + 1 + 2 by omega]
    exact this
/-- A row of surfaces. -/
def RowS (n : Nat) (z : Nat → Int) (E : List (Int × Int)) (w : World) (base : Nat) (v : Value) (D : List SoupAt) : Prop :=
  w.ownsRow base 24 2 v D.length (scells n D) ∧ ∀ d ∈ D, (∃ b, w.ownsRow b 62 3 (.slice d.1 d.2.2.length d.2.1) d.2.2.length (tcells d.2.2)) ∧ Like n z E d.2.2
theorem RowS.after {n : Nat} {z : Nat → Int} {E : List (Int × Int)} {w w' : World} {base : Nat} {v : Value} {D : List SoupAt} (h : RowS n z E w base v D) (hb : Below w.heap.size w w') : RowS n z E w' base v D :=
  ⟨owns_below h.1 hb, fun d hd => ⟨(h.2 d hd).1.elim fun b hb' => ⟨b, owns_below hb' hb⟩, (h.2 d hd).2⟩⟩
theorem RowS.one {n : Nat} {z : Nat → Int} {E : List (Int × Int)} {w : World} {ao : Option Addr} {cap : Nat} {U : List Tr} (hb : ∃ b, w.ownsRow b 62 3 (.slice ao U.length cap) U.length (tcells U)) (hL : Like n z E U) :
    RowS n z E (w.alloc (.cells #[.int .i64 (n : Int), .slice ao U.length cap] 24)) w.heap.size (.slice (some ⟨w.heap.size, 0, none⟩) 1 1) [(ao, cap, U)] := by
  refine ⟨(RowIs.made w 24 [.int .i64 (n : Int), .slice ao U.length cap]).owns (Nat.le_refl _) rfl (by unfold maxLen; omega), fun d hd => ?_⟩
  obtain rfl := List.mem_singleton.1 hd
  exact ⟨hb.elim fun b h => ⟨b, h.alloc _⟩, hL⟩
theorem RowS.push {n : Nat} {z : Nat → Int} {E : List (Int × Int)} {w w' : World} {base : Nat} {v v' : Value} {D : List SoupAt} {ao : Option Addr} {cap : Nat} {U : List Tr} (h : RowS n z E w base v D) (hb : ∃ b, w.ownsRow b 62 3 (.slice ao U.length cap) U.length (tcells U)) (hL : Like n z E U)
    (hown : w'.ownsRow base 24 2 v' (D.length + 1) (scells n D ++ [.int .i64 (n : Int), .slice ao U.length cap])) (hg : w.grownBy w' v.ownBlock) : RowS n z E w' base v' (D ++ [(ao, cap, U)]) := by
  refine ⟨by rw [scells_snoc, List.length_append]; exact hown, fun d hd => ?_⟩
  rcases List.mem_append.1 hd with hd | hd
  · exact ⟨(h.2 d hd).1.elim fun b k => ⟨b, k.kept hg (owns_apart14 k h.1 (by decide))⟩, (h.2 d hd).2⟩
  · obtain rfl := List.mem_singleton.1 hd
    exact ⟨hb.elim fun b k => ⟨b, k.kept hg (owns_apart14 k h.1 (by decide))⟩, hL⟩
theorem infoSoup : (Tryz.prog.info? 24).map (fun i => (i.zero, i.size, i.bytes)) = some (some (.agg #[.int .i64 0, .slice none 0 0]), 2, 32) := by kernel_rfl
set_option maxRecDepth 100000 in
set_option maxHeartbeats 1000000 in
theorem mirror1 (x y z : Int) (w : World) :
    Calls Tryz.prog 53 #[.agg #[.int .i64 x, .int .i64 y, .int .i64 z]] w fun e w' => e = .returned (.agg #[.int .i64 x, .int .i64 z, .int .i64 y]) ∧ Below w.heap.size w w' := by
  obtain ⟨W0, hW0⟩ : ∃ W0, W0 = (w.alloc (.cells #[.int .i64 x, .int .i64 y, .int .i64 z] 62)).alloc (.cells #[.int .i64 0, .int .i64 0, .int .i64 0] 62) := ⟨_, rfl⟩
  obtain ⟨B, hB⟩ : ∃ B, B = w.heap.size := ⟨_, rfl⟩
  have HB := Lib.hid (show Below B w W0 from by rw [hW0, hB]; exact ((Below.refl _ _).alloc (Nat.le_refl _) _).alloc (by simp) _)
  have HX := Lib.hid (show RowIs W0 B 62 [.int .i64 x, .int .i64 y, .int .i64 z] from by rw [hW0, hB]; exact (RowIs.made w 62 [.int .i64 x, .int .i64 y, .int .i64 z]).alloc _)
  have HR := Lib.hid (show RowIs W0 (B + 1) 62 [.int .i64 0, .int .i64 0, .int .i64 0] from by rw [hW0, hB]; exact row_two w _ 62 [.int .i64 0, .int .i64 0, .int .i64 0])
  have HBB := Lib.hid hB
  go_enter Tryz.func53, Tryz.ntmps53
  go_upto_region 1 with fail
  rw [← hW0]
  rw [← hB]
  clear hW0 hB
  have x0 := HX.out.cell (i := 0) rfl
  have x1 := HX.out.cell (i := 1) rfl
  have x2 := HX.out.cell (i := 2) rfl
  have f0 := HR.out.free 0
  have f1 := HR.out.free 1
  have f2 := HR.out.free 2
  have d0 := HR.out.cell (i := 0) rfl
  have d1 := HR.out.cell (i := 1) rfl
  have d2 := HR.out.cell (i := 2) rfl
  have hr9 := ((HR.out.set 0 (.int .i64 x)).set 1 (.int .i64 z)).set 2 (.int .i64 y)
  have e0 := hr9.cell (i := 0) rfl
  have e1 := hr9.cell (i := 1) rfl
  have e2 := hr9.cell (i := 2) rfl
  have HF := Lib.hid (((HB.out.setCell (p := ⟨B + 1, 0, none⟩) (Nat.le_succ _) (.int .i64 x)).setCell (p := ⟨B + 1, 1, none⟩) (Nat.le_succ _) (.int .i64 z)).setCell (p := ⟨B + 1, 2, none⟩) (Nat.le_succ _) (.int .i64 y))
  clear hr9
  go_wp2
  refine bodyPost_ret (v := .agg #[.int .i64 x, .int .i64 z, .int .i64 y]) (by simp [results, Tryz.results53, go_sem, e0, e1, e2]) rfl ⟨rfl, ?_⟩
  rw [← HBB.out]
  exact HF.out
set_option maxRecDepth 100000 in
set_option maxHeartbeats 1000000 in
theorem mirror_ok (N : Int) (ao : Option Addr) (cap : Nat) (T : List Tr) (w : World) (hT : TrisAt w ao T) (hl : T.length ≤ 8192) :
    Calls Tryz.prog 21 #[.agg #[.int .i64 N, .slice ao T.length cap]] w fun e w' => ∃ ao' cap', e = .returned (.agg #[.int .i64 N, .slice ao' T.length cap']) ∧ w'.ownsRow w.heap.size 62 3 (.slice ao' T.length cap') T.length (tcells (mirT T)) ∧ Below w.heap.size w w' := by
  obtain ⟨W0, hW0⟩ : ∃ W0, W0 = (w.alloc (.cells #[.int .i64 N, .slice ao T.length cap] 24)).alloc (.cells #[.int .i64 0, .slice none 0 0] 24) := ⟨_, rfl⟩
  obtain ⟨B, hB⟩ : ∃ B, B = w.heap.size := ⟨_, rfl⟩
  have hb0 : Below B w W0 := by rw [hW0, hB]; exact ((Below.refl _ _).alloc (Nat.le_refl _) _).alloc (by simp) _
  have hx : RowIs W0 B 24 [.int .i64 N, .slice ao T.length cap] := by rw [hW0, hB]; exact (RowIs.made w 24 [.int .i64 N, .slice ao T.length cap]).alloc _
  have HR := Lib.hid (show RowIs W0 (B + 1) 24 [.int .i64 0, .slice none 0 0] from by rw [hW0, hB]; exact row_two w _ 24 [.int .i64 0, .slice none 0 0])
  have HC := Lib.hid (each_mirror mt N ao cap T W0 (hT.mono (by rw [hB]; exact Nat.le_refl _) hb0) hl (fun X i _ _ => mirror1 (T! T i).1 (T! T i).2.1 (T! T i).2.2 X))
  have HB := Lib.hid hb0
  have HBB := Lib.hid hB
  have HS := Lib.hid (show B + 2 ≤ W0.heap.size from HR.out.lt)
  obtain ⟨n, hn⟩ : ∃ n, n = T.length := ⟨_, rfl⟩
  rw [← hn] at HC hx hW0 ⊢
  have x0 := hx.cell (i := 0) rfl
  have x1 := hx.cell (i := 1) rfl
  clear hT hl hb0 hx hn
  go_enter Tryz.func21, Tryz.ntmps21
  go_upto_region 1 with fail
  rw [← hW0]
  rw [← hB]
  clear hW0 hB
  go_wp2_with fail
  refine HC.out.mono ?_
  rintro e w2 ⟨ao9, cap9, rfl, ho, hb2⟩
  have hr := HR.out.after hb2
  have HO := Lib.hid (show ((w2.setCell ⟨B + 1, 0, none⟩ (.int .i64 N)).setCell ⟨B + 1, 1, none⟩ (.slice ao9 n cap9)).ownsRow B 62 3 (.slice ao9 n cap9) n (tcells (mirT T)) from by
    have h1 := ho.kept (grown_set w2 (B + 1) 0 (.int .i64 N)) (.inr fun e => by have := (ho.lt _ e).1; have := HS.out; omega)
    have h2 := h1.kept (grown_set _ (B + 1) 1 (.slice ao9 n cap9)) (.inr fun e => by have := (ho.lt _ e).1; have := HS.out; omega)
    exact owns_base h2 (by have := HS.out; omega))
  have d0 := hr.cell (i := 0) rfl
  have d1 := hr.cell (i := 1) rfl
  have f0 := hr.free 0
  have f1 := hr.free 1
  have hr9 := (hr.set 0 (.int .i64 N)).set 1 (.slice ao9 n cap9)
  have e0 := hr9.cell (i := 0) rfl
  have e1 := hr9.cell (i := 1) rfl
  have HF := Lib.hid (((below_more HB.out hb2 (by have := HS.out; omega)).setCell (p := ⟨B + 1, 0, none⟩) (Nat.le_succ _) (.int .i64 N)).setCell (p := ⟨B + 1, 1, none⟩) (Nat.le_succ _) (.slice ao9 n cap9))
  clear hr hr9 hb2 ho x0 x1
  go_wp2
  refine bodyPost_ret (v := .agg #[.int .i64 N, .slice ao9 n cap9]) (by simp [results, Tryz.results21, go_sem, e0, e1]) rfl ⟨ao9, cap9, rfl, ?_, ?_⟩
  · rw [← HBB.out]
    exact HO.out
  · rw [← HBB.out]
    exact HF.out
/-- The name of a vertex by a list. -/
def toI (I : List Int) (v : Int) : Int := I! I v.toNat
structure SeenN (n : Nat) (I : List Int) (k : Nat) (β : Nat → Bool) : Prop where
  inn : ∀ q, q < k → 0 ≤ I! I q ∧ I! I q < (n : Int)
  inj : ∀ p q, p < k → q < k → I! I p = I! I q → p = q
  mem : ∀ j, j < n → (β j = true ↔ ∃ q, q < k ∧ I! I q = (j : Int))
theorem SeenN.start (n : Nat) (I : List Int) : SeenN n I 0 (fun _ => false) := ⟨fun q h => by omega, fun p q h => by omega, fun j _ => ⟨fun h => absurd h (by simp), fun ⟨q, h, _⟩ => absurd h (by omega)⟩⟩
theorem SeenN.push {n : Nat} {I : List Int} {k : Nat} {β : Nat → Bool} (h : SeenN n I k β) {v : Nat} (hv : I! I k = (v : Int)) (hn : v < n) (hb : β v = false) : SeenN n I (k + 1) (updB β v true) := by
  have hno : ∀ q, q < k → I! I q ≠ (v : Int) := fun q hq e => by
    rw [(h.mem v hn).2 ⟨q, hq, e⟩] at hb
    cases hb
  refine ⟨fun q hq => ?_, fun p q hp hq e => ?_, fun j hj => ?_⟩
  · rcases Nat.lt_succ_iff_lt_or_eq.1 hq with hq | rfl
    · exact h.inn q hq
    · rw [hv]; omega
  · rcases Nat.lt_succ_iff_lt_or_eq.1 hp with hp | rfl
    · rcases Nat.lt_succ_iff_lt_or_eq.1 hq with hq | rfl
      · exact h.inj p q hp hq e
      · exact absurd (e.trans hv) (hno p hp)
    · rcases Nat.lt_succ_iff_lt_or_eq.1 hq with hq | rfl
      · exact absurd (e.symm.trans hv) (hno q hq)
      · rfl
  · unfold updB
    by_cases e : j = v
    · subst e
      simp only [if_true, true_iff]
      exact ⟨k, by omega, hv⟩
    · rw [if_neg e]
      constructor
      · intro hb
        obtain ⟨q, hq, e2⟩ := (h.mem j hj).1 hb
        exact ⟨q, by omega, e2⟩
      · rintro ⟨q, hq, e2⟩
        rcases Nat.lt_succ_iff_lt_or_eq.1 hq with hq | rfl
        · exact (h.mem j hj).2 ⟨q, hq, e2⟩
        · rw [hv] at e2
          omega
theorem SeenN.names {n : Nat} {I : List Int} {β : Nat → Bool} (h : SeenN n I n β) : Names n (toI I) where
  inn := fun v v0 v1 => h.inn v.toNat (by omega)
  inj := fun u v u0 u1 v0 v1 e => by have := h.inj u.toNat v.toNat (by omega) (by omega) e; omega
set_option maxRecDepth 100000 in
set_option maxHeartbeats 1500000 in
theorem rename1 (x y z : Nat) (cb b0 off len ic : Nat) (r0 r1 r2 : Int) (w : World) (hx : x < len) (hy : y < len) (hz : z < len) (hcb : w.cell? ⟨cb, 0, none⟩ = some (.slice (some ⟨b0, off, none⟩) len ic))
    (h0 : w.cell? ⟨b0, off + x, none⟩ = some (.int .i64 r0)) (h1 : w.cell? ⟨b0, off + y, none⟩ = some (.int .i64 r1)) (h2 : w.cell? ⟨b0, off + z, none⟩ = some (.int .i64 r2)) :
    Calls Tryz.prog 54 #[.agg #[.int .i64 x, .int .i64 y, .int .i64 z], .pointer (some ⟨cb, 0, none⟩)] w fun e w' => e = .returned (.agg #[.int .i64 r0, .int .i64 r1, .int .i64 r2]) ∧ Below w.heap.size w w' := by
  obtain ⟨W0, hW0⟩ : ∃ W0, W0 = (w.alloc (.cells #[.int .i64 (x : Int), .int .i64 (y : Int), .int .i64 (z : Int)] 62)).alloc (.cells #[.int .i64 0, .int .i64 0, .int .i64 0] 62) := ⟨_, rfl⟩
  obtain ⟨B, hB⟩ : ∃ B, B = w.heap.size := ⟨_, rfl⟩
  have hb0 : Below B w W0 := by rw [hW0, hB]; exact ((Below.refl _ _).alloc (Nat.le_refl _) _).alloc (by simp) _
  have hx0 : RowIs W0 B 62 [.int .i64 (x : Int), .int .i64 (y : Int), .int .i64 (z : Int)] := by rw [hW0, hB]; exact (RowIs.made w 62 [.int .i64 (x : Int), .int .i64 (y : Int), .int .i64 (z : Int)]).alloc _
  have HR := Lib.hid (show RowIs W0 (B + 1) 62 [.int .i64 0, .int .i64 0, .int .i64 0] from by rw [hW0, hB]; exact row_two w _ 62 [.int .i64 0, .int .i64 0, .int .i64 0])
  have k0 := (hb0.cell (p := ⟨cb, 0, none⟩) (by rw [hB]; exact World.block_lt_of_cell? _ _ hcb)).trans hcb
  have k1 := (hb0.cell (p := ⟨b0, off + x, none⟩) (by rw [hB]; exact World.block_lt_of_cell? _ _ h0)).trans h0
  have k2 := (hb0.cell (p := ⟨b0, off + y, none⟩) (by rw [hB]; exact World.block_lt_of_cell? _ _ h1)).trans h1
  have k3 := (hb0.cell (p := ⟨b0, off + z, none⟩) (by rw [hB]; exact World.block_lt_of_cell? _ _ h2)).trans h2
  have x0 := hx0.cell (i := 0) rfl
  have x1 := hx0.cell (i := 1) rfl
  have x2 := hx0.cell (i := 2) rfl
  have HB := Lib.hid hb0
  have HBB := Lib.hid hB
  have hx1 : (x : Int) < (len : Int) := by omega
  have hy1 : (y : Int) < (len : Int) := by omega
  have hz1 : (z : Int) < (len : Int) := by omega
  have hx2 : (0 : Int) ≤ (x : Int) := by omega
  have hy2 : (0 : Int) ≤ (y : Int) := by omega
  have hz2 : (0 : Int) ≤ (z : Int) := by omega
  clear hcb h0 h1 h2 hb0 hx0
  go_enter Tryz.func54, Tryz.ntmps54
  go_upto_region 1 with fail
  rw [← hW0]
  rw [← hB]
  clear hW0 hB
  obtain ⟨Y, hY⟩ : ∃ Y, Y = W0.drew := ⟨_, rfl⟩
  have HY := Lib.hid hY
  have hd : RowIs Y (B + 1) 62 [.int .i64 0, .int .i64 0, .int .i64 0] := by rw [hY]; exact HR.out.drew1
  have hbY : Below B w Y := by rw [hY]; exact HB.out.trans (show Below B W0 W0.drew from ⟨rfl, rfl, rfl, Nat.le_refl _, fun _ _ => rfl⟩)
  clear hY
  go_still_tail 16, (by kernel_rfl)
  change wpList _ _ _ _ _ W0.drew
  rw [← HY.out]
  have f0 := hd.free 0
  have f1 := hd.free 1
  have f2 := hd.free 2
  have d0 := hd.cell (i := 0) rfl
  have d1 := hd.cell (i := 1) rfl
  have d2 := hd.cell (i := 2) rfl
  have hr9 := ((hd.set 0 (.int .i64 r0)).set 1 (.int .i64 r1)).set 2 (.int .i64 r2)
  have e0 := hr9.cell (i := 0) rfl
  have e1 := hr9.cell (i := 1) rfl
  have e2 := hr9.cell (i := 2) rfl
  have HF := Lib.hid (((hbY.setCell (p := ⟨B + 1, 0, none⟩) (Nat.le_succ _) (.int .i64 r0)).setCell (p := ⟨B + 1, 1, none⟩) (Nat.le_succ _) (.int .i64 r1)).setCell (p := ⟨B + 1, 2, none⟩) (Nat.le_succ _) (.int .i64 r2))
  clear hr9 hd hbY
  go_wp2
  refine bodyPost_ret (v := .agg #[.int .i64 r0, .int .i64 r1, .int .i64 r2]) (by simp [results, Tryz.results54, go_sem, e0, e1, e2]) rfl ⟨rfl, ?_⟩
  rw [← HBB.out]
  exact HF.out
/-- What soup.Rename gives: no names, or the surface by other names. -/
def RenPost (n : Nat) (T : List Tr) (I : List Int) (w : World) (e : Ending) (w' : World) : Prop :=
  Below w.heap.size w w' ∧ ((∃ r : Int, r ≠ 0 ∧ e = .returned (.tuple #[.agg #[.int .i64 0, .slice none 0 0], .int .i64 r])) ∨
    ∃ ao cap, e = .returned (.tuple #[.agg #[.int .i64 (n : Int), .slice ao T.length cap], .int .i64 0]) ∧ w'.ownsRow w.heap.size 62 3 (.slice ao T.length cap) T.length (tcells (rnT (toI I) T)) ∧ Names n (toI I))
theorem ren_no {n : Nat} {T : List Tr} {I : List Int} {w w' : World} {r : Int} (h : r ≠ 0) (hb : Below w.heap.size w w') : RenPost n T I w (.returned (.tuple #[.agg #[.int .i64 0, .slice none 0 0], .int .i64 r])) w' := ⟨hb, .inl ⟨r, h, rfl⟩⟩
theorem two_set {w X : World} {B g : Nat} {e : TypeId} {a b : Value} (hr : RowIs X g e [a, b]) (hb : Below B w X) (hg : B ≤ g) (c d : Value) :
    RowIs ((X.setCell ⟨g, 0, none⟩ c).setCell ⟨g, 1, none⟩ d) g e [c, d] ∧ Below B w ((X.setCell ⟨g, 0, none⟩ c).setCell ⟨g, 1, none⟩ d) :=
  ⟨(hr.set 0 c).set 1 d, (hb.setCell (p := ⟨g, 0, none⟩) hg c).setCell (p := ⟨g, 1, none⟩) hg d⟩
set_option maxRecDepth 100000 in
set_option maxHeartbeats 1500000 in
theorem rename_ok (n : Nat) (ao : Option Addr) (cap : Nat) (T : List Tr) (io : Option Addr) (ic : Nat) (I : List Int) (w : World) (hs : Surf n T) (hT : TrisAt w ao T) (hI : IntsAt w io I) (hIl : I.length ≤ 60) :
    Calls Tryz.prog 22 #[.agg #[.int .i64 (n : Int), .slice ao T.length cap], .slice io I.length ic] w (RenPost n T I w) := by
  obtain ⟨j0, hj, hy0, hy1, hy2⟩ := info_parts info4
  obtain ⟨B, hB⟩ : ∃ B, B = w.heap.size := ⟨_, rfl⟩
  obtain ⟨t, ht⟩ : ∃ t, t = T.length := ⟨_, rfl⟩
  obtain ⟨m, hm⟩ : ∃ m, m = I.length := ⟨_, rfl⟩
  obtain ⟨W0, hW0⟩ : ∃ W0, W0 = ((w.alloc (.cells #[.int .i64 (n : Int), .slice ao t cap] 24)).alloc (.cells #[.slice io m ic] 45)).alloc (.cells #[.int .i64 0, .slice none 0 0] 24) := ⟨_, rfl⟩
  have hb0 : Below B w W0 := by rw [hW0, hB]; exact (((Below.refl _ _).alloc (Nat.le_refl _) _).alloc (by simp) _).alloc (by simp; omega) _
  have hs0 : RowIs W0 B 24 [.int .i64 (n : Int), .slice ao t cap] := by rw [hW0, hB]; exact ((RowIs.made w 24 [.int .i64 (n : Int), .slice ao t cap]).alloc _).alloc _
  have hi0 : RowIs W0 (B + 1) 45 [.slice io m ic] := by rw [hW0, hB]; exact (row_two w _ 45 [.slice io m ic]).alloc _
  have hr0 : RowIs W0 (B + 2) 24 [.int .i64 0, .slice none 0 0] := by rw [hW0, hB]; exact RowIs.made' _ _ [.int .i64 0, .slice none 0 0] _ (by simp)
  have HS0 := Lib.hid hs0
  have HI0 := Lib.hid hi0
  have HR0 := Lib.hid hr0
  have HB0 := Lib.hid hb0
  have HBB := Lib.hid hB
  have HTL := Lib.hid ht
  have HML := Lib.hid hm
  have HS := Lib.hid hs
  have hn1 : n ≤ 4096 := by have := hs.n1; omega
  have HT := Lib.hid (show TrisAt W0 ao T from hT.mono (by rw [hB]; exact Nat.le_refl _) hb0)
  have HI := Lib.hid (show IntsAt W0 io I from hI.mono (by rw [hB]; exact Nat.le_refl _) hb0)
  have HFI := Lib.hid (soupfits_yes n ao cap T W0 hs HT.out)
  have x0 := hs0.cell (i := 0) rfl
  have x1 := hs0.cell (i := 1) rfl
  rw [← ht] at HFI ⊢
  rw [← hm] at hIl ⊢
  have HSZ := Lib.hid (show B + 3 ≤ W0.heap.size from hr0.lt)
  have hmf : ∀ (fn : Fn) (first cap : Array Value) (w : World), (Instr.makeFunc fn first cap).run Tryz.prog w = .ok (.func fn first cap) w := fun _ _ _ _ => rfl
  clear hb0 hs0 hi0 hr0 hs hT hI ht hm
  go_enter Tryz.func22, Tryz.ntmps22
  go_upto_region 1 with fail
  rw [← hW0]
  rw [← hB]
  clear hW0 hB
  go_wp2_with fail
  refine HFI.out.mono ?_
  rintro e w1 ⟨rfl, hb1⟩
  have hs1 := HS0.out.after hb1
  have x0' := hs1.cell (i := 0) rfl
  have HB1 := Lib.hid hb1
  have HRW := Lib.hid (HR0.out.after hb1)
  have hi1 := (HI0.out.after hb1).cell (i := 0) rfl
  clear x0 x1 hb1
  go_wp2_with (at_make; refine wpList_make_full _ rfl _ _ _ rfl w1.heap.size 4 j0 (.bool false) 1 (by kernel_rfl) hj hy0 hy1 _ _ _ _ n rfl rfl rfl rfl (by rw [hy2]; omega) (by unfold maxLen; omega) (by simp) ?_)
  intro X1 hown hgr
  rw [madeCells_bv] at hown
  have hrow := RowIs.of_owns hown
  have HB2 := Lib.hid (show Below w1.heap.size w1 X1 from (Below.refl _ _).grown hgr (by simp) (by simp))
  have HR := Lib.hid hrow
  have HSX := Lib.hid (hs1.after HB2.out)
  have HRX := Lib.hid (HRW.out.after HB2.out)
  have hi2 := (HI0.out.after (below_more HB1.out HB2.out HB1.out.size)).cell (i := 0) rfl
  have HBX := Lib.hid (show Below W0.heap.size W0 X1 from below_more HB1.out HB2.out HB1.out.size)
  obtain ⟨g, hg⟩ : ∃ g, g = w1.heap.size := ⟨_, rfl⟩
  have HGB := Lib.hid (show B + 3 ≤ g from by rw [hg]; exact Nat.le_trans HSZ.out HB1.out.size)
  have HGW := Lib.hid (show W0.heap.size ≤ g from by rw [hg]; exact HB1.out.size)
  have HGX := Lib.hid (show g < X1.heap.size from by rw [hg]; exact hrow.lt)
  rw [← hg] at HR ⊢
  clear hown hgr hrow hs1 hi1 x0' HB2 HRW HB1 hg
  go_upto_region 4 with fail
  go_wp2
  go_loopw [18] (fun i ws => ∃ (k : Nat) (β : Nat → Bool), k ≤ m ∧ i = .int .i64 k ∧ Hid (RowIs ws g 4 (bv β n) ∧ SeenN n I k β ∧ But X1.heap.size g X1 ws ∧ X1.heap.size ≤ ws.heap.size)) (fun i _ => m - (intOf i).toNat)
  case atStart => exact ⟨0, _, by omega, rfl, ⟨HR.out, SeenN.start n I, But.refl _ _ _, Nat.le_refl _⟩⟩
  case round =>
  obtain ⟨k, β, hk, rfl, HST⟩ := hrel
  obtain ⟨X, rfl⟩ : ∃ X : World, X = wr := ⟨_, rfl⟩
  clear HR
  have HBW := Lib.hid (show Below W0.heap.size W0 X from HBX.out.trans (HST.out.2.2.1.below (B' := W0.heap.size) HBX.out.size HGW.out))
  have HBw := Lib.hid (show Below B w X from HB0.out.trans (HBW.out.mono (by have := HSZ.out; omega)))
  have hsX := HST.out.2.2.1.row HSX.out HSX.out.lt (by have := HGB.out; omega)
  have hrX := HST.out.2.2.1.row HRX.out HRX.out.lt (by have := HGB.out; omega)
  have d0 := hrX.cell (i := 0) rfl
  have d1 := hrX.cell (i := 1) rfl
  have f0 := hrX.free 0
  have f1 := hrX.free 1
  have x0 := hsX.cell (i := 0) rfl
  have x1 := hsX.cell (i := 1) rfl
  have HRX' := Lib.hid hrX
  have HZ := Lib.hid (two_set hrX HBw.out (show B ≤ B + 2 by omega) (.int .i64 0) (.slice none 0 0))
  have e0 := HZ.out.1.cell (i := 0) rfl
  have e1 := HZ.out.1.cell (i := 1) rfl
  by_cases hkm : k < m
  case pos =>
    obtain ⟨b0, off, v, rfl, hv, hc, -, -⟩ := HI.out.get (Nat.le_refl _) HBW.out (i := k) (by rw [← HML.out]; exact hkm)
    have hk0 : (0 : Int) ≤ (k : Int) := by omega
    have hk1 : (k : Int) < (m : Int) := by omega
    clear hsX hrX
    by_cases hv0 : v < 0
    · have g0 : decide (v < 0) = true := by simp; omega
      clear hv0
      go_wp2
      refine bodyPost_ret (v := .tuple #[.agg #[.int .i64 0, .slice none 0 0], .int .i64 3]) (by simp [results, Tryz.results22, go_sem, e0, e1]) rfl (ren_no (by decide) ?_)
      rw [← HBB.out]
      exact HZ.out.2
    have g0 : decide (v < 0) = false := by simp; omega
    by_cases hvn : v < (n : Int)
    case neg =>
      have g1 : decide (v ≥ (n : Int)) = true := by simp; omega
      have g1' : decide ((n : Int) ≤ v) = true := by simp; omega
      clear hv0 hvn
      go_wp2
      refine bodyPost_ret (v := .tuple #[.agg #[.int .i64 0, .slice none 0 0], .int .i64 3]) (by simp [results, Tryz.results22, go_sem, e0, e1]) rfl (ren_no (by decide) ?_)
      rw [← HBB.out]
      exact HZ.out.2
    case pos =>
    have g1 : decide (v ≥ (n : Int)) = false := by simp; omega
    have g1' : decide ((n : Int) ≤ v) = false := by simp; omega
    obtain ⟨u, rfl⟩ := Int.eq_ofNat_of_zero_le (show 0 ≤ v by omega)
    have hun : u < n := by omega
    have g1n : decide (n ≤ u) = false := by simp; omega
    have cg := HST.out.1.cell (bv_get β hun)
    have fg := HST.out.1.free u
    have hu0 : (0 : Int) ≤ (u : Int) := by omega
    cases hbu : β u
    case true =>
      rw [hbu] at cg
      clear hv0
      go_wp2
      refine bodyPost_ret (v := .tuple #[.agg #[.int .i64 0, .slice none 0 0], .int .i64 3]) (by simp [results, Tryz.results22, go_sem, e0, e1]) rfl (ren_no (by decide) ?_)
      rw [← HBB.out]
      exact HZ.out.2
    case false =>
    rw [hbu] at cg
    have HN := Lib.hid (show RowIs (X.setCell ⟨g, u, none⟩ (.bool true)) g 4 (bv (updB β u true) n) ∧ SeenN n I (k + 1) (updB β u true) ∧ But X1.heap.size g X1 (X.setCell ⟨g, u, none⟩ (.bool true)) ∧ X1.heap.size ≤ (X.setCell ⟨g, u, none⟩ (.bool true)).heap.size from
      ⟨by have := HST.out.1.set u (.bool true); rw [bv_set] at this; exact this, HST.out.2.1.push hv.out hun hbu, HST.out.2.2.1.grown (grown_set X g u _) HST.out.2.2.2 (fun q hq => .inr (by cases hq; rfl)), Nat.le_trans HST.out.2.2.2 (grown_set X g u (.bool true)).size⟩)
    clear hv0 hbu e0 e1
    go_wp2
    go_roundw
    case rel => exact ⟨k + 1, _, by omega, by go_num, HN.out⟩
    case measure => simp [intOf]; omega
  case neg =>
    obtain rfl : k = m := by omega
    have hi2' := (HST.out.2.2.1.cell (k := B + 1) (i := 0) (by have := HGB.out; have := HGX.out; omega) (by have := HGB.out; omega)).trans hi2
    by_cases hnm : k = n
    case neg =>
      have g0 : ((k : Int) != (n : Int)) = true := by simp; omega
      clear hnm hsX hrX
      go_wp2
      refine bodyPost_ret (v := .tuple #[.agg #[.int .i64 0, .slice none 0 0], .int .i64 3]) (by simp [results, Tryz.results22, go_sem, e0, e1]) rfl (ren_no (by decide) ?_)
      rw [← HBB.out]
      exact HZ.out.2
    case pos =>
    subst hnm
    have HNM := Lib.hid (show Names k (toI I) from HST.out.2.1.names)
    have hTX := HT.out.mono (Nat.le_refl _) HBW.out
    have hIX := HI.out.mono (Nat.le_refl _) HBW.out
    have HC := Lib.hid (each_rename (B + 1) (rn (toI I)) k ao cap T X hTX HS.out.t1 (fun Y i hi hY => by
      obtain ⟨p0, p1⟩ := HS.out.vin i hi 0
      obtain ⟨q0, q1⟩ := HS.out.vin i hi 1
      obtain ⟨s0, s1⟩ := HS.out.vin i hi 2
      obtain ⟨⟨x, y, z⟩, hx⟩ : ∃ t, t = T! T i := ⟨_, rfl⟩
      rw [← hx] at p0 p1 q0 q1 s0 s1 ⊢
      simp only [tg] at p0 p1 q0 q1 s0 s1
      obtain ⟨x, rfl⟩ := Int.eq_ofNat_of_zero_le p0
      obtain ⟨y, rfl⟩ := Int.eq_ofNat_of_zero_le q0
      obtain ⟨z, rfl⟩ := Int.eq_ofNat_of_zero_le s0
      have hml := HML.out
      obtain ⟨b0, off, eb, hlt, hcc⟩ := hIX (by intro e; rw [e] at hml; simp at hml; omega)
      have hcb := (hY.cell (p := ⟨B + 1, 0, none⟩) (World.block_lt_of_cell? _ _ hi2')).trans hi2'
      rw [eb] at hcb
      exact (rename1 x y z (B + 1) b0 off k ic (I! I x) (I! I y) (I! I z) Y (by omega) (by omega) (by omega) hcb ((hY.cell (p := ⟨b0, off + x, none⟩) hlt).trans (hcc x (by omega))) ((hY.cell (p := ⟨b0, off + y, none⟩) hlt).trans (hcc y (by omega))) ((hY.cell (p := ⟨b0, off + z, none⟩) hlt).trans (hcc z (by omega))))))
    rw [← HTL.out] at HC
    have g0 : ((k : Int) != (k : Int)) = false := by simp
    have HBx := Lib.hid (show B + 3 ≤ X.heap.size from by have := HBW.out.size; have := HSZ.out; omega)
    clear hTX hIX hsX hrX e0 e1 d0 d1 f0 f1
    go_wp2_with fail
    refine HC.out.mono ?_
    rintro e w9 ⟨ao9, cap9, rfl, ho, hb9⟩
    have hr := HRX'.out.after hb9
    have d0 := hr.cell (i := 0) rfl
    have d1 := hr.cell (i := 1) rfl
    have f0 := hr.free 0
    have f1 := hr.free 1
    have HQ := Lib.hid (two_set hr (below_more HBw.out hb9 (by have := HBx.out; omega)) (show B ≤ B + 2 by omega) (.int .i64 (k : Int)) (.slice ao9 t cap9))
    have e0 := HQ.out.1.cell (i := 0) rfl
    have e1 := HQ.out.1.cell (i := 1) rfl
    have HTT := Lib.hid (show ((w9.setCell ⟨B + 2, 0, none⟩ (.int .i64 (k : Int))).setCell ⟨B + 2, 1, none⟩ (.slice ao9 t cap9)).ownsRow B 62 3 (.slice ao9 t cap9) t (tcells (rnT (toI I) T)) from by
      have h1 := ho.kept (grown_set w9 (B + 2) 0 (.int .i64 (k : Int))) (.inr fun e => by have := (ho.lt _ e).1; have := HBx.out; omega)
      have h2 := h1.kept (grown_set _ (B + 2) 1 (.slice ao9 t cap9)) (.inr fun e => by have := (ho.lt _ e).1; have := HBx.out; omega)
      exact owns_base h2 (by have := HBx.out; omega))
    clear hr hb9 ho x0 x1
    go_wp2
    refine bodyPost_ret (v := .tuple #[.agg #[.int .i64 (k : Int), .slice ao9 t cap9], .int .i64 0]) (by simp [results, Tryz.results22, go_sem, e0, e1]) rfl ⟨?_, .inr ⟨ao9, cap9, by rw [← HTL.out], by rw [← HBB.out, ← HTL.out]; exact HTT.out, HNM.out⟩⟩
    rw [← HBB.out]
    exact HQ.out.2
/-- What soup.Pick gives: no corners of the surface, or the triangles of the corners. -/
def PickPost (n : Nat) (T : List Tr) (I : List Int) (w : World) (e : Ending) (w' : World) : Prop :=
  Below w.heap.size w w' ∧ ((∃ r : Int, r ≠ 0 ∧ e = .returned (.tuple #[.agg #[.int .i64 0, .slice none 0 0], .int .i64 r])) ∨
    ∃ ao cap, e = .returned (.tuple #[.agg #[.int .i64 (n : Int), .slice ao I.length cap], .int .i64 0]) ∧ w'.ownsRow w.heap.size 62 3 (.slice ao I.length cap) I.length (tcells (pickT T (I.map Int.toNat))) ∧ ∀ c ∈ I.map Int.toNat, c < 3 * T.length)
theorem pick_no {n : Nat} {T : List Tr} {I : List Int} {w w' : World} {r : Int} (h : r ≠ 0) (hb : Below w.heap.size w w') : PickPost n T I w (.returned (.tuple #[.agg #[.int .i64 0, .slice none 0 0], .int .i64 r])) w' := ⟨hb, .inl ⟨r, h, rfl⟩⟩
theorem tri_cell {w : World} {g : Nat} {e : TypeId} {x y z : Int} (h : RowIs w g e [.int .i64 x, .int .i64 y, .int .i64 z]) {k : Nat} (hk : k < 3) : w.cell? ⟨g, k, none⟩ = some (.int .i64 (tg (x, y, z) k)) := by
  rcases (by omega : k = 0 ∨ k = 1 ∨ k = 2) with rfl | rfl | rfl
  · exact h.cell (i := 0) rfl
  · exact h.cell (i := 1) rfl
  · exact h.cell (i := 2) rfl
set_option maxRecDepth 100000 in
set_option maxHeartbeats 2500000 in
theorem pick_ok (n : Nat) (ao : Option Addr) (cap : Nat) (T : List Tr) (io : Option Addr) (ic : Nat) (I : List Int) (w : World) (hs : Surf n T) (hT : TrisAt w ao T) (hI : IntsAt w io I) (hIl : I.length ≤ 60) :
    Calls Tryz.prog 23 #[.agg #[.int .i64 (n : Int), .slice ao T.length cap], .slice io I.length ic] w (PickPost n T I w) := by
  obtain ⟨i4, hi4, hx0, hx1, hx2⟩ := info_parts info49
  obtain ⟨B, hB⟩ : ∃ B, B = w.heap.size := ⟨_, rfl⟩
  obtain ⟨t, ht⟩ : ∃ t, t = T.length := ⟨_, rfl⟩
  obtain ⟨m, hm⟩ : ∃ m, m = I.length := ⟨_, rfl⟩
  obtain ⟨W0, hW0⟩ : ∃ W0, W0 = (w.alloc (.cells #[.int .i64 (n : Int), .slice ao t cap] 24)).alloc (.cells #[.int .i64 0, .slice none 0 0] 24) := ⟨_, rfl⟩
  have hb0 : Below B w W0 := by rw [hW0, hB]; exact ((Below.refl _ _).alloc (Nat.le_refl _) _).alloc (by simp) _
  have hs0 : RowIs W0 B 24 [.int .i64 (n : Int), .slice ao t cap] := by rw [hW0, hB]; exact (RowIs.made w 24 [.int .i64 (n : Int), .slice ao t cap]).alloc _
  have hr0 : RowIs W0 (B + 1) 24 [.int .i64 0, .slice none 0 0] := by rw [hW0, hB]; exact row_two w _ 24 [.int .i64 0, .slice none 0 0]
  have HS0 := Lib.hid hs0
  have HR0 := Lib.hid hr0
  have HB0 := Lib.hid hb0
  have HBB := Lib.hid hB
  have HTL := Lib.hid ht
  have HML := Lib.hid hm
  have HS := Lib.hid hs
  have hn1 : n ≤ 4096 := by have := hs.n1; omega
  have ht1 : t ≤ 8192 := by have := hs.t1; omega
  have HT := Lib.hid (show TrisAt W0 ao T from hT.mono (by rw [hB]; exact Nat.le_refl _) hb0)
  have HI := Lib.hid (show IntsAt W0 io I from hI.mono (by rw [hB]; exact Nat.le_refl _) hb0)
  have HFI := Lib.hid (soupfits_yes n ao cap T W0 hs HT.out)
  have x0 := hs0.cell (i := 0) rfl
  have x1 := hs0.cell (i := 1) rfl
  rw [← ht] at HFI ⊢
  rw [← hm] at hIl ⊢
  have HSZ := Lib.hid (show B + 2 ≤ W0.heap.size from hr0.lt)
  clear hb0 hs0 hr0 hs hT hI ht hm
  go_enter Tryz.func23, Tryz.ntmps23
  go_upto_region 1 with fail
  rw [← hW0]
  rw [← hB]
  clear hW0 hB
  go_wp2_with fail
  refine HFI.out.mono ?_
  rintro e w1 ⟨rfl, hb1⟩
  obtain ⟨X1, hX1⟩ : ∃ X1, X1 = w1.alloc (.cells #[.int .i64 (n : Int), .slice none 0 0] 24) := ⟨_, rfl⟩
  obtain ⟨g, hg⟩ : ∃ g, g = w1.heap.size := ⟨_, rfl⟩
  have hb1' : Below w1.heap.size w1 X1 := by rw [hX1]; exact (Below.refl _ _).alloc (Nat.le_refl _) _
  have HBX := Lib.hid (show Below W0.heap.size W0 X1 from below_more hb1 hb1' hb1.size)
  have HSX := Lib.hid (HS0.out.after HBX.out)
  have HRX := Lib.hid (HR0.out.after HBX.out)
  have HXX := Lib.hid (show RowIs X1 g 24 [.int .i64 (n : Int), .slice none 0 0] from by rw [hX1, hg]; exact RowIs.made w1 24 [.int .i64 (n : Int), .slice none 0 0])
  have HGB := Lib.hid (show B + 2 ≤ g from by rw [hg]; exact Nat.le_trans HSZ.out hb1.size)
  have HBw := Lib.hid (show Below B w X1 from HB0.out.trans (HBX.out.mono (by have := HSZ.out; omega)))
  have HX1 := Lib.hid hX1
  have HG1 := Lib.hid hg
  have x0' := (HS0.out.after hb1).cell (i := 0) rfl
  have HG0 := Lib.hid (show W0.heap.size ≤ g from by rw [hg]; exact hb1.size)
  clear x0 x1 hb1 hb1' hX1 hg
  go_upto_region 4 with fail
  rw [← HX1.out]
  simp only [← HG1.out]
  clear x0'
  go_wp2
  go_loopw [22] (fun i ws => ∃ k : Nat, k ≤ m ∧ i = .int .i64 k ∧ Hid (ws = X1 ∧ ∀ q, q < k → ∃ c : Nat, I! I q = (c : Int) ∧ c < 3 * t)) (fun i _ => m - (intOf i).toNat)
  case atStart => exact ⟨0, by omega, rfl, ⟨rfl, fun q h => absurd h (by omega)⟩⟩
  case round =>
  obtain ⟨k, hk, rfl, HST⟩ := hrel
  obtain rfl : X1 = wr := HST.out.1.symm
  have d0 := HRX.out.cell (i := 0) rfl
  have d1 := HRX.out.cell (i := 1) rfl
  have f0 := HRX.out.free 0
  have f1 := HRX.out.free 1
  have x1 := HSX.out.cell (i := 1) rfl
  have HZ := Lib.hid (two_set HRX.out HBw.out (show B ≤ B + 1 by omega) (.int .i64 0) (.slice none 0 0))
  have e0 := HZ.out.1.cell (i := 0) rfl
  have e1 := HZ.out.1.cell (i := 1) rfl
  by_cases hkm : k < m
  case pos =>
    obtain ⟨b0, off, v, rfl, hv, hc, -, -⟩ := HI.out.get (Nat.le_refl _) HBX.out (i := k) (by rw [← HML.out]; exact hkm)
    have hk0 : (0 : Int) ≤ (k : Int) := by omega
    have hk1 : (k : Int) < (m : Int) := by omega
    by_cases hv0 : v < 0
    · have g0 : decide (v < 0) = true := by simp; omega
      clear hv0
      go_wp2
      refine bodyPost_ret (v := .tuple #[.agg #[.int .i64 0, .slice none 0 0], .int .i64 2]) (by simp [results, Tryz.results23, go_sem, e0, e1]) rfl (pick_no (by decide) ?_)
      rw [← HBB.out]
      exact HZ.out.2
    have g0 : decide (v < 0) = false := by simp; omega
    by_cases hvn : v < 3 * (t : Int)
    case neg =>
      have g1 : decide (v ≥ 3 * (t : Int)) = true := by simp; omega
      have g1' : decide (3 * (t : Int) ≤ v) = true := by simp; omega
      clear hv0 hvn
      go_wp2
      refine bodyPost_ret (v := .tuple #[.agg #[.int .i64 0, .slice none 0 0], .int .i64 2]) (by simp [results, Tryz.results23, go_sem, e0, e1]) rfl (pick_no (by decide) ?_)
      rw [← HBB.out]
      exact HZ.out.2
    case pos =>
    have g1 : decide (v ≥ 3 * (t : Int)) = false := by simp; omega
    have g1' : decide (3 * (t : Int) ≤ v) = false := by simp; omega
    have HN := Lib.hid (show ∀ q, q < k + 1 → ∃ c : Nat, I! I q = (c : Int) ∧ c < 3 * t from fun q hq => by
      rcases Nat.lt_succ_iff_lt_or_eq.1 hq with hq | rfl
      · exact HST.out.2 q hq
      · exact ⟨v.toNat, by rw [hv.out]; omega, by omega⟩)
    clear hv0 hvn e0 e1 hv
    go_wp2
    go_roundw
    case rel => exact ⟨k + 1, by omega, by go_num, ⟨by trivial, HN.out⟩⟩
    case measure => simp [intOf]; omega
  case neg =>
  obtain rfl : k = m := by omega
  have HC := Lib.hid HST.out.2
  have hgm : decide ((k : Int) > 8192) = false := by simp; omega
  have hgm' : decide ((8192 : Int) < (k : Int)) = false := by simp; omega
  have hgmn : decide (8192 < k) = false := by simp; omega
  clear HST hkm e0 e1 d0 d1 f0 f1
  go_wp2
  go_loopw [44] (fun i ws => ∃ (q : Nat) (v : Value), q ≤ k ∧ i = .int .i64 q ∧ Hid (RowIs ws g 24 [.int .i64 (n : Int), v] ∧ ws.ownsRow (g + 1) 62 3 v q (tcells (((I.take q).map Int.toNat).map (rotT T))) ∧ But X1.heap.size g X1 ws ∧ X1.heap.size ≤ ws.heap.size)) (fun i _ => k - (intOf i).toNat)
  case atStart => exact ⟨0, _, by omega, rfl, ⟨HXX.out, World.ownsRow_nil _ _ _ _, But.refl _ _ _, Nat.le_refl _⟩⟩
  case round =>
  clear HZ x1
  obtain ⟨q, v, hq, rfl, HST⟩ := hrel
  obtain ⟨X, rfl⟩ : ∃ X : World, X = wr := ⟨_, rfl⟩
  have HGX := Lib.hid (show g < X1.heap.size from HXX.out.lt)
  have HBW := Lib.hid (show Below W0.heap.size W0 X from HBX.out.trans (HST.out.2.2.1.below (B' := W0.heap.size) HBX.out.size HG0.out))
  have hsX := HST.out.2.2.1.row HSX.out HSX.out.lt (by have := HGB.out; omega)
  have hrX := HST.out.2.2.1.row HRX.out HRX.out.lt (by have := HGB.out; omega)
  have HRR := Lib.hid hrX
  have HBw2 := Lib.hid (show Below B w X from HB0.out.trans (HBW.out.mono (by have := HSZ.out; omega)))
  obtain ⟨ao5, cap5, rfl⟩ := owns_slice HST.out.2.1
  by_cases hqk : q < k
  case neg =>
    obtain rfl : q = k := by omega
    have y0 := HST.out.1.cell (i := 0) rfl
    have y1 := HST.out.1.cell (i := 1) rfl
    have d0 := hrX.cell (i := 0) rfl
    have d1 := hrX.cell (i := 1) rfl
    have f0 := hrX.free 0
    have f1 := hrX.free 1
    have HQ := Lib.hid (two_set hrX HBw2.out (show B ≤ B + 1 by omega) (.int .i64 (n : Int)) (.slice ao5 q cap5))
    have e0 := HQ.out.1.cell (i := 0) rfl
    have e1 := HQ.out.1.cell (i := 1) rfl
    have HTT := Lib.hid (show ((X.setCell ⟨B + 1, 0, none⟩ (.int .i64 (n : Int))).setCell ⟨B + 1, 1, none⟩ (.slice ao5 q cap5)).ownsRow B 62 3 (.slice ao5 q cap5) q (tcells (pickT T (I.map Int.toNat))) from by
      have ho := HST.out.2.1
      have h1 := ho.kept (grown_set X (B + 1) 0 (.int .i64 (n : Int))) (.inr fun e => by have := (ho.lt _ e).1; have := HGB.out; omega)
      have h2 := h1.kept (grown_set _ (B + 1) 1 (.slice ao5 q cap5)) (.inr fun e => by have := (ho.lt _ e).1; have := HGB.out; omega)
      rw [List.take_of_length_le (by have := HML.out; omega)] at h2
      exact owns_base h2 (by have := HGB.out; omega))
    have HCC := Lib.hid (show ∀ c ∈ I.map Int.toNat, c < 3 * T.length from fun c hc => by
      obtain ⟨x, hx, rfl⟩ := List.mem_map.1 hc
      obtain ⟨j, hj, rfl⟩ := List.getElem_of_mem hx
      obtain ⟨c, h1, h2⟩ := HC.out j (by rw [HML.out]; exact hj)
      have e : I[j] = I! I j := by simp [I!, hj]
      rw [e, h1, ← HTL.out]
      omega)
    clear hsX hrX
    go_wp2
    refine bodyPost_ret (v := .tuple #[.agg #[.int .i64 (n : Int), .slice ao5 q cap5], .int .i64 0]) (by simp [results, Tryz.results23, go_sem, e0, e1]) rfl ⟨?_, .inr ⟨ao5, cap5, by rw [← HML.out], by rw [← HBB.out, ← HML.out]; exact HTT.out, HCC.out⟩⟩
    rw [← HBB.out]
    exact HQ.out.2
  case pos =>
  obtain ⟨c, hcI, hcl⟩ := HC.out q hqk
  obtain ⟨b0, off, v, rfl, hv, hc, -, -⟩ := HI.out.get (Nat.le_refl _) HBW.out (i := q) (by rw [← HML.out]; exact hqk)
  obtain rfl : v = (c : Int) := hv.out.symm.trans hcI
  obtain ⟨c3, hc3⟩ : ∃ x, x = c / 3 := ⟨_, rfl⟩
  obtain ⟨k0, hk0⟩ : ∃ x, x = c % 3 := ⟨_, rfl⟩
  obtain ⟨k1, hk1⟩ : ∃ x, x = (c % 3 + 1) % 3 := ⟨_, rfl⟩
  obtain ⟨k2, hk2⟩ : ∃ x, x = (c % 3 + 2) % 3 := ⟨_, rfl⟩
  obtain ⟨tb, toff, x, y, z, rfl, htt, g0, g1, g2, -, -⟩ := HT.out.get (Nat.le_refl _) HBW.out (i := c3) (by rw [← HTL.out]; omega)
  have hba : Below X.heap.size X (X.alloc (.cells #[.int .i64 x, .int .i64 y, .int .i64 z] 62)) := (Below.refl _ _).alloc (Nat.le_refl _) _
  have hrt : RowIs (X.alloc (.cells #[.int .i64 x, .int .i64 y, .int .i64 z] 62)) X.heap.size 62 [.int .i64 x, .int .i64 y, .int .i64 z] := RowIs.made X 62 [.int .i64 x, .int .i64 y, .int .i64 z]
  obtain ⟨Y, hY⟩ : ∃ Y, Y = X.alloc (.cells #[.int .i64 x, .int .i64 y, .int .i64 z] 62) := ⟨_, rfl⟩
  obtain ⟨tq, htq⟩ : ∃ t, t = X.heap.size := ⟨_, rfl⟩
  rw [← hY] at hba hrt
  rw [← htq] at hrt
  have HXY := Lib.hid (HST.out.1.after hba)
  have HOY := Lib.hid (owns_below HST.out.2.1 hba)
  have HUY := Lib.hid (show But X1.heap.size g X1 Y ∧ X1.heap.size ≤ Y.heap.size from ⟨HST.out.2.2.1.more hba HST.out.2.2.2, Nat.le_trans HST.out.2.2.2 hba.size⟩)
  have HSY := Lib.hid (show g + 1 ≤ Y.heap.size from HXY.out.lt)
  have HTK := Lib.hid (show ((I.take (q + 1)).map Int.toNat).map (rotT T) = ((I.take q).map Int.toNat).map (rotT T) ++ [(tg (x, y, z) k0, tg (x, y, z) k1, tg (x, y, z) k2)] from by
    have hq' : q < I.length := by have := HML.out; omega
    have ev : I[q] = (c : Int) := by have := hcI; simp [I!, hq'] at this; exact this
    rw [List.take_add_one, List.getElem?_eq_getElem hq', List.map_append, List.map_append, ev]
    congr 1
    have t0 : ∀ j, j < 3 → vt T (turn c j : Nat) = tg (x, y, z) ((c % 3 + j) % 3) := fun j hj => by
      unfold vt
      rw [Int.toNat_natCast, turn_div, ← hc3, htt.out]
      unfold turn
      congr 1
      omega
    simp only [Option.toList_some, List.map_cons, List.map_nil, Int.toNat_natCast, rotT]
    rw [t0 0 (by omega), t0 1 (by omega), t0 2 (by omega), hk0, hk1, hk2]
    simp)
  have y0 := HXY.out.cell (i := 0) rfl
  have y1 := HXY.out.cell (i := 1) rfl
  have t0 := tri_cell hrt (show k0 < 3 by omega)
  have t1 := tri_cell hrt (show k1 < 3 by omega)
  have t2 := tri_cell hrt (show k2 < 3 by omega)
  have q3 : (c : Int) / 3 = (c3 : Int) := by omega
  have q3' : (c : Int).tdiv 3 = (c3 : Int) := by rw [Int.tdiv_eq_ediv_of_nonneg (by omega)]; exact q3
  have m3 : (c : Int) % 3 = (k0 : Int) := by omega
  have m3' : (c : Int).tmod 3 = (k0 : Int) := by rw [Int.tmod_eq_emod_of_nonneg (by omega)]; exact m3
  have m4 : ((k0 : Int) + 1) % 3 = (k1 : Int) := by omega
  have m4' : ((k0 : Int) + 1).tmod 3 = (k1 : Int) := by rw [Int.tmod_eq_emod_of_nonneg (by omega)]; exact m4
  have m5 : ((k0 : Int) + 2) % 3 = (k2 : Int) := by omega
  have m5' : ((k0 : Int) + 2).tmod 3 = (k2 : Int) := by rw [Int.tmod_eq_emod_of_nonneg (by omega)]; exact m5
  have wr1 : IntKind.i64.wrap ((k0 : Int) + 1) = (k0 : Int) + 1 := by simp [IntKind.wrap, IntKind.bits, IntKind.signed]; omega
  have wr2 : IntKind.i64.wrap ((k0 : Int) + 2) = (k0 : Int) + 2 := by simp [IntKind.wrap, IntKind.bits, IntKind.signed]; omega
  have n3 : c / 3 = c3 := hc3.symm
  have n4 : c % 3 = k0 := hk0.symm
  have n5 : (k0 + 1) % 3 = k1 := by omega
  have n6 : (k0 + 2) % 3 = k2 := by omega
  have l0 : k0 < 3 := by omega
  have l1 : k1 < 3 := by omega
  have l2 : k2 < 3 := by omega
  have l3 : c3 < t := by omega
  have hi0 : (k0 : Int) < 3 := by omega
  have hi1 : (k1 : Int) < 3 := by omega
  have hi2 : (k2 : Int) < 3 := by omega
  have hi3 : (c3 : Int) < (t : Int) := by omega
  have x1 := hsX.cell (i := 1) rfl
  have HYY := Lib.hid hY
  have HQQ := Lib.hid htq
  have HST' := Lib.hid (show B + 2 ≤ g from HGB.out)
  generalize tg (x, y, z) k0 = v0 at t0 HTK
  generalize tg (x, y, z) k1 = v1 at t1 HTK
  generalize tg (x, y, z) k2 = v2 at t2 HTK
  have hqI0 : (0 : Int) ≤ (q : Int) := by omega
  have hqI1 : (q : Int) < (k : Int) := by omega
  clear hc3 hk0 hk1 hk2 hrt hY htq hba hsX hrX hv hcI hcl htt
  go_upto_region 16 with fail
  rw [← HYY.out]
  simp only [← HQQ.out]
  clear g0 g1 g2 hc x1 q3 q3' m3 m3' n3 n4 l3 hi3
  have y1a := (HXY.out.alloc (.cells #[.int .i64 v0, .int .i64 v1, .int .i64 v2] 62)).cell (i := 1) rfl
  go_region_law (refine step_append_any (by rfl) _ _ _ (by rfl) (g + 1) 62 i4 _ 3 24 (by kernel_rfl) hi4 hx0 hx1 hx2 rfl (by decide) _ q _ (by rfl) (by first | exact HOY.out.alloc _ | exact World.ownsRow.drew (HOY.out.alloc _)) ⟨Y.heap.size, 0, none⟩ 1 1 [.int .i64 v0, .int .i64 v1, .int .i64 v2] (by rfl) rfl (World.news_of_block (heap_alloc_new Y _)) (by intro u hu; simp at hu; rcases hu with rfl | rfl | rfl <;> rfl) (by unfold maxLen; omega) (by omega) (by have := HSY.out; simp; omega) ?_; intro a1 c1 w5 hown5 hbel5 hgr5; have hrow5 := Lib.hid (box_kept hgr5 (HOY.out.alloc _) (HXY.out.alloc _) (by decide)); have y1c := hrow5.out.cell (i := 1) rfl; have kf := hrow5.out.free 1)
  all_goals
    have HX6 := Lib.hid (hrow5.out.set 1 (.slice a1 (q + 1) c1))
    have HO6 := Lib.hid (show (w5.setCell ⟨g, 1, none⟩ (.slice a1 (q + 1) c1)).ownsRow (g + 1) 62 3 (.slice a1 (q + 1) c1) (q + 1) (tcells (((I.take (q + 1)).map Int.toNat).map (rotT T))) from by
      rw [HTK.out, tcells_snoc]
      exact ownsRow_setCell_below hown5 (a := ⟨g, 1, none⟩) (Nat.lt_succ_self _) _)
    have HU6 := Lib.hid (show But X1.heap.size g X1 (w5.setCell ⟨g, 1, none⟩ (.slice a1 (q + 1) c1)) ∧ X1.heap.size ≤ (w5.setCell ⟨g, 1, none⟩ (.slice a1 (q + 1) c1)).heap.size from by
      have h1 := hbel5 (g + 1) Y (Nat.le_refl _) (by first | exact (Below.refl _ _).alloc HSY.out _ | exact ((Below.refl _ _).alloc HSY.out _).trans ⟨rfl, rfl, rfl, Nat.le_refl _, fun _ _ => rfl⟩)
      have h2 : But X1.heap.size g X1 w5 := HUY.out.1.more h1 (by rw [HX1.out, HG1.out]; simp)
      exact ⟨h2.grown (grown_set w5 g 1 _) (Nat.le_trans HUY.out.2 h1.size) (fun p hp => .inr (by cases hp; rfl)), Nat.le_trans (Nat.le_trans HUY.out.2 h1.size) (grown_set w5 g 1 (.slice a1 (q + 1) c1)).size⟩)
    clear hown5 hbel5 hgr5 y0 y1 y1a y1c kf t0 t1 t2
    go_wp2
    go_roundw
    case rel => exact ⟨q + 1, _, by omega, by go_num, ⟨HX6.out, HO6.out, HU6.out.1, HU6.out.2⟩⟩
    case measure => simp [intOf]; omega
end Go.Proofs.YtbeefabboabfgaaGreat

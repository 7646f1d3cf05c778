/- Of no table: shell.Of, Count, border.Loops, genus.Of, Whole. -/
import Derived.Test.YtbeefabboabfgaaGenusWhole
namespace Go.Proofs.Ytbeefabboabfgaa
set_option linter.unusedVariables false
set_option linter.unusedSimpArgs false
open Go.RowKit
set_option maxRecDepth 100000 in
set_option maxHeartbeats 1000000 in
theorem of_nil (w : World) : Calls Try.prog 15 #[.pointer none] w fun e w' => ∃ g, e = .returned (.slice (some ⟨g, 0, none⟩) 0 0) ∧ Below w.heap.size w w' := by
  obtain ⟨i0, hi, hz0, hz1, hz2⟩ := info_parts info3
  go_enter Try.func15, Try.ntmps15
  go_wp2_with fail
  refine (triangles_nil _).mono ?_
  rintro e w1 ⟨rfl, rfl⟩
  go_wp2_with (at_make; refine wpList_make_full _ rfl _ _ _ rfl w.heap.size 3 i0 (.int .i64 0) 1 (by kernel_rfl) hi hz0 hz1 _ _ _ _ 0 rfl rfl rfl rfl (by rw [hz2]; omega) (by unfold maxLen; omega) (Nat.le_refl _) ?_)
  intro w1 hown hgrow
  have HB1 := Lib.hid (show Below w.heap.size w w1 from (Below.refl _ _).grown hgrow (Nat.le_refl _) (by simp))
  clear hown hgrow hi hz0 hz1 hz2
  go_wp2
  go_loopw [16, 4] (fun i _ ws => i = .int .i64 0 ∧ ws = w1) (fun _ _ _ => 0)
  case atStart => exact ⟨rfl, rfl⟩
  case round =>
    obtain ⟨rfl, rfl⟩ := hrel
    obtain ⟨w1, rfl⟩ : ∃ w1 : World, w1 = wr := ⟨_, rfl⟩
    go_wp2
    go_loopw [25, 5] (fun i _ ws => i = .int .i64 0 ∧ ws = w1) (fun _ _ _ => 0)
    case atStart => exact ⟨rfl, rfl⟩
    case round =>
      obtain ⟨rfl, rfl⟩ := hrel
      go_wp2
      exact bodyPost_ret (v := .slice (some ⟨w.heap.size, 0, none⟩) 0 0) (by simp [results, Try.results15, go_sem]) rfl ⟨_, rfl, HB1.out⟩
set_option maxRecDepth 100000 in
set_option maxHeartbeats 1000000 in
theorem count_nil (w : World) : Calls Try.prog 16 #[.pointer none] w fun e w' => e = .returned (.int .i64 0) ∧ Below w.heap.size w w' := by
  go_enter Try.func16, Try.ntmps16
  go_wp2_with fail
  refine (of_nil _).mono ?_
  rintro e w1 ⟨g, rfl, hb⟩
  have HB1 := Lib.hid hb
  clear hb
  go_wp2
  go_loopw [9, 3] (fun i v ws => i = .int .i64 0 ∧ v = .int .i64 0 ∧ ws = w1) (fun _ _ _ => 0)
  case atStart => exact ⟨rfl, rfl, rfl⟩
  case round =>
    obtain ⟨rfl, rfl, rfl⟩ := hrel
    go_wp2
    exact bodyPost_ret (v := .int .i64 0) (by simp [results, Try.results16, go_sem]) rfl ⟨rfl, HB1.out⟩
set_option maxHeartbeats 400000 in
theorem vertices_nil (w : World) : Calls Try.prog 20 #[.pointer none] w fun e w' => e = .returned (.int .i64 0) ∧ w = w' := by
  go_enter Try.func20, Try.ntmps20
  go_wp2
  go_ret
  exact ⟨rfl, rfl⟩
set_option maxHeartbeats 400000 in
theorem loops_nil (w : World) : Calls Try.prog 21 #[.pointer none] w fun e w' => e = .returned (.slice none 0 0) ∧ w = w' := by
  go_enter Try.func21, Try.ntmps21
  go_wp2
  go_ret
  exact ⟨rfl, rfl⟩
set_option maxRecDepth 100000 in
set_option maxHeartbeats 2000000 in
theorem genus_nil (w : World) : Calls Try.prog 8 #[.pointer none] w fun e w' => ∃ g, e = .returned (.slice (some ⟨g, 0, none⟩) 0 0) ∧ w.heap.size ≤ g ∧ g < w'.heap.size ∧ Below w.heap.size w w' := by
  obtain ⟨i0, hi, hz0, hz1, hz2⟩ := info_parts info3
  obtain ⟨j0, hj, hy0, hy1, hy2⟩ := info_parts infoNum
  obtain ⟨W0, hW0⟩ : ∃ W0, W0 = w.alloc (.cells #[.pointer none] 26) := ⟨_, rfl⟩
  have hb0 : Below w.heap.size w W0 := by rw [hW0]; exact (Below.refl _ _).alloc (Nat.le_refl _) _
  have hr0 : RowIs W0 w.heap.size 26 [.pointer none] := by rw [hW0]; exact RowIs.made w 26 [.pointer none]
  have HB0 := Lib.hid hb0
  have HR0 := Lib.hid hr0
  have HW0 := Lib.hid hW0
  obtain ⟨xb, hxb⟩ : ∃ x, x = w.heap.size := ⟨_, rfl⟩
  rw [← hxb] at HR0
  have HXB := Lib.hid hxb
  clear hb0 hr0 hW0 hxb
  go_enter Try.func8, Try.ntmps8
  go_upto_region 1 with fail
  rw [← HW0.out, ← HXB.out]
  have c0 := HR0.out.cell (i := 0) rfl
  go_wp2_with fail
  refine (of_nil _).mono ?_
  rintro e w1 ⟨gl, rfl, hb1⟩
  obtain ⟨W1, hW1⟩ : ∃ W1, W1 = w1.alloc (.cells #[.slice (some ⟨gl, 0, none⟩) 0 0] 44) := ⟨_, rfl⟩
  have hb11 : Below w1.heap.size w1 W1 := by rw [hW1]; exact (Below.refl _ _).alloc (Nat.le_refl _) _
  obtain ⟨b3, hb3⟩ : ∃ x, x = w1.heap.size := ⟨_, rfl⟩
  have HR3 := Lib.hid (show RowIs W1 b3 44 [.slice (some ⟨gl, 0, none⟩) 0 0] from by rw [hW1, hb3]; exact RowIs.made w1 44 [.slice (some ⟨gl, 0, none⟩) 0 0])
  have HB01 := Lib.hid (below_more hb1 hb11 hb1.size)
  have HR01 := Lib.hid (HR0.out.after HB01.out)
  have HBW1 := Lib.hid (below_more HB0.out HB01.out HB0.out.size)
  have HW1 := Lib.hid hW1
  have HB3 := Lib.hid hb3
  have c1 := HR01.out.cell (i := 0) rfl
  clear hW1 hb11 hb3 hb1 c0
  go_upto_region 2 with fail
  rw [← HW1.out, ← HB3.out]
  go_wp2_with fail
  refine (count_nil _).mono ?_
  rintro e w2 ⟨rfl, hb2⟩
  have HB12 := Lib.hid hb2
  clear c1 hb2
  go_wp2_with (at_make; refine wpList_make_full _ rfl _ _ _ rfl w2.heap.size 35 j0 (.agg #[.int .i64 0, .int .i64 0, .int .i64 0, .int .i64 0, .int .i64 0, .int .i64 0]) 6 (by kernel_rfl) hj hy0 hy1 _ _ _ _ 0 rfl rfl rfl rfl (by rw [hy2]; omega) (by unfold maxLen; omega) (Nat.le_refl _) ?_)
  intro w3 hown hgr
  have hb23 : Below w2.heap.size w2 w3 := (Below.refl _ _).grown hgr (Nat.le_refl _) (by simp)
  have hlt3 : w2.heap.size < w3.heap.size := (RowIs.of_owns hown).lt
  obtain ⟨go, hgo⟩ : ∃ g, g = w2.heap.size := ⟨_, rfl⟩
  rw [← hgo] at hlt3 ⊢
  have HB23 := Lib.hid hb23
  have HGO := Lib.hid hgo
  clear hown hgr hb23 hgo
  go_upto_region 3 with fail
  go_wp2_with (at_make; refine wpList_make_full _ rfl _ _ _ rfl w3.heap.size 3 i0 (.int .i64 0) 1 (by kernel_rfl) hi hz0 hz1 _ _ _ _ 0 rfl rfl rfl rfl (by rw [hz2]; omega) (by unfold maxLen; omega) (by simp) ?_)
  intro W4 hown hgr
  have hb34 : Below w3.heap.size w3 W4 := (Below.refl _ _).grown hgr (Nat.le_refl _) (by simp)
  have hb14 : Below W1.heap.size W1 W4 := below_more HB12.out (below_more HB23.out hb34 (by have := HB23.out.size; omega)) HB12.out.size
  have q1 := (HR01.out.after hb14).cell (i := 0) rfl
  have q3 := (HR3.out.after hb14).cell (i := 0) rfl
  have HF := Lib.hid (below_more HBW1.out hb14 HBW1.out.size)
  have hlt4 : go < W4.heap.size := by have := hb34.size; omega
  have hgow : w.heap.size ≤ go := by rw [HGO.out]; have := HBW1.out.size; have := HB12.out.size; omega
  obtain ⟨gt, hgt⟩ : ∃ g, g = w3.heap.size := ⟨_, rfl⟩
  rw [← hgt]
  have HGW := Lib.hid hgow
  have HL4 := Lib.hid hlt4
  clear hown hgr hb34 hb14 hgt hlt3 hlt4 hgow HB01 HB12 HB23
  go_upto_region 6 with fail
  go_loopw [25] (fun i ws => i = .int .i64 0 ∧ ws = W4) (fun i _ => 0)
  case atStart => exact ⟨rfl, rfl⟩
  case round =>
  obtain ⟨rfl, hws⟩ := hrel
  rw [hws]
  clear hws
  go_wp2_with fail
  refine (vertices_nil _).mono ?_
  rintro e w5 ⟨rfl, hw5⟩
  rw [← hw5]
  clear hw5
  go_wp2
  go_loopw [66] (fun i ws => i = .int .i64 0 ∧ ws = W4) (fun i _ => 0)
  case atStart => exact ⟨rfl, rfl⟩
  case round =>
  obtain ⟨rfl, hws⟩ := hrel
  rw [hws]
  clear hws
  go_wp2_with fail
  refine (loops_nil _).mono ?_
  rintro e w5 ⟨rfl, hw5⟩
  rw [← hw5]
  clear hw5
  go_wp2
  go_loopw [83] (fun i ws => i = .int .i64 0 ∧ ws = W4) (fun i _ => 0)
  case atStart => exact ⟨rfl, rfl⟩
  case round =>
  obtain ⟨rfl, hws⟩ := hrel
  rw [hws]
  clear hws
  go_wp2
  go_loopw [102] (fun i ws => i = .int .i64 0 ∧ ws = W4) (fun i _ => 0)
  case atStart => exact ⟨rfl, rfl⟩
  case round =>
  obtain ⟨rfl, hws⟩ := hrel
  rw [hws]
  clear hws
  go_wp2
  go_ret
  exact ⟨go, rfl, HGW.out, HL4.out, HF.out⟩
set_option maxRecDepth 100000 in
set_option maxHeartbeats 2000000 in
theorem whole_nil (w : World) : Calls Try.prog 10 #[.pointer none] w fun e w' => e = .returned (.agg #[.int .i64 0, .int .i64 0, .int .i64 0, .int .i64 0, .int .i64 0, .int .i64 0]) ∧ Below w.heap.size w w' := by
  obtain ⟨W0, hW0⟩ : ∃ W0, W0 = (w.alloc (.cells #[.int .i64 0, .int .i64 0, .int .i64 0, .int .i64 0, .int .i64 0, .int .i64 0] 35)).alloc (.cells #[.int .i64 0, .int .i64 0, .int .i64 0, .int .i64 0, .int .i64 0, .int .i64 0] 35) := ⟨_, rfl⟩
  have hb0 : Below w.heap.size w W0 := by rw [hW0]; exact ((Below.refl _ _).alloc (Nat.le_refl _) _).alloc (by simp) _
  have hr0 : RowIs W0 w.heap.size 35 (iv (fun _ => 0) 6) := by rw [hW0]; exact (RowIs.made w 35 (iv (fun _ => 0) 6)).alloc _
  have hr1 : RowIs W0 (w.heap.size + 1) 35 (iv (fun _ => 0) 6) := by rw [hW0]; exact RowIs.made' _ _ (iv (fun _ => 0) 6) _ (by simp)
  have HG := Lib.hid (genus_nil W0)
  have HB0 := Lib.hid hb0
  have HR0 := Lib.hid hr0
  have HR1 := Lib.hid hr1
  have HW0 := Lib.hid hW0
  obtain ⟨xb, hxb⟩ : ∃ x, x = w.heap.size := ⟨_, rfl⟩
  rw [← hxb] at HR0 HR1
  have HXB := Lib.hid hxb
  clear hb0 hr0 hr1 hW0 hxb
  go_enter Try.func10, Try.ntmps10
  go_upto_region 2 with fail
  simp only [← HXB.out]
  rw [← HW0.out]
  go_wp2_with fail
  refine HG.out.mono ?_
  rintro e X ⟨go, rfl, hgo, hlt, hb1⟩
  have hr0 := HR0.out.after hb1
  have hr1 := HR1.out.after hb1
  have HB1 := Lib.hid (below_more HB0.out hb1 HB0.out.size)
  clear hgo hlt hb1 HG
  go_wp2
  go_loopw [9] (fun i ws => i = .int .i64 0 ∧ ws = X) (fun i _ => 0)
  case atStart => exact ⟨rfl, rfl⟩
  case round =>
  obtain ⟨rfl, hws⟩ := hrel
  rw [hws]
  clear hws
  have p0 := hr1.cell (iv_get (fun _ => 0) (show 0 < 6 by omega))
  have z0 := hr0.cell (iv_get (fun _ => 0) (show 0 < 6 by omega))
  have p1 := hr1.cell (iv_get (fun _ => 0) (show 1 < 6 by omega))
  have z1 := hr0.cell (iv_get (fun _ => 0) (show 1 < 6 by omega))
  have p2 := hr1.cell (iv_get (fun _ => 0) (show 2 < 6 by omega))
  have z2 := hr0.cell (iv_get (fun _ => 0) (show 2 < 6 by omega))
  have p3 := hr1.cell (iv_get (fun _ => 0) (show 3 < 6 by omega))
  have z3 := hr0.cell (iv_get (fun _ => 0) (show 3 < 6 by omega))
  have p4 := hr1.cell (iv_get (fun _ => 0) (show 4 < 6 by omega))
  have z4 := hr0.cell (iv_get (fun _ => 0) (show 4 < 6 by omega))
  have p5 := hr1.cell (iv_get (fun _ => 0) (show 5 < 6 by omega))
  have z5 := hr0.cell (iv_get (fun _ => 0) (show 5 < 6 by omega))
  have zf := fun i => hr0.free i
  have hrF := ((((((hr0.set 0 (.int .i64 0)).set 1 (.int .i64 0)).set 2 (.int .i64 0)).set 3 (.int .i64 0)).set 4 (.int .i64 0)).set 5 (.int .i64 0))
  rw [iv_set, iv_set, iv_set, iv_set, iv_set, iv_set] at hrF
  have y0 := hrF.cell (iv_get _ (show 0 < 6 by omega))
  rw [show upd (upd (upd (upd (upd (upd (fun _ => 0) 0 0) 1 0) 2 0) 3 0) 4 0) 5 0 0 = 0 from by simp [upd]] at y0
  have y1 := hrF.cell (iv_get _ (show 1 < 6 by omega))
  rw [show upd (upd (upd (upd (upd (upd (fun _ => 0) 0 0) 1 0) 2 0) 3 0) 4 0) 5 0 1 = 0 from by simp [upd]] at y1
  have y2 := hrF.cell (iv_get _ (show 2 < 6 by omega))
  rw [show upd (upd (upd (upd (upd (upd (fun _ => 0) 0 0) 1 0) 2 0) 3 0) 4 0) 5 0 2 = 0 from by simp [upd]] at y2
  have y3 := hrF.cell (iv_get _ (show 3 < 6 by omega))
  rw [show upd (upd (upd (upd (upd (upd (fun _ => 0) 0 0) 1 0) 2 0) 3 0) 4 0) 5 0 3 = 0 from by simp [upd]] at y3
  have y4 := hrF.cell (iv_get _ (show 4 < 6 by omega))
  rw [show upd (upd (upd (upd (upd (upd (fun _ => 0) 0 0) 1 0) 2 0) 3 0) 4 0) 5 0 4 = 0 from by simp [upd]] at y4
  have y5 := hrF.cell (iv_get _ (show 5 < 6 by omega))
  rw [show upd (upd (upd (upd (upd (upd (fun _ => 0) 0 0) 1 0) 2 0) 3 0) 4 0) 5 0 5 = 0 from by simp [upd]] at y5
  have HBF := Lib.hid (show Below w.heap.size w ((((((X.setCell ⟨xb, 0, none⟩ (.int .i64 0)).setCell ⟨xb, 1, none⟩ (.int .i64 0)).setCell ⟨xb, 2, none⟩ (.int .i64 0)).setCell ⟨xb, 3, none⟩ (.int .i64 0)).setCell ⟨xb, 4, none⟩ (.int .i64 0)).setCell ⟨xb, 5, none⟩ (.int .i64 0)) from by
    have hbw := HB1.out
    rw [HXB.out]
    exact (((((hbw.setCell (p := ⟨w.heap.size, 0, none⟩) (Nat.le_refl _) _).setCell (p := ⟨w.heap.size, 1, none⟩) (Nat.le_refl _) _).setCell (p := ⟨w.heap.size, 2, none⟩) (Nat.le_refl _) _).setCell (p := ⟨w.heap.size, 3, none⟩) (Nat.le_refl _) _).setCell (p := ⟨w.heap.size, 4, none⟩) (Nat.le_refl _) _).setCell (p := ⟨w.heap.size, 5, none⟩) (Nat.le_refl _) _)
  clear hr0 hr1 hrF
  go_wp2
  exact bodyPost_ret (v := .agg #[.int .i64 0, .int .i64 0, .int .i64 0, .int .i64 0, .int .i64 0, .int .i64 0]) (by simp [results, Try.results10, go_sem, y0, y1, y2, y3, y4, y5]) rfl ⟨rfl, HBF.out⟩
end Go.Proofs.Ytbeefabboabfgaa

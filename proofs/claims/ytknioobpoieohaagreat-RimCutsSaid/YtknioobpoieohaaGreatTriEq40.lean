/- Equality of triangles, of points. gypsumref15.Same of two equal soups. gypsumref40.SameBody of two equal bodies. gypsumlaw40.same of two equal locals. gypsumlaw40.plain: the same local, by the other name. gypsumref40.Body: the numbers of points and of keys fit. -/
import Derived.Test.YtknioobpoieohaaGreatBaySurf
import Derived.ChangeKeysEq
import Derived.Laws.StructEq
import Derived.Test.YtknioobpoieohaaGreatIntsDef
namespace Go.Proofs.YtknioobpoieohaaGreat
set_option linter.unusedVariables false
set_option linter.unusedSimpArgs false
open Go.RowKit
theorem part_tri40 (a b c : Value) (w : World) : (part 3 #[a, b, c] 0).run Tryz.prog w = .ok a w ∧ (part 3 #[a, b, c] 1).run Tryz.prog w = .ok b w ∧ (part 3 #[a, b, c] 2).run Tryz.prog w = .ok c w := ⟨by kernel_rfl, by kernel_rfl, by kernel_rfl⟩
theorem tri_equal40 (x y z x' y' z' : Int) (w : World) :
    (Op.equalIn 10000 65 (.agg #[.int .i64 x, .int .i64 y, .int .i64 z]) (.agg #[.int .i64 x', .int .i64 y', .int .i64 z'])).run Tryz.prog w = .ok (x == x' && (y == y' && z == z')) w := by
  obtain ⟨i0, hi, -⟩ := info_parts info3
  have hc : Tryz.prog.cellsOf 3 = 1 := by kernel_rfl
  have hu : Tryz.prog.underlying 3 = some (.int .i64) := by kernel_rfl
  rw [run_equalIn_array (P := Tryz.prog) w 9999 (t := 65) (e := 3) (n := 3) (i := i0) _ _ (by kernel_rfl) hi, hc]
  simp only [List.range_succ, List.range_zero, List.nil_append, List.cons_append, Op.eqItems, Sem.run_bind, Nat.mul_one, (part_tri40 _ _ _ _).1, (part_tri40 _ _ _ _).2.1, (part_tri40 _ _ _ _).2.2, Result.andThen_ok, run_equalIn_int (P := Tryz.prog) _ _ _ _ _ _ _ hu]
  by_cases h1 : x = x' <;> by_cases h2 : y = y' <;> by_cases h3 : z = z' <;> simp [h1, h2, h3, (part_tri40 _ _ _ _).2.1, (part_tri40 _ _ _ _).2.2, run_equalIn_int (P := Tryz.prog) _ _ _ _ _ _ _ hu]
theorem pt_equal40 (x y z x' y' z' : Int) (w : World) :
    (Op.equalIn 10000 80 (.agg #[.int .i64 x, .int .i64 y, .int .i64 z]) (.agg #[.int .i64 x', .int .i64 y', .int .i64 z'])).run Tryz.prog w = .ok (x == x' && (y == y' && z == z')) w := by
  obtain ⟨i0, hi, -⟩ := info_parts info3
  have hc : Tryz.prog.cellsOf 3 = 1 := by kernel_rfl
  have hu : Tryz.prog.underlying 3 = some (.int .i64) := by kernel_rfl
  rw [run_equalIn_array (P := Tryz.prog) w 9999 (t := 80) (e := 3) (n := 3) (i := i0) _ _ (by kernel_rfl) hi, hc]
  simp only [List.range_succ, List.range_zero, List.nil_append, List.cons_append, Op.eqItems, Sem.run_bind, Nat.mul_one, (part_tri40 _ _ _ _).1, (part_tri40 _ _ _ _).2.1, (part_tri40 _ _ _ _).2.2, Result.andThen_ok, run_equalIn_int (P := Tryz.prog) _ _ _ _ _ _ _ hu]
  by_cases h1 : x = x' <;> by_cases h2 : y = y' <;> by_cases h3 : z = z' <;> simp [h1, h2, h3, (part_tri40 _ _ _ _).2.1, (part_tri40 _ _ _ _).2.2, run_equalIn_int (P := Tryz.prog) _ _ _ _ _ _ _ hu]
set_option maxRecDepth 100000 in
set_option maxHeartbeats 1000000 in
theorem same15 (N : Int) (ao bo : Option Addr) (cap cap' : Nat) (T : List Tr) (w : World) (hl : T.length ≤ 100000) (hT : TrisAt w ao T) (hU : TrisAt w bo T) :
    Calls Tryz.prog 72 #[.agg #[.int .i64 N, .slice ao T.length cap], .agg #[.int .i64 N, .slice bo T.length cap']] w fun e w' => e = .returned (.bool true) ∧ Below w.heap.size w w' := by
  obtain ⟨len, hlen⟩ : ∃ n, n = T.length := ⟨_, rfl⟩
  rw [← hlen] at hl ⊢
  obtain ⟨W0, hW0⟩ : ∃ W0, W0 = (w.alloc (.cells #[.int .i64 N, .slice ao len cap] 24)).alloc (.cells #[.int .i64 N, .slice bo len cap'] 24) := ⟨_, rfl⟩
  have hb0 : Below w.heap.size w W0 := by rw [hW0]; exact ((Below.refl _ _).alloc (Nat.le_refl _) _).alloc (by simp) _
  have hr0 : RowIs W0 w.heap.size 24 [.int .i64 N, .slice ao len cap] := by rw [hW0]; exact (RowIs.made w 24 [.int .i64 N, .slice ao len cap]).alloc _
  have hr1 : RowIs W0 (w.heap.size + 1) 24 [.int .i64 N, .slice bo len cap'] := by rw [hW0]; exact RowIs.made' (w.alloc (.cells #[.int .i64 N, .slice ao len cap] 24)) 24 [.int .i64 N, .slice bo len cap'] (w.heap.size + 1) (by simp)
  have HT := Lib.hid (hT.mono (Nat.le_refl _) hb0)
  have HU := Lib.hid (hU.mono (Nat.le_refl _) hb0)
  have HL := Lib.hid hlen
  have HB0 := Lib.hid hb0
  have HR0 := Lib.hid hr0
  have HR1 := Lib.hid hr1
  have HW0 := Lib.hid hW0
  clear hT hU hb0 hr0 hr1 hW0 hlen
  go_enter Tryz.func72, Tryz.ntmps72
  go_upto_region 1 with fail
  rw [← HW0.out]
  have c0 := HR0.out.cell (i := 0) rfl
  have c1 := HR0.out.cell (i := 1) rfl
  have e0 := HR1.out.cell (i := 0) rfl
  have e1 := HR1.out.cell (i := 1) rfl
  go_wp2
  clear c0 c1 e0 e1
  go_loopw [5] (fun i ws => ∃ k : Nat, k ≤ len ∧ i = .int .i64 k ∧ Below W0.heap.size W0 ws) (fun i _ => len - (intOf i).toNat)
  case atStart => exact ⟨0, by omega, rfl, Below.refl _ _⟩
  case round =>
  obtain ⟨k, hk, rfl, hb⟩ := hrel
  obtain ⟨X, rfl⟩ : ∃ X : World, X = wr := ⟨_, rfl⟩
  have HB := Lib.hid hb
  have hbox := HR0.out.after hb
  have hbox1 := HR1.out.after hb
  have c0 := hbox.cell (i := 0) rfl
  have c1 := hbox.cell (i := 1) rfl
  have e0 := hbox1.cell (i := 0) rfl
  have e1 := hbox1.cell (i := 1) rfl
  clear hb hbox hbox1
  by_cases hlt : k < len
  case neg =>
    have HF := Lib.hid (below_more HB0.out HB.out HB0.out.size)
    go_wp2
    exact bodyPost_ret (v := .bool true) (by simp [results, Tryz.results72, go_sem]) rfl ⟨rfl, HF.out⟩
  case pos =>
  obtain ⟨b, off, x, y, z, rfl, ht, g0, g1, g2, -, -⟩ := HT.out.get (Nat.le_refl _) HB.out (i := k) (by rw [← HL.out]; exact hlt)
  obtain ⟨b', off', x', y', z', rfl, ht', g0', g1', g2', -, -⟩ := HU.out.get (Nat.le_refl _) HB.out (i := k) (by rw [← HL.out]; exact hlt)
  have he := ht.out.symm.trans ht'.out
  simp only [Prod.mk.injEq] at he
  obtain ⟨rfl, rfl, rfl⟩ := he
  have hte := tri_equal40 x y z x y z
  simp only [beq_self_eq_true, Bool.and_self] at hte
  have hk0 : (0 : Int) ≤ (k : Int) := by omega
  have hk1 : (k : Int) < (len : Int) := by omega
  clear ht ht'
  go_wp2
  go_quiet (fail)
  go_wp2
  go_roundw
  case rel => exact ⟨k + 1, by omega, by go_num, HB.out.trans ⟨rfl, rfl, rfl, Nat.le_refl _, fun _ _ => rfl⟩⟩
  case measure => simp [intOf]; omega
set_option maxRecDepth 100000 in
set_option maxHeartbeats 2000000 in
theorem same_body (N : Int) (ao bo po qo ko lo : Option Addr) (cap cap' pc qc kc lc : Nat) (T P : List Tr) (K : List Int) (w : World) (hl : T.length ≤ 100000) (hpl : P.length ≤ 100000) (hkl : K.length ≤ 1000000)
    (hT : TrisAt w ao T) (hU : TrisAt w bo T) (hP : TrisAt w po P) (hQ : TrisAt w qo P) (hK : IntsAt w ko K) (hL : IntsAt w lo K) :
    Calls Tryz.prog 42 #[.agg #[.int .i64 N, .slice ao T.length cap, .slice po P.length pc, .slice ko K.length kc], .agg #[.int .i64 N, .slice bo T.length cap', .slice qo P.length qc, .slice lo K.length lc]] w fun e w' => e = .returned (.bool true) ∧ Below w.heap.size w w' := by
  obtain ⟨pl, hpl'⟩ : ∃ n, n = P.length := ⟨_, rfl⟩
  obtain ⟨kl, hkl'⟩ : ∃ n, n = K.length := ⟨_, rfl⟩
  obtain ⟨tl, htl'⟩ : ∃ n, n = T.length := ⟨_, rfl⟩
  have HS := Lib.hid (fun (X : World) (h1 : TrisAt X ao T) (h2 : TrisAt X bo T) => same15 N ao bo cap cap' T X hl h1 h2)
  rw [← htl'] at hl HS ⊢
  rw [← hpl'] at hpl ⊢
  rw [← hkl'] at hkl ⊢
  obtain ⟨W0, hW0⟩ : ∃ W0, W0 = (w.alloc (.cells #[.int .i64 N, .slice ao tl cap, .slice po pl pc, .slice ko kl kc] 28)).alloc (.cells #[.int .i64 N, .slice bo tl cap', .slice qo pl qc, .slice lo kl lc] 28) := ⟨_, rfl⟩
  have hb0 : Below w.heap.size w W0 := by rw [hW0]; exact ((Below.refl _ _).alloc (Nat.le_refl _) _).alloc (by simp) _
  have hr0 : RowIs W0 w.heap.size 28 [.int .i64 N, .slice ao tl cap, .slice po pl pc, .slice ko kl kc] := by rw [hW0]; exact (RowIs.made w 28 [.int .i64 N, .slice ao tl cap, .slice po pl pc, .slice ko kl kc]).alloc _
  have hr1 : RowIs W0 (w.heap.size + 1) 28 [.int .i64 N, .slice bo tl cap', .slice qo pl qc, .slice lo kl lc] := by rw [hW0]; exact RowIs.made' (w.alloc (.cells #[.int .i64 N, .slice ao tl cap, .slice po pl pc, .slice ko kl kc] 28)) 28 [.int .i64 N, .slice bo tl cap', .slice qo pl qc, .slice lo kl lc] (w.heap.size + 1) (by simp)
  have HT := Lib.hid (hT.mono (Nat.le_refl _) hb0)
  have HU := Lib.hid (hU.mono (Nat.le_refl _) hb0)
  have HP := Lib.hid (hP.mono (Nat.le_refl _) hb0)
  have HQ := Lib.hid (hQ.mono (Nat.le_refl _) hb0)
  have HK := Lib.hid (hK.mono (Nat.le_refl _) hb0)
  have HKL := Lib.hid (hL.mono (Nat.le_refl _) hb0)
  have HPN := Lib.hid hpl'
  have HKN := Lib.hid hkl'
  have HB0 := Lib.hid hb0
  have HR0 := Lib.hid hr0
  have HR1 := Lib.hid hr1
  have HW0 := Lib.hid hW0
  clear hT hU hP hQ hK hL hb0 hr0 hr1 hW0 hpl' hkl' htl'
  go_enter Tryz.func42, Tryz.ntmps42
  go_upto_region 1 with fail
  rw [← HW0.out]
  have c0 := HR0.out.cell (i := 0) rfl
  have c1 := HR0.out.cell (i := 1) rfl
  have c2 := HR0.out.cell (i := 2) rfl
  have c3 := HR0.out.cell (i := 3) rfl
  have e0 := HR1.out.cell (i := 0) rfl
  have e1 := HR1.out.cell (i := 1) rfl
  have e2 := HR1.out.cell (i := 2) rfl
  have e3 := HR1.out.cell (i := 3) rfl
  go_wp2_with (go_at_call 72; (with_reducible refine (HS.out _ HT.out HU.out).mono ?_); rintro e wS ⟨rfl, hbS⟩)
  obtain ⟨W1, rfl⟩ : ∃ W1 : World, W1 = wS := ⟨_, rfl⟩
  have HB1 := Lib.hid hbS
  clear c0 c1 c2 c3 e0 e1 e2 e3 hbS
  go_loopw [5] (fun i ws => ∃ k : Nat, k ≤ pl ∧ i = .int .i64 k ∧ Below W0.heap.size W0 ws) (fun i _ => pl - (intOf i).toNat)
  case atStart => exact ⟨0, by omega, rfl, HB1.out⟩
  case round =>
  obtain ⟨k, hk, rfl, hb⟩ := hrel
  obtain ⟨X, rfl⟩ : ∃ X : World, X = wr := ⟨_, rfl⟩
  have HB := Lib.hid hb
  have hbox := HR0.out.after hb
  have hbox1 := HR1.out.after hb
  have c2 := hbox.cell (i := 2) rfl
  have e2 := hbox1.cell (i := 2) rfl
  by_cases hlt : k < pl
  case pos =>
    clear hb hbox hbox1
    obtain ⟨b, off, x, y, z, rfl, ht, g0, g1, g2, -, -⟩ := HP.out.get (Nat.le_refl _) HB.out (i := k) (by rw [← HPN.out]; exact hlt)
    obtain ⟨b', off', x', y', z', rfl, ht', g0', g1', g2', -, -⟩ := HQ.out.get (Nat.le_refl _) HB.out (i := k) (by rw [← HPN.out]; exact hlt)
    have he := ht.out.symm.trans ht'.out
    simp only [Prod.mk.injEq] at he
    obtain ⟨rfl, rfl, rfl⟩ := he
    have hte := pt_equal40 x y z x y z
    simp only [beq_self_eq_true, Bool.and_self] at hte
    have hk0 : (0 : Int) ≤ (k : Int) := by omega
    have hk1 : (k : Int) < (pl : Int) := by omega
    clear ht ht'
    go_wp2
    go_quiet (fail)
    go_wp2
    go_roundw
    case rel => exact ⟨k + 1, by omega, by go_num, HB.out.trans ⟨rfl, rfl, rfl, Nat.le_refl _, fun _ _ => rfl⟩⟩
    case measure => simp [intOf]; omega
  case neg =>
  have c3 := hbox.cell (i := 3) rfl
  have e3 := hbox1.cell (i := 3) rfl
  clear hb hbox hbox1
  go_wp2
  clear c2 c3 e2 e3
  go_loopw [6] (fun i ws => ∃ k : Nat, k ≤ kl ∧ i = .int .i64 k ∧ Below W0.heap.size W0 ws) (fun i _ => kl - (intOf i).toNat)
  case atStart => exact ⟨0, by omega, rfl, HB.out⟩
  case round =>
  obtain ⟨j, hj, rfl, hb⟩ := hrel
  obtain ⟨Y, rfl⟩ : ∃ Y : World, Y = wr := ⟨_, rfl⟩
  have HBY := Lib.hid hb
  have hbox := HR0.out.after hb
  have hbox1 := HR1.out.after hb
  have c3 := hbox.cell (i := 3) rfl
  have e3 := hbox1.cell (i := 3) rfl
  clear hb hbox hbox1
  by_cases hlt2 : j < kl
  case neg =>
    have HF := Lib.hid (below_more HB0.out HBY.out HB0.out.size)
    go_wp2
    exact bodyPost_ret (v := .bool true) (by simp [results, Tryz.results42, go_sem]) rfl ⟨rfl, HF.out⟩
  case pos =>
  obtain ⟨b, off, x, rfl, hx, g0, -, -⟩ := HK.out.get (Nat.le_refl _) HBY.out (i := j) (by rw [← HKN.out]; exact hlt2)
  obtain ⟨b', off', x', rfl, hx', g0', -, -⟩ := HKL.out.get (Nat.le_refl _) HBY.out (i := j) (by rw [← HKN.out]; exact hlt2)
  have he : x' = x := hx'.out.symm.trans hx.out
  subst he
  have hk0 : (0 : Int) ≤ (j : Int) := by omega
  have hk1 : (j : Int) < (kl : Int) := by omega
  clear hx hx'
  go_wp2
  go_quiet (fail)
  go_wp2
  go_roundw
  case rel => exact ⟨j + 1, by omega, by go_num, HBY.out.trans ⟨rfl, rfl, rfl, Nat.le_refl _, fun _ _ => rfl⟩⟩
  case measure => simp [intOf]; omega
set_option maxRecDepth 100000 in
set_option maxHeartbeats 2000000 in
theorem same_local (N : Int) (a1 a2 a3 a4 a5 b1 b2 b3 b4 b5 : Option Addr) (c1 c2 c3 c4 c5 d1 d2 d3 d4 d5 : Nat) (T P : List Tr) (K V R : List Int) (w : World) (hl : T.length ≤ 100000) (hpl : P.length ≤ 100000) (hkl : K.length ≤ 1000000) (hvl : V.length ≤ 100000) (hrl : R.length ≤ 100000)
    (h1 : TrisAt w a1 T) (g1 : TrisAt w b1 T) (h2 : TrisAt w a2 P) (g2 : TrisAt w b2 P) (h3 : IntsAt w a3 K) (g3 : IntsAt w b3 K) (h4 : IntsAt w a4 V) (g4 : IntsAt w b4 V) (h5 : IntsAt w a5 R) (g5 : IntsAt w b5 R) :
    Calls Tryz.prog 11 #[.agg #[.int .i64 N, .slice a1 T.length c1, .slice a2 P.length c2, .slice a3 K.length c3, .slice a4 V.length c4, .slice a5 R.length c5], .agg #[.int .i64 N, .slice b1 T.length d1, .slice b2 P.length d2, .slice b3 K.length d3, .slice b4 V.length d4, .slice b5 R.length d5]] w fun e w' => e = .returned (.bool true) ∧ Below w.heap.size w w' := by
  obtain ⟨L1, hL1⟩ : ∃ L1 : List Value, L1 = [.int .i64 N, .slice a1 T.length c1, .slice a2 P.length c2, .slice a3 K.length c3, .slice a4 V.length c4, .slice a5 R.length c5] := ⟨_, rfl⟩
  obtain ⟨L2, hL2⟩ : ∃ L2 : List Value, L2 = [.int .i64 N, .slice b1 T.length d1, .slice b2 P.length d2, .slice b3 K.length d3, .slice b4 V.length d4, .slice b5 R.length d5] := ⟨_, rfl⟩
  obtain ⟨W0, hW0⟩ : ∃ W0, W0 = (w.alloc (.cells L1.toArray 37)).alloc (.cells L2.toArray 37) := ⟨_, rfl⟩
  have hb0 : Below w.heap.size w W0 := by rw [hW0]; exact ((Below.refl _ _).alloc (Nat.le_refl _) _).alloc (by simp) _
  have hr0 : RowIs W0 w.heap.size 37 L1 := by rw [hW0]; exact (RowIs.made w 37 L1).alloc _
  have hr1 : RowIs W0 (w.heap.size + 1) 37 L2 := by rw [hW0]; exact RowIs.made' (w.alloc (.cells L1.toArray 37)) 37 L2 (w.heap.size + 1) (by simp)
  subst hL1; subst hL2
  simp only [List.toArray] at hW0
  have HSB := Lib.hid (same_body N a1 b1 a2 b2 a3 b3 c1 d1 c2 d2 c3 d3 T P K W0 hl hpl hkl (h1.mono (Nat.le_refl _) hb0) (g1.mono (Nat.le_refl _) hb0) (h2.mono (Nat.le_refl _) hb0) (g2.mono (Nat.le_refl _) hb0) (h3.mono (Nat.le_refl _) hb0) (g3.mono (Nat.le_refl _) hb0))
  have HI4 := Lib.hid (fun (X : World) (h : Below W0.heap.size W0 X) => (ints08 a4 b4 c4 d4 V V X hvl ((h4.mono (Nat.le_refl _) hb0).mono (Nat.le_refl _) h) ((g4.mono (Nat.le_refl _) hb0).mono (Nat.le_refl _) h)).mono (R' := fun e w' => e = .returned (.bool true) ∧ Below X.heap.size X w') fun e w' ⟨h, k⟩ => ⟨h.trans (by simp), k⟩)
  have HI5 := Lib.hid (fun (X : World) (h : Below W0.heap.size W0 X) => (ints08 a5 b5 c5 d5 R R X hrl ((h5.mono (Nat.le_refl _) hb0).mono (Nat.le_refl _) h) ((g5.mono (Nat.le_refl _) hb0).mono (Nat.le_refl _) h)).mono (R' := fun e w' => e = .returned (.bool true) ∧ Below X.heap.size X w') fun e w' ⟨h, k⟩ => ⟨h.trans (by simp), k⟩)
  have HB0 := Lib.hid hb0
  have HR0 := Lib.hid hr0
  have HR1 := Lib.hid hr1
  have HW0 := Lib.hid hW0
  clear h1 h2 h3 h4 h5 g1 g2 g3 g4 g5 hb0 hr0 hr1 hW0
  go_enter Tryz.func11, Tryz.ntmps11
  go_upto_region 1 with fail
  rw [← HW0.out]
  have x0 := HR0.out.cell (i := 0) rfl
  have x1 := HR0.out.cell (i := 1) rfl
  have x2 := HR0.out.cell (i := 2) rfl
  have x3 := HR0.out.cell (i := 3) rfl
  have y0 := HR1.out.cell (i := 0) rfl
  have y1 := HR1.out.cell (i := 1) rfl
  have y2 := HR1.out.cell (i := 2) rfl
  have y3 := HR1.out.cell (i := 3) rfl
  go_wp2_with (first
    | (go_at_call 42; (with_reducible refine HSB.out.mono ?_); rintro e wS ⟨rfl, hbS⟩; have x4 := (HR0.out.after hbS).cell (i := 4) rfl; have y4 := (HR1.out.after hbS).cell (i := 4) rfl; have HBS := Lib.hid hbS; clear hbS)
    | (go_at_call 24; (with_reducible refine (HI4.out _ HBS.out).mono ?_); rintro e wV ⟨rfl, hbV⟩; have hb2 := below_more HBS.out hbV HBS.out.size; have x5 := (HR0.out.after hb2).cell (i := 5) rfl; have y5 := (HR1.out.after hb2).cell (i := 5) rfl; have HBV := Lib.hid hb2; clear hb2 hbV)
    | (go_at_call 24; (with_reducible refine (HI5.out _ HBV.out).mono ?_); rintro e wR ⟨rfl, hbR⟩; have HBR := Lib.hid (below_more HB0.out (below_more HBV.out hbR HBV.out.size) HB0.out.size); clear hbR))
  exact bodyPost_ret (v := .bool true) (by simp [results, Tryz.results11, go_sem]) rfl ⟨rfl, HBR.out⟩
set_option maxRecDepth 100000 in
set_option maxHeartbeats 2000000 in
theorem plain_local (N : Int) (a1 a2 a3 a4 a5 : Option Addr) (l1 l2 l3 l4 l5 c1 c2 c3 c4 c5 : Nat) (w : World) :
    Calls Tryz.prog 12 #[.agg #[.int .i64 N, .slice a1 l1 c1, .slice a2 l2 c2, .slice a3 l3 c3, .slice a4 l4 c4, .slice a5 l5 c5]] w fun e w' => e = .returned (.agg #[.int .i64 N, .slice a1 l1 c1, .slice a2 l2 c2, .slice a3 l3 c3, .slice a4 l4 c4, .slice a5 l5 c5]) ∧ Below w.heap.size w w' := by
  obtain ⟨W0, hW0⟩ : ∃ W0, W0 = (w.alloc (.cells #[.int .i64 N, .slice a1 l1 c1, .slice a2 l2 c2, .slice a3 l3 c3, .slice a4 l4 c4, .slice a5 l5 c5] 32)).alloc (.cells #[.int .i64 0, .slice none 0 0, .slice none 0 0, .slice none 0 0, .slice none 0 0, .slice none 0 0] 37) := ⟨_, rfl⟩
  have hb0 : Below w.heap.size w W0 := by rw [hW0]; exact ((Below.refl _ _).alloc (Nat.le_refl _) _).alloc (by simp) _
  have hr0 : RowIs W0 w.heap.size 32 [.int .i64 N, .slice a1 l1 c1, .slice a2 l2 c2, .slice a3 l3 c3, .slice a4 l4 c4, .slice a5 l5 c5] := by rw [hW0]; exact (RowIs.made w 32 [.int .i64 N, .slice a1 l1 c1, .slice a2 l2 c2, .slice a3 l3 c3, .slice a4 l4 c4, .slice a5 l5 c5]).alloc _
  have hr1 : RowIs W0 (w.heap.size + 1) 37 [.int .i64 0, .slice none 0 0, .slice none 0 0, .slice none 0 0, .slice none 0 0, .slice none 0 0] := by rw [hW0]; exact RowIs.made' (w.alloc (.cells #[.int .i64 N, .slice a1 l1 c1, .slice a2 l2 c2, .slice a3 l3 c3, .slice a4 l4 c4, .slice a5 l5 c5] 32)) 37 [.int .i64 0, .slice none 0 0, .slice none 0 0, .slice none 0 0, .slice none 0 0, .slice none 0 0] (w.heap.size + 1) (by simp)
  have HB0 := Lib.hid hb0
  have HR0 := Lib.hid hr0
  have HR1 := Lib.hid hr1
  have HW0 := Lib.hid hW0
  clear hb0 hr0 hr1 hW0
  go_enter Tryz.func12, Tryz.ntmps12
  go_upto_region 1 with fail
  rw [← HW0.out]
  have x0 := HR0.out.cell (i := 0) rfl
  have x1 := HR0.out.cell (i := 1) rfl
  have x2 := HR0.out.cell (i := 2) rfl
  have x3 := HR0.out.cell (i := 3) rfl
  have x4 := HR0.out.cell (i := 4) rfl
  have x5 := HR0.out.cell (i := 5) rfl
  have y0 := HR1.out.cell (i := 0) rfl
  have y1 := HR1.out.cell (i := 1) rfl
  have y2 := HR1.out.cell (i := 2) rfl
  have y3 := HR1.out.cell (i := 3) rfl
  have y4 := HR1.out.cell (i := 4) rfl
  have y5 := HR1.out.cell (i := 5) rfl
  have f0 := HR1.out.free 0
  have f1 := HR1.out.free 1
  have f2 := HR1.out.free 2
  have f3 := HR1.out.free 3
  have f4 := HR1.out.free 4
  have f5 := HR1.out.free 5
  go_wp2
  exact bodyPost_ret (v := .agg #[.int .i64 N, .slice a1 l1 c1, .slice a2 l2 c2, .slice a3 l3 c3, .slice a4 l4 c4, .slice a5 l5 c5]) (by simp [results, Tryz.results12, go_sem, y0, y1, y2, y3, y4, y5]) rfl ⟨rfl, by repeat (first | exact HB0.out | (with_reducible refine Below.setCell ?_ (by simp) _))⟩
set_option maxRecDepth 100000 in
set_option maxHeartbeats 2000000 in
theorem body_ref (N : Int) (ao po ko : Option Addr) (tl pl kl cap pc kc : Nat) (w : World) (hl : tl ≤ 100000) :
    Calls Tryz.prog 14 #[.agg #[.int .i64 N, .slice ao tl cap, .slice po pl pc, .slice ko kl kc]] w fun e w' => e = .returned (.bool (((pl : Int) == N) && (((kl : Int) == 0) || ((kl : Int) == 3 * (tl : Int))))) ∧ Below w.heap.size w w' := by
  obtain ⟨W0, hW0⟩ : ∃ W0, W0 = w.alloc (.cells #[.int .i64 N, .slice ao tl cap, .slice po pl pc, .slice ko kl kc] 28) := ⟨_, rfl⟩
  have hb0 : Below w.heap.size w W0 := by rw [hW0]; exact (Below.refl _ _).alloc (Nat.le_refl _) _
  have hr0 : RowIs W0 w.heap.size 28 [.int .i64 N, .slice ao tl cap, .slice po pl pc, .slice ko kl kc] := by rw [hW0]; exact RowIs.made w 28 [.int .i64 N, .slice ao tl cap, .slice po pl pc, .slice ko kl kc]
  have hm1 : (0 : Int) ≤ 3 * (tl : Int) := by omega
  have hm2 : 3 * (tl : Int) ≤ 300000 := by omega
  have HB0 := Lib.hid hb0
  have HR0 := Lib.hid hr0
  have HW0 := Lib.hid hW0
  clear hb0 hr0 hW0
  cases h1 : ((pl : Int) == N)
  case false =>
    go_enter Tryz.func14, Tryz.ntmps14
    go_upto_region 1 with fail
    rw [← HW0.out]
    have x0 := HR0.out.cell (i := 0) rfl
    have x1 := HR0.out.cell (i := 1) rfl
    have x2 := HR0.out.cell (i := 2) rfl
    have x3 := HR0.out.cell (i := 3) rfl
    go_wp2
    exact bodyPost_ret (v := .bool false) (by simp [results, Tryz.results14, go_sem]) rfl ⟨by simp, HB0.out⟩
  case true =>
  cases h2 : ((kl : Int) == 0)
  case true =>
    go_enter Tryz.func14, Tryz.ntmps14
    go_upto_region 1 with fail
    rw [← HW0.out]
    have x0 := HR0.out.cell (i := 0) rfl
    have x1 := HR0.out.cell (i := 1) rfl
    have x2 := HR0.out.cell (i := 2) rfl
    have x3 := HR0.out.cell (i := 3) rfl
    go_wp2
    exact bodyPost_ret (v := .bool true) (by simp [results, Tryz.results14, go_sem]) rfl ⟨by simp, HB0.out⟩
  case false =>
  cases h3 : ((kl : Int) == 3 * (tl : Int))
  case false =>
    go_enter Tryz.func14, Tryz.ntmps14
    go_upto_region 1 with fail
    rw [← HW0.out]
    have x0 := HR0.out.cell (i := 0) rfl
    have x1 := HR0.out.cell (i := 1) rfl
    have x2 := HR0.out.cell (i := 2) rfl
    have x3 := HR0.out.cell (i := 3) rfl
    go_wp2
    exact bodyPost_ret (v := .bool false) (by simp [results, Tryz.results14, go_sem]) rfl ⟨by simp, HB0.out⟩
  case true =>
    go_enter Tryz.func14, Tryz.ntmps14
    go_upto_region 1 with fail
    rw [← HW0.out]
    have x0 := HR0.out.cell (i := 0) rfl
    have x1 := HR0.out.cell (i := 1) rfl
    have x2 := HR0.out.cell (i := 2) rfl
    have x3 := HR0.out.cell (i := 3) rfl
    go_wp2
    exact bodyPost_ret (v := .bool true) (by simp [results, Tryz.results14, go_sem]) rfl ⟨by simp, HB0.out⟩
end Go.Proofs.YtknioobpoieohaaGreat

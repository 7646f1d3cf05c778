/- gypsumlaw13.ShellBeside: the walk. -/
import Derived.Test.YtkggphfekeiejaaSoupJoin
import Derived.Test.YtkggphfekeiejaaShellC
import Derived.Deep.AppendLies
namespace Go.Proofs.Ytkggphfekeiejaa
set_option linter.unusedVariables false
set_option linter.unusedSimpArgs false
open Go.RowKit
def two {α : Type} (a b : α) : Nat → α := fun k => if k = 0 then a else b
theorem sh_zero (t : Tr) : sh 0 t = t := by unfold sh; simp
theorem acc_two (N1 N2 : Int) (T1 T2 : List Tr) : accN (two N1 N2) 2 = N1 + N2 ∧ accT (two N1 N2) (two T1 T2) 2 = side T1 T2 N1 := by
  have e0 : two N1 N2 0 = N1 := rfl
  have e1 : two N1 N2 1 = N2 := rfl
  have t0 : two T1 T2 0 = T1 := rfl
  have t1 : two T1 T2 1 = T2 := rfl
  constructor
  · show accN _ 0 + two N1 N2 0 + two N1 N2 1 = _
    rw [e0, e1]
    simp [accN]
  · show (accT _ _ 0 ++ (two T1 T2 0).map (sh (accN _ 0))) ++ (two T1 T2 1).map (sh (accN (two N1 N2) 1)) = _
    have h1 : accN (two N1 N2) 1 = N1 := by
      show accN _ 0 + two N1 N2 0 = _
      rw [e0]; simp [accN]
    rw [h1, t0, t1]
    have h2 : T1.map (sh 0) = T1 := by
      have : sh 0 = id := funext sh_zero
      rw [this, List.map_id]
    show ([] ++ T1.map (sh 0)) ++ _ = _
    rw [h2]
    rfl
/-- What the law gathers. -/
def wantL (L M : Nat → Int) (n : Nat) (c : Int) (k : Nat) : List Int := il L n ++ (List.range k).map fun i => c + M i
theorem wantL_zero (L M : Nat → Int) (n : Nat) (c : Int) : wantL L M n c 0 = il L n := by simp [wantL]
theorem wantL_succ (L M : Nat → Int) (n : Nat) (c : Int) (k : Nat) : wantL L M n c (k + 1) = wantL L M n c k ++ [c + M k] := by simp [wantL, List.range_succ]
theorem wantL_length (L M : Nat → Int) (n : Nat) (c : Int) (k : Nat) : (wantL L M n c k).length = n + k := by simp [wantL, il]
theorem wantL_full (L M : Nat → Int) (n : Nat) (k : Nat) : il (sideL L M n (cnt L n)) (n + k) = wantL L M n (cnt L n) k := by
  unfold il wantL
  rw [List.range_add, List.map_append, List.map_map]
  congr 1
  · refine List.map_congr_left fun i hi => ?_
    unfold sideL
    rw [if_pos (List.mem_range.1 hi)]
  · refine List.map_congr_left fun i hi => ?_
    show sideL L M n (cnt L n) (n + i) = _
    unfold sideL
    rw [if_neg (by omega), show n + i - n = i by omega]
theorem iv_il (f : Nat → Int) (n : Nat) : iv f n = (il f n).map (Value.int .i64) := by simp [iv, il]
theorem off_at' {u : Value} {pb g n c H : Nat} (hat : u.ownBlock = some g ∨ g = H) (ho : some pb ≠ u.ownBlock) (hp : pb < H) : some pb ≠ (Value.slice (some ⟨g, 0, none⟩) n c).ownBlock := by
  intro e
  have e2 : pb = g := by simpa [Value.ownBlock] using e
  subst e2
  rcases hat with hat | hat
  · exact ho hat.symm
  · omega
set_option maxRecDepth 100000 in
set_option maxHeartbeats 3000000 in
theorem beside_any (N1 : Int) (ao1 : Option Addr) (cap1 : Nat) (T1 : List Tr) (N2 : Int) (ao2 : Option Addr) (cap2 : Nat) (T2 : List Tr) (w : World) (hT1 : TrisAt w ao1 T1) (hm1 : T1.length ≤ 9223372036854775807) (hT2 : TrisAt w ao2 T2) (hm2 : T2.length ≤ 9223372036854775807) :
    Calls Try.prog 7 #[.agg #[.int .i64 N1, .slice ao1 T1.length cap1], .agg #[.int .i64 N2, .slice ao2 T2.length cap2]] w fun e w' => e = .returned (.bool true) ∧ Below w.heap.size w w' := by
  obtain ⟨W0, hW0⟩ : ∃ W0, W0 = (w.alloc (.cells #[.int .i64 N1, .slice ao1 T1.length cap1] 24)).alloc (.cells #[.int .i64 N2, .slice ao2 T2.length cap2] 24) := ⟨_, rfl⟩
  have hb0 : Below w.heap.size w W0 := by rw [hW0]; exact ((Below.refl _ _).alloc (Nat.le_refl _) _).alloc (by simp) _
  have HX0 := Lib.hid (show RowIs W0 w.heap.size 24 [.int .i64 N1, .slice ao1 T1.length cap1] from by rw [hW0]; exact (RowIs.made w 24 [.int .i64 N1, .slice ao1 T1.length cap1]).alloc _)
  have HY0 := Lib.hid (show RowIs W0 (w.heap.size + 1) 24 [.int .i64 N2, .slice ao2 T2.length cap2] from by rw [hW0]; exact row_two w _ 24 [.int .i64 N2, .slice ao2 T2.length cap2])
  have HF1 := Lib.hid (fun X (h : TrisAt X ao1 T1) => fits_any N1 ao1 cap1 T1 X h hm1)
  have HF2 := Lib.hid (fun X (h : TrisAt X ao2 T2) => fits_any N2 ao2 cap2 T2 X h hm2)
  have HT1 := Lib.hid hT1
  have HT2 := Lib.hid hT2
  have HB0 := Lib.hid hb0
  obtain ⟨n1, hn1⟩ : ∃ n, n = T1.length := ⟨_, rfl⟩
  obtain ⟨n2, hn2⟩ : ∃ n, n = T2.length := ⟨_, rfl⟩
  rw [← hn1] at HF1 HX0 hW0 ⊢
  rw [← hn2] at HF2 HY0 hW0 ⊢
  have HN1 := Lib.hid hn1
  have HN2 := Lib.hid hn2
  have hqn : ∀ w, (binOp .neq 45 (.agg #[.int .i64 0, .int .i64 0, .int .i64 0]) (.agg #[.int .i64 0, .int .i64 0, .int .i64 0])).run Try.prog w = .ok (.bool false) w := fun _ => by kernel_rfl
  clear hn1 hn2 hT1 hT2 hb0 hm1 hm2
  go_enter Try.func7, Try.ntmps7
  go_wp2_with fail
  rw [← hW0]
  clear hW0
  refine (HF1.out W0 (HT1.out.mono (Nat.le_refl _) HB0.out)).mono ?_
  intro e w1 hpost1
  obtain ⟨r1, tp1, he1, hb1⟩ : ∃ (r1 : Bool) (tp1 : Option Addr), e = .returned (.tuple #[.pointer tp1, .bool r1]) ∧ Below W0.heap.size W0 w1 := by
    rcases hpost1 with ⟨p, h, -, -, -, -, -, hb⟩ | ⟨h, hb⟩
    · exact ⟨true, _, h, hb⟩
    · exact ⟨false, _, h, hb⟩
  subst he1
  have HP1 := Lib.hid hpost1
  have HB1 := Lib.hid (below_more HB0.out hb1 HB0.out.size)
  have HX1 := Lib.hid (HX0.out.after hb1)
  have HY1 := Lib.hid (HY0.out.after hb1)
  have y0 := HY1.out.cell (i := 0) rfl
  have y1 := HY1.out.cell (i := 1) rfl
  clear hpost1 hb1
  go_wp2_with fail
  refine (HF2.out w1 (HT2.out.mono (Nat.le_refl _) HB1.out)).mono ?_
  intro e w2 hpost2
  obtain ⟨r2, tp2, he2, hb2⟩ : ∃ (r2 : Bool) (tp2 : Option Addr), e = .returned (.tuple #[.pointer tp2, .bool r2]) ∧ Below w1.heap.size w1 w2 := by
    rcases hpost2 with ⟨p, h, -, -, -, -, -, hb⟩ | ⟨h, hb⟩
    · exact ⟨true, _, h, hb⟩
    · exact ⟨false, _, h, hb⟩
  subst he2
  have HP2 := Lib.hid hpost2
  have HB2 := Lib.hid (below_more HB1.out hb2 HB1.out.size)
  have HX2 := Lib.hid (HX1.out.after hb2)
  have HY2 := Lib.hid (HY1.out.after hb2)
  have HB12 := Lib.hid hb2
  clear hpost2 hb2 y0 y1
  go_wp2_with fail
  refine (awake_ok _).mono ?_
  rintro e w3 ⟨rfl, hb3⟩
  have HB3 := Lib.hid (below_more HB2.out hb3 HB2.out.size)
  have HX3 := Lib.hid (HX2.out.after hb3)
  have HY3 := Lib.hid (HY2.out.after hb3)
  have HB23 := Lib.hid hb3
  clear hb3
  by_cases hr : r1 = true ∧ r2 = true
  case neg =>
    have hcase : r1 = false ∨ (r1 = true ∧ r2 = false) := by
      cases r1
      · exact .inl rfl
      · cases r2
        · exact .inr ⟨rfl, rfl⟩
        · exact absurd ⟨rfl, rfl⟩ hr
    clear hr
    rcases hcase with rfl | ⟨rfl, rfl⟩
    all_goals
      go_wp2_with fail
      refine (awake_ok _).mono ?_
      rintro e w4 ⟨rfl, hb4⟩
      have HB4 := Lib.hid (below_more HB3.out hb4 HB3.out.size)
      clear hb4
      go_wp2
      exact bodyPost_ret (v := .bool true) (by simp [results, Try.results7, go_sem]) rfl ⟨rfl, HB4.out⟩
  case pos =>
  obtain ⟨rfl, rfl⟩ := hr
  obtain ⟨p1, hp1, htab1, hs1, ha1, ha2⟩ : ∃ p1, tp1 = some ⟨p1, 0, none⟩ ∧ Tab w1 p1 N1 T1 ∧ Surf N1 T1 ∧ T1.length ≤ 30 ∧ N1 ≤ 90 := by
    rcases HP1.out with ⟨p, h, -, h1, h2, h3, h4, -⟩ | ⟨h, -⟩
    · simp at h; exact ⟨p, h, h1, h2, h3, h4⟩
    · simp at h
  obtain ⟨p2, hp2, htab2, hs2, ha3, ha4⟩ : ∃ p2, tp2 = some ⟨p2, 0, none⟩ ∧ Tab w2 p2 N2 T2 ∧ Surf N2 T2 ∧ T2.length ≤ 30 ∧ N2 ≤ 90 := by
    rcases HP2.out with ⟨p, h, -, h1, h2, h3, h4, -⟩ | ⟨h, -⟩
    · simp at h; exact ⟨p, h, h1, h2, h3, h4⟩
    · simp at h
  subst hp1
  subst hp2
  have HS1 := Lib.hid hs1
  have HS2 := Lib.hid hs2
  have HTA1 := Lib.hid ((htab1.mono (Nat.le_refl _) HB12.out).mono (Nat.le_refl _) HB23.out)
  have HTA2 := Lib.hid (htab2.mono (Nat.le_refl _) HB23.out)
  have hn1 : n1 ≤ 30 := by rw [HN1.out]; exact ha1
  have hn2 : n2 ≤ 30 := by rw [HN2.out]; exact ha3
  have x0 := HX3.out.cell (i := 0) rfl
  have x1 := HX3.out.cell (i := 1) rfl
  have y0 := HY3.out.cell (i := 0) rfl
  have y1 := HY3.out.cell (i := 1) rfl
  clear htab1 htab2 HP1 HP2 HF1 HF2 HX0 HX1 HX2 HY0 HY1 HY2 HB0 HB1 HB2 hs1 hs2
  go_wp2_with fail
  obtain ⟨W4, hW4⟩ : ∃ W4, W4 = w3.alloc (.cells #[.int .i64 N1, .slice ao1 n1 cap1, .int .i64 N2, .slice ao2 n2 cap2] 24) := ⟨_, rfl⟩
  rw [← hW4]
  have hb4 : Below w3.heap.size w3 W4 := by rw [hW4]; exact (Below.refl _ _).alloc (Nat.le_refl _) _
  have hr4 : RowIs W4 w3.heap.size 24 [.int .i64 N1, .slice ao1 n1 cap1, .int .i64 N2, .slice ao2 n2 cap2] := by rw [hW4]; exact RowIs.made w3 24 [.int .i64 N1, .slice ao1 n1 cap1, .int .i64 N2, .slice ao2 n2 cap2]
  have HB4 := Lib.hid (below_more HB3.out hb4 HB3.out.size)
  have HTA14 := Lib.hid (HTA1.out.mono (Nat.le_refl _) hb4)
  have HTA24 := Lib.hid (HTA2.out.mono (Nat.le_refl _) hb4)
  clear hW4 hb4 x0 x1 y0 y1 HX3 HY3 HTA1 HTA2 HB3 HB23 HB12
  refine (sjoin_two (two N1 N2) (two T1 T2) (two ao1 ao2) (two cap1 cap2) w3.heap.size W4 (fun k hk => ?_) (fun k hk => ?_) hr4.lt).mono ?_
  · rcases (by omega : k = 0 ∨ k = 1) with rfl | rfl
    · exact ⟨HS1.out, ha2, ha1, HT1.out.mono (Nat.le_refl _) HB4.out⟩
    · exact ⟨HS2.out, ha4, ha3, HT2.out.mono (Nat.le_refl _) HB4.out⟩
  · rcases (by omega : k = 0 ∨ k = 1) with rfl | rfl
    · show W4.cell? ⟨w3.heap.size, 0, none⟩ = some (.int .i64 N1) ∧ W4.cell? ⟨w3.heap.size, 1, none⟩ = some (.slice ao1 T1.length cap1)
      rw [← HN1.out]
      exact ⟨hr4.cell (i := 0) rfl, hr4.cell (i := 1) rfl⟩
    · show W4.cell? ⟨w3.heap.size, 2, none⟩ = some (.int .i64 N2) ∧ W4.cell? ⟨w3.heap.size, 3, none⟩ = some (.slice ao2 T2.length cap2)
      rw [← HN2.out]
      exact ⟨hr4.cell (i := 2) rfl, hr4.cell (i := 3) rfl⟩
  rintro e w5 ⟨ao, cap, rfl, ht5, hb5⟩
  rw [(acc_two N1 N2 T1 T2).1, (acc_two N1 N2 T1 T2).2]
  rw [(acc_two N1 N2 T1 T2).2] at ht5
  obtain ⟨TT, hTT⟩ : ∃ TT, TT = side T1 T2 N1 := ⟨_, rfl⟩
  have HSS := Lib.hid (show Surf (N1 + N2) TT from by rw [hTT]; exact side_surf HS1.out HS2.out (by omega) (by omega))
  have hlen : TT.length = n1 + n2 := by rw [hTT, side_length, HN1.out, HN2.out]
  rw [← hTT] at ht5 ⊢
  rw [hlen]
  have HTT := Lib.hid hTT
  have HLEN := Lib.hid hlen
  have hb6 : Below w5.heap.size w5 (w5.alloc (.cells #[.int .i64 (N1 + N2), .slice ao (n1 + n2) cap] 24)) := (Below.refl _ _).alloc (Nat.le_refl _) _
  have HB6 := Lib.hid (below_more (below_more HB4.out hb5 HB4.out.size) hb6 (by have := HB4.out.size; have := hb5.size; omega))
  have HTA16 := Lib.hid ((HTA14.out.mono (Nat.le_refl _) hb5).mono (Nat.le_refl _) hb6)
  have HTA26 := Lib.hid ((HTA24.out.mono (Nat.le_refl _) hb5).mono (Nat.le_refl _) hb6)
  have HNW := Lib.hid (new_ok (N1 + N2) ao cap TT _ (ht5.mono (Nat.le_refl _) hb6) HSS.out)
  rw [hlen] at HNW
  clear hr4 hb5 hb6 ht5 hTT hlen HTA14 HTA24 HB4
  go_wp2_with fail
  refine HNW.out.mono ?_
  rintro e w7 ⟨p3, rfl, -, htab3, hb7⟩
  have hb8 : Below w7.heap.size w7 (w7.alloc (.cells #[.int .i64 0, .int .i64 0, .int .i64 0] 45)) := (Below.refl _ _).alloc (Nat.le_refl _) _
  have HB8 := Lib.hid (below_more (below_more HB6.out hb7 HB6.out.size) hb8 (by have := HB6.out.size; have := hb7.size; omega))
  have HTA1 := Lib.hid ((HTA16.out.mono (Nat.le_refl _) hb7).mono (Nat.le_refl _) hb8)
  have HTA2 := Lib.hid ((HTA26.out.mono (Nat.le_refl _) hb7).mono (Nat.le_refl _) hb8)
  have HTA3 := Lib.hid (htab3.mono (Nat.le_refl _) hb8)
  obtain ⟨L1, hL1⟩ := shells_exist (Adj T1) T1.length
  obtain ⟨L2, hL2⟩ := shells_exist (Adj T2) T2.length
  have hL3 := side_shells HS1.out HS2.out (by omega) (by omega) hL1 hL2
  rw [← HTT.out] at hL3
  obtain ⟨m1, hm1⟩ := Int.eq_ofNat_of_zero_le (cnt_nonneg L1 T1.length)
  obtain ⟨m2, hm2⟩ := Int.eq_ofNat_of_zero_le (cnt_nonneg L2 T2.length)
  have hm3 : ((m1 + m2 : Nat) : Int) = cnt (sideL L1 L2 T1.length (cnt L1 T1.length)) TT.length := by
    rw [HTT.out, side_length, side_cnt, hm1, hm2]; push_cast; rfl
  have hmn1 : m1 ≤ 30 := by have := hL1.cnt_le; omega
  have hmn2 : m2 ≤ 30 := by have := hL2.cnt_le; omega
  have HL1 := Lib.hid hL1
  have HL2 := Lib.hid hL2
  have HL3 := Lib.hid hL3
  have HM1 := Lib.hid hm1.symm
  have HM2 := Lib.hid hm2.symm
  have HM3 := Lib.hid hm3
  clear htab3 hb7 hb8 hL1 hL2 hL3 hm1 hm2 hm3 HTA16 HTA26 HB6 HNW
  go_wp2_with fail
  refine (count_L HS1.out HL1.out HM1.out _ p1 HTA1.out).mono ?_
  rintro e w9 ⟨rfl, hb9⟩
  have HB9 := Lib.hid (below_more HB8.out hb9 HB8.out.size)
  have HTA1' := Lib.hid (HTA1.out.mono (Nat.le_refl _) hb9)
  have HTA2' := Lib.hid (HTA2.out.mono (Nat.le_refl _) hb9)
  have HTA3' := Lib.hid (HTA3.out.mono (Nat.le_refl _) hb9)
  clear hb9 HTA1 HTA2 HTA3 HB8
  obtain ⟨i0, hi, hz0, hz1, hz2⟩ := info_parts info3
  go_wp2_with fail
  have hb9 : Below w9.heap.size w9 (w9.alloc (.cells #[] 3)) := (Below.refl _ _).alloc (Nat.le_refl _) _
  have hre := RowIs.made w9 3 []
  refine (of_L HS1.out HL1.out _ p1 (HTA1'.out.mono (Nat.le_refl _) hb9)).mono ?_
  rintro e w10 ⟨g, rfl, hg, hr10, hb10⟩
  rw [← HN1.out] at hr10 ⊢
  have HBX10 := Lib.hid (below_more hb9 hb10 (by simp))
  have HO10 := Lib.hid ((hre.after hb10).owns (base := w9.heap.size) (size := 1) (n := 0) (Nat.le_refl _) rfl (by decide))
  have HR10 := Lib.hid hr10
  have hs10 : w9.heap.size ≤ w10.heap.size := by have := hb10.size; simp at this; omega
  clear hb9 hre hg hr10 hb10
  go_wp2_with (at_builtin; refine wpList_append_own _ rfl _ _ 34 rfl w9.heap.size 3 i0 (.int .i64 0) 1 8 (by kernel_rfl) hi hz0 hz1 hz2 rfl (by decide) _ _ _ rfl HO10.out ⟨g, 0, none⟩ n1 n1 (iv L1 n1) rfl (by rw [iv_length, Nat.mul_one]) (fun j u hu => by have := HR10.out.cell hu; simpa [Addr.add_lit] using this) (by intro u hu; simp only [iv, List.mem_map] at hu; obtain ⟨q, _, rfl⟩ := hu; rfl) ?_ ?_ ?_ ?_)
  · unfold maxLen; omega
  · omega
  · exact hs10
  · intro v' w11 hown hgr _
    rw [iv_il] at hown
    obtain ⟨aoW, capW, rfl⟩ := owns_slice hown
    have HO11 := Lib.hid (show w11.ownsRow w9.heap.size 3 1 (.slice aoW n1 capW) (n1 + 0) ((wantL L1 L2 n1 (m1 : Int) 0).map (Value.int .i64)) from by rw [wantL_zero]; exact hown)
    have HBX11 := Lib.hid (show Below w9.heap.size w9 w11 from HBX10.out.grown hgr hs10 fun q hq => (HO10.out.lt q hq).1)
    clear hown hgr HO10 HR10 HBX10
    go_wp2_with fail
    refine (of_L HS2.out HL2.out _ p2 (HTA2'.out.mono (Nat.le_refl _) HBX11.out)).mono ?_
    rintro e w12 ⟨g2, rfl, hg2, hr12, hb12⟩
    rw [← HN2.out] at hr12 ⊢
    have HBX12 := Lib.hid (below_more HBX11.out hb12 HBX11.out.size)
    have HO12 := Lib.hid (owns_below HO11.out hb12)
    have HNE := Lib.hid (show some g2 ≠ (Value.slice aoW n1 capW).ownBlock from fun e => by have := (HO11.out.lt _ e.symm).2; omega)
    have HR12 := Lib.hid hr12
    clear hg2 hr12 hb12 HO11 HBX11
    go_wp2
    go_loopw [66, 14] (fun i u ws => ∃ (k : Nat) (v : Value), k ≤ n2 ∧ v = u ∧ i = .int .i64 k ∧ ws.ownsRow w9.heap.size 3 1 v (n1 + k) ((wantL L1 L2 n1 (m1 : Int) k).map (Value.int .i64)) ∧ some g2 ≠ v.ownBlock ∧ RowIs ws g2 3 (iv L2 n2) ∧ Below w9.heap.size w9 ws) (fun i _ _ => n2 - (intOf i).toNat)
    case atStart => exact ⟨0, _, by omega, rfl, rfl, HO12.out, HNE.out, HR12.out, HBX12.out⟩
    case round =>
      clear HO12 HNE HR12 HBX12
      obtain ⟨k, v, hk, rfl, rfl, ho, hne, hr, hb⟩ := hrel
      obtain ⟨W1, rfl⟩ : ∃ W1 : World, W1 = wr := ⟨_, rfl⟩
      have HO := Lib.hid ho
      have HR := Lib.hid hr
      have HB := Lib.hid hb
      have HNE := Lib.hid hne
      by_cases hlt : k < n2
      · have c0 := hr.cell (iv_get L2 hlt)
        have l0 := HL2.out.nonneg k (by rw [← HN2.out]; exact hlt)
        have l1 := HL2.out.le k (by rw [← HN2.out]; exact hlt)
        have HW := Lib.hid (wantL_succ L1 L2 n1 (m1 : Int) k)
        obtain ⟨x, hx⟩ : ∃ x, x = L2 k := ⟨_, rfl⟩
        rw [← hx] at c0 l0 l1 HW
        have hgs : g2 < W1.heap.size := hr.lt
        have hbs : w9.heap.size ≤ W1.heap.size := hb.size
        clear hx ho hne hr hb
        go_wp2_with (at_builtin; refine wpList_append_lies _ rfl _ _ 34 rfl w9.heap.size 3 i0 (.int .i64 0) 1 8 (by kernel_rfl) hi hz0 hz1 hz2 rfl (by decide) _ _ _ rfl (HO.out.alloc _) ⟨W1.heap.size, 0, none⟩ 1 1 [.int .i64 ((m1 : Int) + x)] rfl rfl (World.news_of_block (heap_alloc_new W1 _)) (by intro u hu; simp at hu; subst hu; rfl) (by omega) ?_ ?_ ?_ _ rfl ?_)
        · unfold maxLen; omega
        · omega
        · simp; omega
        · intro g9 cap9 w13 hown hgrow hat _
          have HO13 := Lib.hid (show w13.ownsRow w9.heap.size 3 1 (.slice (some ⟨g9, 0, none⟩) (n1 + k + 1) cap9) (n1 + (k + 1)) ((wantL L1 L2 n1 (m1 : Int) (k + 1)).map (Value.int .i64)) from by rw [HW.out, List.map_append]; exact hown)
          have HNE13 := Lib.hid (off_at' (n := n1 + k + 1) (c := cap9) hat HNE.out (by omega))
          have HR13 := Lib.hid (RowIs.grown (HR.out.alloc _) hgrow HNE.out)
          have HB13 := Lib.hid ((HB.out.alloc hbs _).grown hgrow (by simp; omega) fun q hq => (HO.out.lt q hq).1)
          clear hown hgrow hat c0
          go_wp2
          go_roundw
          case rel => exact ⟨k + 1, _, by omega, rfl, by go_num, HO13.out, HNE13.out, HR13.out, HB13.out⟩
          case measure => simp [intOf]; omega
      · obtain rfl : k = n2 := by omega
        have hl : (wantL L1 L2 n1 (m1 : Int) k).length = n1 + k := wantL_length _ _ _ _ _
        obtain ⟨aoV, capV, rfl, hiW⟩ := owns_intsAt (xs := wantL L1 L2 n1 (m1 : Int) k) (by rw [hl]; exact ho)
        rw [hl]
        have HIW := Lib.hid hiW
        have HLW := Lib.hid hl
        clear ho hne hr hb hl hiW HO HNE HR
        go_wp2_with fail
        refine (of_L HSS.out HL3.out W1 p3 (HTA3'.out.mono (Nat.le_refl _) HB.out)).mono ?_
        rintro e w14 ⟨g3, rfl, -, hr14, hb14⟩
        rw [HLEN.out] at hr14 ⊢
        have HB14 := Lib.hid (below_more HB.out hb14 HB.out.size)
        have hIN := ints_any (some ⟨g3, 0, none⟩) aoV (n1 + k) capV (il (sideL L1 L2 T1.length (cnt L1 T1.length)) (n1 + k)) (wantL L1 L2 n1 (m1 : Int) k) w14 (by rw [il_length]; omega) hr14.ints (HIW.out.mono (Nat.le_refl _) hb14)
        rw [il_length, HLW.out] at hIN
        have heq : il (sideL L1 L2 T1.length (cnt L1 T1.length)) (n1 + k) = wantL L1 L2 n1 (m1 : Int) k := by
          rw [← HN1.out, HM1.out, ← HN1.out]
          exact wantL_full L1 L2 n1 k
        have HIN := Lib.hid hIN
        have HEQ := Lib.hid heq
        clear hr14 hb14 hIN heq HIW HLW
        go_wp2_with fail
        refine HIN.out.mono ?_
        rintro e w15 ⟨rfl, hb15⟩
        rw [HEQ.out]
        simp only [decide_true]
        have HB15 := Lib.hid (below_more HB14.out hb15 HB14.out.size)
        clear hb15 HIN HEQ
        go_wp2_with fail
        refine (count_L HSS.out HL3.out HM3.out w15 p3 (HTA3'.out.mono (Nat.le_refl _) HB15.out)).mono ?_
        rintro e w16 ⟨rfl, hb16⟩
        have HB16 := Lib.hid (below_more HB15.out hb16 HB15.out.size)
        clear hb16
        go_wp2_with fail
        refine (count_L HS2.out HL2.out HM2.out w16 p2 (HTA2'.out.mono (Nat.le_refl _) HB16.out)).mono ?_
        rintro e w17 ⟨rfl, hb17⟩
        have HB17 := Lib.hid (below_more HB9.out (below_more HB16.out hb17 HB16.out.size) HB9.out.size)
        clear hb17
        go_wp2
        exact bodyPost_ret (v := .bool true) (by simp [results, Try.results7, go_sem]) rfl ⟨rfl, HB17.out⟩
end Go.Proofs.Ytkggphfekeiejaa

/- gypsumlaw18.TreeCanon: the walk. -/
import Derived.Test.YtkjamheoihlekaaGreatAwake18a
import Derived.Test.YtkjamheoihlekaaGreatRefDual18
import Derived.Test.YtkjamheoihlekaaGreatCanonP18
namespace Go.Proofs.YtkjamheoihlekaaGreat
set_option linter.unusedVariables false
set_option linter.unusedSimpArgs false
open Go.RowKit
theorem rest_fewC {T : List Tr} {f : Nat} {D : List (Int × Int)} (hn : D.Nodup) (h : ∀ a, a ∈ D ↔ restB T (bfs T f) a) : D.length ≤ 3 * T.length := by
  have := hn.length_le_of_subset (l₂ := (List.range (3 * T.length)).map (ukey T)) fun a ha => by
    obtain ⟨⟨c, hc, -, rfl⟩, -⟩ := (h a).1 ha
    exact List.mem_map.2 ⟨c, List.mem_range.2 hc, rfl⟩
  simpa using this
theorem trisAt_nil18 (w : World) : TrisAt w none [] := fun h => absurd rfl h
theorem fit_zero : Surf 0 [] where
  n0 := by omega
  n1 := by omega
  t1 := by simp
  vin i hi := by simp at hi
  noloop i hi := by simp at hi
  tw b a hb := by simp at hb
  mir b a hb := by simp at hb
  used v h0 h1 := by omega
  pin v h0 h1 := by omega
theorem LRow.made {X : World} {g : Nat} {f : Nat → Int} {n : Nat} (h : RowIs X g 3 (iv f n)) : LRow X g f n := ⟨_, h, fun _ hi => iv_get f hi⟩
theorem LRow.congr' {X : World} {g : Nat} {f f' : Nat → Int} {n : Nat} (h : LRow X g f n) (e : ∀ i, i < n → f i = f' i) : LRow X g f' n := by
  obtain ⟨ys, h1, h2⟩ := h
  exact ⟨ys, h1, fun i hi => by rw [h2 i hi, e i hi]⟩
set_option maxRecDepth 100000 in
set_option maxHeartbeats 8000000 in
theorem treecanon_any (N : Int) (ao : Option Addr) (cap : Nat) (T : List Tr) (io : Option Addr) (ic : Nat) (I : List Int) (jo : Option Addr) (jc : Nat) (J : List Int) (from_ : Int) (w : World) (hT : TrisAt w ao T) (hm : T.length ≤ 9223372036854775807) (hI : IntsAt w io I) (_ : I.length ≤ 9223372036854775807) (_ : I.length ≤ ic) (hJ : IntsAt w jo J) (_ : J.length ≤ 9223372036854775807) (_ : J.length ≤ jc) (ht : 0 ≤ from_ ∧ from_ < 256) :
    Calls Tryz.prog 7 #[.agg #[.int .i64 N, .slice ao T.length cap], .slice io I.length ic, .slice jo J.length jc, .int .u8 from_] w fun e w' => e = .returned (.bool true) ∧ Below w.heap.size w w' := by
  obtain ⟨i0, hi, hz0, hz1, hz2⟩ := info_parts info3
  obtain ⟨xb, hxb⟩ : ∃ b, b = w.heap.size := ⟨_, rfl⟩
  obtain ⟨W0, hW0⟩ : ∃ W0, W0 = w.alloc (.cells #[.int .i64 N, .slice ao T.length cap] 24) := ⟨_, rfl⟩
  have hb0 : Below w.heap.size w W0 := by rw [hW0]; exact (Below.refl _ _).alloc (Nat.le_refl _) _
  have hr0 : RowIs W0 xb 24 [.int .i64 N, .slice ao T.length cap] := by rw [hW0, hxb]; exact RowIs.made w 24 [.int .i64 N, .slice ao T.length cap]
  have HAW := Lib.hid (awake18 W0)
  have HT := Lib.hid (hT.mono (Nat.le_refl _) hb0)
  have HI := Lib.hid (hI.mono (Nat.le_refl _) hb0)
  have HJ := Lib.hid (hJ.mono (Nat.le_refl _) hb0)
  have HR := Lib.hid hr0
  have HB0 := Lib.hid hb0
  have HW0 := Lib.hid hW0
  have HXB := Lib.hid hxb
  have HTF := Lib.hid ht
  obtain ⟨il, hil⟩ : ∃ l, l = I.length := ⟨_, rfl⟩
  obtain ⟨jl, hjl⟩ : ∃ l, l = J.length := ⟨_, rfl⟩
  have HIL := Lib.hid hil
  have HJL := Lib.hid hjl
  rw [← hil, ← hjl]
  clear hb0 hr0 hW0 hT hI hJ hxb ht hil hjl
  go_enter Tryz.func7, Tryz.ntmps7
  go_upto_region 1 with fail
  simp only [← HXB.out]
  rw [← HW0.out]
  go_wp2_with fail
  refine HAW.out.mono ?_
  rintro e w1 ⟨rfl, hb1⟩
  have hr1 := HR.out.after hb1
  have x0 := hr1.cell (i := 0) rfl
  have x1 := hr1.cell (i := 1) rfl
  have HB1 := Lib.hid hb1
  have HL := Lib.hid (laid_any N ao cap T w1 (HT.out.mono (Nat.le_refl _) hb1) hm)
  clear hb1 hr1 HAW
  go_wp2_with fail
  refine HL.out.mono ?_
  intro e w2 hpost
  rcases hpost with ⟨n, p, hN, rfl, hp, htab, hfst, hsurf, ht40, hn60, hb2⟩ | ⟨rfl, -, hb2⟩
  case inr =>
    have HF := Lib.hid (below_more HB0.out (below_more HB1.out hb2 HB1.out.size) HB0.out.size)
    clear hb2 x0 x1
    go_wp2
    exact bodyPost_ret (v := .bool true) (by simp [results, Tryz.results7, go_sem]) rfl ⟨rfl, HF.out⟩
  case inl =>
  subst hN
  have HB2 := Lib.hid (below_more HB1.out hb2 HB1.out.size)
  have hr2 := HR.out.after HB2.out
  have y0 := hr2.cell (i := 0) rfl
  have y1 := hr2.cell (i := 1) rfl
  obtain ⟨F, hF⟩ : ∃ F, F = T.length := ⟨_, rfl⟩
  have HF := Lib.hid hF
  have HS := Lib.hid hsurf
  have HTAB := Lib.hid htab
  have HFW := Lib.hid (show ∀ X, Below w2.heap.size w2 X → Below w.heap.size w X from fun X h => below_more HB0.out (below_more HB2.out h HB2.out.size) HB0.out.size)
  have HR2 := Lib.hid hr2
  have HT2 := Lib.hid (HT.out.mono (Nat.le_refl _) HB2.out)
  have HI2 := Lib.hid (HI.out.mono (Nat.le_refl _) HB2.out)
  have HJ2 := Lib.hid (HJ.out.mono (Nat.le_refl _) HB2.out)
  rw [← hF] at y1 HR2 ht40 hm
  rw [← hF]
  clear hb2 x0 x1 hr2 htab hfst hsurf HL hF hm
  by_cases hF0 : F = 0
  case pos =>
    have g0 : ((F : Int) == 0) = true := by simp; omega
    clear hF0
    go_wp2
    exact bodyPost_ret (v := .bool true) (by simp [results, Tryz.results7, go_sem]) rfl ⟨rfl, HFW.out _ (Below.refl _ _)⟩
  case neg =>
  have g0 : ((F : Int) == 0) = false := by simp; omega
  by_cases hjF : jl = F
  case neg =>
    have g1 : ((jl : Int) != (F : Int)) = true := by simp; omega
    clear hF0 hjF
    go_wp2
    exact bodyPost_ret (v := .bool true) (by simp [results, Tryz.results7, go_sem]) rfl ⟨rfl, HFW.out _ (Below.refl _ _)⟩
  case pos =>
  have g1 : ((jl : Int) != (F : Int)) = false := by simp; omega
  by_cases hi60 : il ≤ 60
  case neg =>
    have g2 : decide ((il : Int) > 60) = true := by simp; omega
    have g2' : decide ((60 : Int) < (il : Int)) = true := by simp; omega
    clear hF0 hjF hi60
    go_wp2
    exact bodyPost_ret (v := .bool true) (by simp [results, Tryz.results7, go_sem]) rfl ⟨rfl, HFW.out _ (Below.refl _ _)⟩
  case pos =>
  have g2 : decide ((il : Int) > 60) = false := by simp; omega
  have g2' : decide ((60 : Int) < (il : Int)) = false := by simp; omega
  obtain ⟨l3, hl3⟩ : ∃ l, l = 3 * F := ⟨_, rfl⟩
  have h3 : (3 : Int) * (F : Int) = (l3 : Int) := by omega
  have HL3 := Lib.hid hl3
  have hl120 : l3 ≤ 120 := by omega
  have HJF := Lib.hid hjF
  have hmk : ∀ ww : World, (Instr.makeSlice 28 (.int .i64 (l3 : Int)) (.int .i64 (l3 : Int))).run Tryz.prog ww = .ok (.slice (some ⟨ww.heap.size, 0, none⟩) l3 l3) (ww.alloc (.cells (iv (fun _ => 0) l3).toArray 3)) := fun ww => by
    have h := run_make (P := Tryz.prog) ww 28 3 i0 (.int .i64 0) (by kernel_rfl) hi hz0 .i64 .i64 (l3 : Int) (l3 : Int) (by omega) (by omega) (by rw [hz2]; omega) (by omega)
    have e : madeCells (Value.int .i64 0).cells ((l3 : Int).toNat * i0.size) = (iv (fun _ => 0) l3).toArray := by
      have h2 := madeCells_iv l3
      rw [← h2, hz1]
      simp [Value.cells]
    rw [e] at h
    exact h
  obtain ⟨pb, hpb⟩ : ∃ b, b = w2.heap.size := ⟨_, rfl⟩
  obtain ⟨W3, hW3⟩ : ∃ W3, W3 = w2.alloc (.cells (iv (fun _ => 0) l3).toArray 3) := ⟨_, rfl⟩
  have HP3 := Lib.hid (show RowIs W3 pb 3 (iv (fun _ => 0) l3) from by rw [hW3, hpb]; exact RowIs.made w2 3 (iv (fun _ => 0) l3))
  have HB3 := Lib.hid (show Below w2.heap.size w2 W3 from by rw [hW3]; exact (Below.refl _ _).alloc (Nat.le_refl _) _)
  have HPB := Lib.hid hpb
  have HW3 := Lib.hid hW3
  clear hi hz0 hz1 hz2 hl3 hpb hW3 hjF
  go_upto_region 7 with fail
  simp only [← HPB.out]
  rw [← HW3.out]
  clear hmk
  go_wp2
  go_loopw [62] (fun v ws => ∃ i : Nat, i ≤ l3 ∧ v = .int .i64 i ∧ Hid (LRow ws pb (fun c => if c < i then -1 else 0) l3 ∧ Below w2.heap.size w2 ws)) (fun v _ => l3 - (intOf v).toNat)
  case atStart => exact ⟨0, by omega, rfl, Lib.hid ⟨(LRow.made HP3.out).congr fun c => by simp, HB3.out⟩⟩
  case round =>
  clear HP3 HB3 y0 y1
  obtain ⟨i, hi, rfl, HST⟩ := hrel
  obtain ⟨X, rfl⟩ : ∃ X : World, X = wr := ⟨_, rfl⟩
  have HPW := Lib.hid (show w2.heap.size ≤ pb by rw [HPB.out]; exact Nat.le_refl _)
  by_cases hlt : i < l3
  case pos =>
    have d0 := HST.out.1.cell hlt
    rw [if_neg (by omega)] at d0
    have f0 := HST.out.1.free i
    have HNX := Lib.hid (show LRow (X.setCell ⟨pb, i, none⟩ (.int .i64 (-1))) pb (fun c => if c < i + 1 then -1 else 0) l3 ∧ Below w2.heap.size w2 (X.setCell ⟨pb, i, none⟩ (.int .i64 (-1))) from ⟨(HST.out.1.set i (-1)).congr fun c => by
      by_cases e : c = i
      · simp [e]
      · by_cases q : c < i
        · simp [e, q, show c < i + 1 by omega]
        · simp [e, q, show ¬ c < i + 1 by omega], HST.out.2.setCell (p := ⟨pb, i, none⟩) HPW.out _⟩)
    have bi : (0 : Int) ≤ (i : Int) ∧ (i : Int) < (l3 : Int) := by omega
    clear HST
    go_wp2
    go_roundw
    case rel => exact ⟨i + 1, by omega, by go_num, HNX⟩
    case measure => simp [intOf]; omega
  case neg =>
  obtain rfl : l3 = i := by omega
  obtain ⟨C, hC⟩ : ∃ C : Nat → Nat, C = fun k => (I! J k).toNat := ⟨_, rfl⟩
  have HC := Lib.hid hC
  have HP := Lib.hid (show LRow X pb (fun _ => -1) l3 ∧ Plc F C 0 (fun _ => -1) ∧ Below w2.heap.size w2 X ∧ ∀ k, k < 0 → 0 ≤ I! J k ∧ I! J k < (l3 : Int) from ⟨HST.out.1.congr' fun c hc => by rw [if_pos hc], Plc.start _ _, HST.out.2, fun k h => by omega⟩)
  clear HST hC
  go_wp2
  go_loopw [71] (fun v ws => ∃ (i : Nat) (pl : Nat → Int), i ≤ jl ∧ v = .int .i64 i ∧ Hid (LRow ws pb pl l3 ∧ Plc F C i pl ∧ Below w2.heap.size w2 ws ∧ ∀ k, k < i → 0 ≤ I! J k ∧ I! J k < (l3 : Int))) (fun v _ => jl - (intOf v).toNat)
  case atStart => exact ⟨0, _, by omega, rfl, HP⟩
  case round =>
  clear HP
  obtain ⟨i, pl, hi, rfl, HST⟩ := hrel
  obtain ⟨X, rfl⟩ : ∃ X : World, X = wr := ⟨_, rfl⟩
  have HBX := Lib.hid (HFW.out X HST.out.2.2.1)
  by_cases hlt : i < jl
  case pos =>
    obtain ⟨jb, joff, rfl, -, hjc⟩ := (HJ2.out.mono (Nat.le_refl _) HST.out.2.2.1) (by intro e; have := HJL.out; rw [e] at this; simp at this; omega)
    have c1 := hjc i (by rw [← HJL.out]; exact hlt)
    obtain ⟨v, hv⟩ : ∃ v, v = I! J i := ⟨_, rfl⟩
    rw [← hv] at c1
    have bi : (0 : Int) ≤ (i : Int) ∧ (i : Int) < (jl : Int) := by omega
    have hi40 : i ≤ 40 := by have := HJF.out; omega
    clear hjc
    by_cases hv0 : v < 0
    case pos =>
      have g4 : decide (v < 0) = true := by simpa using hv0
      clear hv0 hv
      go_wp2
      exact bodyPost_ret (v := .bool true) (by simp [results, Tryz.results7, go_sem]) rfl ⟨rfl, HBX.out⟩
    case neg =>
    have g4 : decide (v < 0) = false := by simpa using hv0
    by_cases hv3 : v < (l3 : Int)
    case neg =>
      have g5 : decide (v ≥ (l3 : Int)) = true := by simp; omega
      have g5' : decide ((l3 : Int) ≤ v) = true := by simp; omega
      clear hv0 hv hv3
      go_wp2
      exact bodyPost_ret (v := .bool true) (by simp [results, Tryz.results7, go_sem]) rfl ⟨rfl, HBX.out⟩
    case pos =>
    have g5 : decide (v ≥ (l3 : Int)) = false := by simp; omega
    have g5' : decide ((l3 : Int) ≤ v) = false := by simp; omega
    obtain ⟨x, rfl⟩ := Int.eq_ofNat_of_zero_le (show 0 ≤ v by omega)
    have hx3 : x < l3 := by omega
    have hCx : C i = x := by rw [HC.out]; simp [← hv]
    have k0 := HST.out.1.cell hx3
    obtain ⟨q, hq⟩ : ∃ q, q = pl x := ⟨_, rfl⟩
    rw [← hq] at k0
    by_cases hq0 : q < 0
    case neg =>
      have g6 : decide (q ≥ 0) = true := by simp; omega
      have g6' : decide (0 ≤ q) = true := by simp; omega
      clear hv0 hv hv3 hq hq0
      go_wp2
      exact bodyPost_ret (v := .bool true) (by simp [results, Tryz.results7, go_sem]) rfl ⟨rfl, HBX.out⟩
    case pos =>
    have g6 : decide (q ≥ 0) = false := by simp; omega
    have g6' : decide (0 ≤ q) = false := by simp; omega
    have hxF : x < 3 * T.length := by have := HL3.out; have := HF.out; omega
    have HTX := Lib.hid (HTAB.out.mono (Nat.le_refl _) HST.out.2.2.1)
    have HNX := Lib.hid (next_tab HTX.out x hxF)
    have HPV := Lib.hid (prev_tab HTX.out x hxF)
    obtain ⟨nx, hnx⟩ : ∃ m, m = nxn x := ⟨_, rfl⟩
    obtain ⟨px, hpx⟩ : ∃ m, m = pvn x := ⟨_, rfl⟩
    rw [← hnx] at HNX
    rw [← hpx] at HPV
    have hnl : nx < l3 := by have := nxn_lt hxF; have := HL3.out; have := HF.out; omega
    have hpl : px < l3 := by have := pvn_lt hxF; have := HL3.out; have := HF.out; omega
    have f0 := fun i => HST.out.1.free i
    have hs1 := HST.out.1.set x (3 * (i : Int))
    have hs2 := hs1.set nx (3 * (i : Int) + 1)
    have hs3 := hs2.set px (3 * (i : Int) + 2)
    have k1 := HST.out.1.cell hnl
    have k2 := HST.out.1.cell hpl
    have k1' := hs1.cell hnl
    have k2' := hs2.cell hpl
    have f1 := hs1.free nx
    have f2 := hs2.free px
    have fx := HST.out.1.free x
    have HN := Lib.hid (show LRow (((X.setCell ⟨pb, x, none⟩ (.int .i64 (3 * (i : Int)))).setCell ⟨pb, nx, none⟩ (.int .i64 (3 * (i : Int) + 1))).setCell ⟨pb, px, none⟩ (.int .i64 (3 * (i : Int) + 2))) pb (up3 pl x i) l3 ∧ Plc F C (i + 1) (up3 pl x i) ∧ Below w2.heap.size w2 (((X.setCell ⟨pb, x, none⟩ (.int .i64 (3 * (i : Int)))).setCell ⟨pb, nx, none⟩ (.int .i64 (3 * (i : Int) + 1))).setCell ⟨pb, px, none⟩ (.int .i64 (3 * (i : Int) + 2))) ∧ ∀ k, k < i + 1 → 0 ≤ I! J k ∧ I! J k < (l3 : Int) from by
      refine ⟨hs3.congr fun c => ?_, ?_, ((HST.out.2.2.1.setCell (p := ⟨pb, x, none⟩) HPW.out _).setCell (p := ⟨pb, nx, none⟩) HPW.out _).setCell (p := ⟨pb, px, none⟩) HPW.out _, fun k hk => ?_⟩
      · unfold up3
        rw [← hnx, ← hpx]
        push_cast
        rfl
      · rw [← hCx]
        exact HST.out.2.1.put (by rw [hCx, ← HL3.out]; exact hx3) (by rw [hCx, ← hq]; exact hq0)
      · by_cases e : k = i
        · rw [e, ← hv]; omega
        · exact HST.out.2.2.2 k (by omega))
    have bx : (0 : Int) ≤ (x : Int) ∧ (x : Int) < (l3 : Int) := by omega
    have bn : (0 : Int) ≤ (nx : Int) ∧ (nx : Int) < (l3 : Int) := by omega
    have bp : (0 : Int) ≤ (px : Int) ∧ (px : Int) < (l3 : Int) := by omega
    clear hv0 hv hv3 hq hq0 hCx hxF hnx hpx hs1 hs2 hs3 HST
    go_wp2_with fail
    refine HNX.out.mono ?_
    rintro e X3 ⟨rfl, rfl⟩
    go_wp2_with fail
    refine HPV.out.mono ?_
    rintro e X3 ⟨rfl, rfl⟩
    go_wp2
    go_roundw
    case rel => exact ⟨i + 1, _, by omega, by go_num, HN⟩
    case measure => simp [intOf]; omega
  case neg =>
  obtain rfl : jl = i := by omega
  have hrX := HR2.out.after HST.out.2.2.1
  have y0 := hrX.cell (i := 0) rfl
  have y1 := hrX.cell (i := 1) rfl
  have hPK := pick_ok n ao cap T jo jc J X HS.out.fit (HT2.out.mono (Nat.le_refl _) HST.out.2.2.1) (HJ2.out.mono (Nat.le_refl _) HST.out.2.2.1) (by have := HJL.out; have := HJF.out; omega)
  rw [← HF.out, ← HJL.out] at hPK
  have HPK := Lib.hid hPK
  have HRX := Lib.hid hrX
  have HJR := Lib.hid HST.out.2.2.2
  have HPLC := Lib.hid (show Plc F C F pl from by
    have h := HST.out.2.1
    rw [HJF.out] at h
    exact h)
  have HLR := Lib.hid HST.out.1
  have HBX2 := Lib.hid HST.out.2.2.1
  clear hrX hPK HST hi hlt
  go_wp2_with fail
  refine HPK.out.mono ?_
  rintro e w4 ⟨hb4, hpp⟩
  obtain ⟨P, hP⟩ : ∃ P, P = pickT T (J.map Int.toNat) := ⟨_, rfl⟩
  have hPl : P.length = jl := by rw [hP, pick_len, List.length_map, HJL.out]
  rcases hpp with ⟨r, -, -, q, hq, hbad⟩ | ⟨a4, c4, rfl, ho4, hC4⟩
  · exfalso
    have h1 := HJR.out q (by rw [HJL.out]; exact hq)
    have := HL3.out
    have := HF.out
    omega
  rw [← hP, ← HJL.out] at ho4
  rw [← HJL.out]
  have hTP : TrisAt w4 a4 P := by
    obtain ⟨a', c', e, h⟩ := owns_tris (L := P) (by rw [hPl]; exact ho4)
    rw [hPl] at e
    simp only [Value.slice.injEq] at e
    rw [e.1]; exact h
  obtain ⟨g4, hg4⟩ : ∃ g, g = w4.heap.size := ⟨_, rfl⟩
  obtain ⟨W4, hW4⟩ : ∃ W, W = w4.alloc (.cells #[.int .i64 (n : Int), .slice a4 jl c4] 24) := ⟨_, rfl⟩
  have hb44 : Below w4.heap.size w4 W4 := by rw [hW4]; exact (Below.refl _ _).alloc (Nat.le_refl _) _
  have hr4 : RowIs W4 g4 24 [.int .i64 (n : Int), .slice a4 jl c4] := by rw [hW4, hg4]; exact RowIs.made w4 24 [.int .i64 (n : Int), .slice a4 jl c4]
  have HBX4 := Lib.hid (show Below X.heap.size X W4 from below_more hb4 hb44 hb4.size)
  have hTP4 := hTP.mono (Nat.le_refl _) hb44
  have hI4 := HI2.out.mono (Nat.le_refl _) (below_more HBX2.out HBX4.out HBX2.out.size)
  have hFP : FitS n P := by
    rw [hP]
    exact pick_fit HS.out hC4 (by rw [List.length_map]; have := HJL.out; have := HJF.out; omega)
  have hRN := rename_ok n a4 c4 P io ic I W4 hFP hTP4 hI4 (by have := HIL.out; omega)
  rw [hPl, ← HIL.out] at hRN
  have HRN := Lib.hid hRN
  have z0 := hr4.cell (i := 0) rfl
  have z1 := hr4.cell (i := 1) rfl
  have HP := Lib.hid hP
  have HPL := Lib.hid hPl
  have HG4 := Lib.hid hg4
  have HW4 := Lib.hid hW4
  clear hb4 ho4 hC4 hTP hb44 hr4 hTP4 hI4 hFP hRN hP hPl hg4 hW4 y0 y1 HPK
  go_upto_region 20 with fail
  rw [← HW4.out]
  simp only [← HG4.out]
  go_wp2_with fail
  refine HRN.out.mono ?_
  rintro e w5 ⟨hb5, hrn⟩
  have HBX5 := Lib.hid (below_more HBX4.out hb5 HBX4.out.size)
  rcases hrn with ⟨r, hr0, rfl⟩ | ⟨a5, c5, rfl, ho5, hnm, hin⟩
  case inl =>
    obtain ⟨g5, hg5⟩ : ∃ g, g = w5.heap.size := ⟨_, rfl⟩
    obtain ⟨W5, hW5⟩ : ∃ W, W = w5.alloc (.cells #[.int .i64 0, .slice none 0 0] 24) := ⟨_, rfl⟩
    have hb55 : Below w5.heap.size w5 W5 := by rw [hW5]; exact (Below.refl _ _).alloc (Nat.le_refl _) _
    have hr5 : RowIs W5 g5 24 [.int .i64 0, .slice none 0 0] := by rw [hW5, hg5]; exact RowIs.made w5 24 [.int .i64 0, .slice none 0 0]
    have HB55 := Lib.hid (below_more HBX5.out hb55 HBX5.out.size)
    have hNW := new_ok 0 none 0 [] W5 (trisAt_nil18 W5) fit_zero
    simp only [List.length_nil] at hNW
    have HNW := Lib.hid hNW
    have u0 := hr5.cell (i := 0) rfl
    have u1 := hr5.cell (i := 1) rfl
    have HG5 := Lib.hid hg5
    have HW5 := Lib.hid hW5
    have gr : (r != 0) = true := by simpa using hr0
    clear hb5 hb55 hr5 hNW hg5 hW5 z0 z1 HRN hr0
    go_upto_region 21 with fail
    rw [← HW5.out]
    simp only [← HG5.out]
    go_wp2_with fail
    refine HNW.out.mono ?_
    rintro e w6 ⟨p6, rfl, -, -, hb6⟩
    have HB6 := Lib.hid (show ∀ o, Below w.heap.size w (w6.alloc o) from fun o => by
      have h1 := below_more HB55.out hb6 HB55.out.size
      exact HFW.out _ (below_more HBX2.out (h1.alloc h1.size o) HBX2.out.size))
    clear hb6 u0 u1
    go_wp2
    exact bodyPost_ret (v := .bool true) (by simp [results, Tryz.results7, go_sem]) rfl ⟨rfl, HB6.out _⟩
  case inr =>
  rw [HPL.out] at ho5 ⊢
  obtain ⟨U, hU⟩ : ∃ U, U = rnT (toI I) P := ⟨_, rfl⟩
  have hUl : U.length = jl := by rw [hU, rnT_len, HPL.out]
  rw [← hU] at ho5
  have hTU : TrisAt w5 a5 U := by
    obtain ⟨a', c', e, h⟩ := owns_tris (L := U) (by rw [hUl]; exact ho5)
    rw [hUl] at e
    simp only [Value.slice.injEq] at e
    rw [e.1]; exact h
  obtain ⟨g5, hg5⟩ : ∃ g, g = w5.heap.size := ⟨_, rfl⟩
  obtain ⟨W5, hW5⟩ : ∃ W, W = w5.alloc (.cells #[.int .i64 (n : Int), .slice a5 jl c5] 24) := ⟨_, rfl⟩
  have hb55 : Below w5.heap.size w5 W5 := by rw [hW5]; exact (Below.refl _ _).alloc (Nat.le_refl _) _
  have hr5 : RowIs W5 g5 24 [.int .i64 (n : Int), .slice a5 jl c5] := by rw [hW5, hg5]; exact RowIs.made w5 24 [.int .i64 (n : Int), .slice a5 jl c5]
  have HB55 := Lib.hid (below_more HBX5.out hb55 HBX5.out.size)
  have HTU := Lib.hid (hTU.mono (Nat.le_refl _) hb55)
  have HU := Lib.hid hU
  have HUL := Lib.hid hUl
  have HNM := Lib.hid hnm
  have HIN := Lib.hid (show il = n by rw [HIL.out]; exact hin)
  have HG5 := Lib.hid hg5
  have HW5 := Lib.hid hW5
  have u0 := hr5.cell (i := 0) rfl
  have u1 := hr5.cell (i := 1) rfl
  clear hb5 ho5 hnm hin hTU hb55 hr5 hU hUl hg5 hW5 z0 z1 HRN
  by_cases hsU : Surf n U
  case neg =>
    have hNW := new_none n a5 c5 U W5 HTU.out (by rw [HUL.out]; have := HJF.out; omega) hsU
    rw [HUL.out] at hNW
    have HNW := Lib.hid hNW
    clear hNW hsU
    go_upto_region 21 with fail
    rw [← HW5.out]
    simp only [← HG5.out]
    go_wp2_with fail
    refine HNW.out.mono ?_
    rintro e w6 ⟨k6, a6, b6, rfl, -, -, hb6⟩
    have HB6 := Lib.hid (show ∀ o, Below w.heap.size w (w6.alloc o) from fun o => by
      have h1 := below_more HB55.out hb6 HB55.out.size
      exact HFW.out _ (below_more HBX2.out (h1.alloc h1.size o) HBX2.out.size))
    clear hb6 u0 u1
    go_wp2
    exact bodyPost_ret (v := .bool true) (by simp [results, Tryz.results7, go_sem]) rfl ⟨rfl, HB6.out _⟩
  case pos =>
  have hNW := new_ok n a5 c5 U W5 HTU.out hsU
  rw [HUL.out] at hNW
  have HNW := Lib.hid hNW
  have HSU := Lib.hid hsU
  clear hNW hsU
  go_upto_region 21 with fail
  rw [← HW5.out]
  simp only [← HG5.out]
  go_wp2_with fail
  refine HNW.out.mono ?_
  rintro e w6 ⟨p6, rfl, -, htab6, hb6⟩
  obtain ⟨g6, hg6⟩ : ∃ g, g = w6.heap.size := ⟨_, rfl⟩
  obtain ⟨W6, hW6⟩ : ∃ W, W = w6.alloc (.cells #[.int .i64 0, .int .i64 0, .int .i64 0] 55) := ⟨_, rfl⟩
  have hb66 : Below w6.heap.size w6 W6 := by rw [hW6]; exact (Below.refl _ _).alloc (Nat.le_refl _) _
  have HB66 := Lib.hid (below_more HB55.out (below_more hb6 hb66 hb6.size) HB55.out.size)
  have HTABU := Lib.hid (htab6.mono (Nat.le_refl _) hb66)
  have HTABT := Lib.hid (HTAB.out.mono (Nat.le_refl _) (below_more HBX2.out HB66.out HBX2.out.size))
  have HL6 := Lib.hid (HLR.out.after HB66.out)
  have HR6 := Lib.hid (HRX.out.after HB66.out)
  have HI6 := Lib.hid (HI2.out.mono (Nat.le_refl _) (below_more HBX2.out HB66.out HBX2.out.size))
  have HW66 := Lib.hid (show ∀ Z, Below W6.heap.size W6 Z → Below w.heap.size w Z from fun Z h => HFW.out _ (below_more HBX2.out (below_more HB66.out h HB66.out.size) HBX2.out.size))
  have HG6 := Lib.hid hg6
  have HW6 := Lib.hid hW6
  obtain ⟨f, hf⟩ : ∃ k : Nat, from_ % (l3 : Int) = (k : Int) := ⟨(from_ % (l3 : Int)).toNat, by have := Int.emod_nonneg from_ (b := (l3 : Int)) (by omega); omega⟩
  have hfn : f < l3 := by have := Int.emod_lt_of_pos from_ (b := (l3 : Int)) (by omega); omega
  have hf2 : from_.tmod (l3 : Int) = (f : Int) := by rw [Int.tmod_eq_emod_of_nonneg HTF.out.1]; exact hf
  have n0 : (l3 : Int) ≠ 0 := by omega
  have hwt : IntKind.i64.wrap from_ = from_ := IntWalk.i64_in _ (by have := HTF.out; omega)
  have hwl : IntKind.i64.wrap (l3 : Int) = (l3 : Int) := IntWalk.i64_in _ (by omega)
  have hwf : IntKind.i64.wrap (f : Int) = (f : Int) := IntWalk.i64_in _ (by omega)
  have HCN := Lib.hid (show Canon18 n T U (fun c => (pl c).toNat) (toI I) from by
    have hUU : U = rnT (toI I) (pickT T (J.map Int.toNat)) := by rw [HU.out, HP.out]
    rw [hUU]
    exact HPLC.out.canon HF.out (by rw [← HJL.out, HJF.out]) (fun k _ => by rw [HC.out]) HS.out HNM.out (by rw [← hUU]; exact HSU.out))
  have HPLL := Lib.hid (show ∀ c, c < l3 → pl c = (((pl c).toNat : Nat) : Int) ∧ (pl c).toNat < l3 from fun c hc => by
    have := HPLC.out.place (c := c) (by have := HL3.out; omega)
    have := HL3.out
    omega)
  have HFF := Lib.hid (show f < 3 * T.length from by have := HF.out; have := HL3.out; omega)
  have ULF : U.length = F := by rw [HUL.out, HJF.out]
  obtain ⟨v, hv⟩ : ∃ v, v = (pl f).toNat := ⟨_, rfl⟩
  have hv2 : pl f = (v : Int) := by rw [hv]; exact (HPLL.out f hfn).1
  have hvl : v < l3 := by rw [hv]; exact (HPLL.out f hfn).2
  have HV := Lib.hid hv
  have HULF := Lib.hid ULF
  have HFN := Lib.hid hfn
  have HVF := Lib.hid (show ∀ Z, Hid (Below W6.heap.size W6 Z) → Z.cell? ⟨pb, f, none⟩ = some (.int .i64 (v : Int)) from fun Z h => by
    have := (HL6.out.after h.out).cell hfn
    rw [hv2] at this
    exact this)
  have HDA := Lib.hid (show ∀ Z, Hid (Below W6.heap.size W6 Z) → Calls Tryz.prog 15 #[.pointer (some ⟨p, 0, none⟩), .int .i64 f] Z fun e w' => ∃ gl, e = .returned (.slice (some ⟨gl, 0, none⟩) F F) ∧ Hid (LRow w' gl (bfs T f).l F) ∧ Hid (Below W6.heap.size W6 w') from fun Z h => by
    refine (dual_ok p n T f Z (HTABT.out.mono (Nat.le_refl _) h.out) HS.out HFF.out).mono ?_
    rintro e w' ⟨gl, rfl, hr, hb⟩
    rw [← HF.out] at hr ⊢
    exact ⟨gl, rfl, Lib.hid (LRow.made hr), Lib.hid (below_more h.out hb h.out.size)⟩)
  have HDB := Lib.hid (show ∀ Z, Hid (Below W6.heap.size W6 Z) → Calls Tryz.prog 15 #[.pointer (some ⟨p6, 0, none⟩), .int .i64 v] Z fun e w' => ∃ gl, e = .returned (.slice (some ⟨gl, 0, none⟩) F F) ∧ Hid (LRow w' gl (bfs U v).l F ∧ Below Z.heap.size Z w') ∧ Hid (Below W6.heap.size W6 w') from fun Z h => by
    refine (dual_ok p6 n U v Z (HTABU.out.mono (Nat.le_refl _) h.out) HSU.out (by rw [HULF.out, ← HL3.out]; exact hvl)).mono ?_
    rintro e w' ⟨gl, rfl, hr, hb⟩
    rw [HULF.out] at hr ⊢
    exact ⟨gl, rfl, Lib.hid ⟨LRow.made hr, hb⟩, Lib.hid (below_more h.out hb h.out.size)⟩)
  have bf : (0 : Int) ≤ (f : Int) ∧ (f : Int) < (l3 : Int) := by omega
  clear hb6 htab6 hb66 hg6 hW6 hf hv hv2 u0 u1 HNW hvl ULF
  go_upto_region 25 with fail
  rw [← HW6.out]
  simp only [← HG6.out]
  refine wp_region_held_drew (S := (fun w' => w'.cell? ⟨pb, f, none⟩ = some (.int .i64 (v : Int)))) (by kernel_rfl) ?_ (fun hHeld0 => ?_)
  · ((try dsimp only); first | exact HVF.out _ (by assumption) | exact HVF.out _ (Lib.hid ((Below.refl _ _).drew)))
  refine wpAnyH_take (i := 0) (v := ?_) rfl (by kernel_rfl) (by kernel_rfl) (by kernel_rfl) (fun _ _ _ h => h) (Or.inl ⟨by rfl, ?_⟩) (by assumption) ?_
  rotate_left
  · (intro w hSw; (try dsimp only at hSw); go_simp; try with_reducible rfl)
  try simp only [List.getElem_toArray, List.getElem_cons_succ, List.getElem_cons_zero, Act.put, List.setIfInBounds_toArray, List.set_cons_zero, List.set_cons_succ]
  refine wpAnyH_take (i := 1) (v := ?_) rfl (by kernel_rfl) (by kernel_rfl) (by kernel_rfl) (fun _ _ _ h => h) (Or.inl ⟨by rfl, ?_⟩) (by assumption) ?_
  rotate_left
  · (intro w hSw; (try dsimp only at hSw); go_simp; try with_reducible rfl)
  try simp only [List.getElem_toArray, List.getElem_cons_succ, List.getElem_cons_zero, Act.put, List.setIfInBounds_toArray, List.set_cons_zero, List.set_cons_succ]
  refine wpAnyH_take (i := 3) (v := ?_) rfl (by kernel_rfl) (by kernel_rfl) (by kernel_rfl) (fun _ _ _ h => h) (Or.inl ⟨by rfl, ?_⟩) (by assumption) ?_
  rotate_left
  · (intro w hSw; (try dsimp only at hSw); go_simp; try with_reducible rfl)
  try simp only [List.getElem_toArray, List.getElem_cons_succ, List.getElem_cons_zero, Act.put, List.setIfInBounds_toArray, List.set_cons_zero, List.set_cons_succ]
  refine wpAnyH_take (i := 4) (v := ?_) rfl (by kernel_rfl) (by kernel_rfl) (by kernel_rfl) (fun _ _ _ h => h) (Or.inl ⟨by rfl, ?_⟩) (by assumption) ?_
  rotate_left
  · (intro w hSw; (try dsimp only at hSw); go_simp; try with_reducible rfl)
  try simp only [List.getElem_toArray, List.getElem_cons_succ, List.getElem_cons_zero, Act.put, List.setIfInBounds_toArray, List.set_cons_zero, List.set_cons_succ]
  refine wpAnyH_take (i := 5) (v := ?_) rfl (by kernel_rfl) (by kernel_rfl) (by kernel_rfl) (fun _ _ _ h => h) (Or.inl ⟨by rfl, ?_⟩) (by assumption) ?_
  rotate_left
  · (intro w hSw; (try dsimp only at hSw); go_simp; try with_reducible rfl)
  try simp only [List.getElem_toArray, List.getElem_cons_succ, List.getElem_cons_zero, Act.put, List.setIfInBounds_toArray, List.set_cons_zero, List.set_cons_succ]
  refine wpAnyH_take (i := 6) (v := ?_) rfl (by kernel_rfl) (by kernel_rfl) (by kernel_rfl) (fun _ _ _ h => h) (Or.inl ⟨by rfl, ?_⟩) (by assumption) ?_
  rotate_left
  · (intro w hSw; (try dsimp only at hSw); go_simp; try with_reducible rfl)
  try simp only [List.getElem_toArray, List.getElem_cons_succ, List.getElem_cons_zero, Act.put, List.setIfInBounds_toArray, List.set_cons_zero, List.set_cons_succ]
  refine wpAnyH_take (i := 7) (v := ?_) rfl (by kernel_rfl) (by kernel_rfl) (by kernel_rfl) (fun _ _ _ h => h) (Or.inl ⟨by rfl, ?_⟩) (by assumption) ?_
  rotate_left
  · (intro w hSw; (try dsimp only at hSw); go_simp; try with_reducible rfl)
  try simp only [List.getElem_toArray, List.getElem_cons_succ, List.getElem_cons_zero, Act.put, List.setIfInBounds_toArray, List.set_cons_zero, List.set_cons_succ]
  refine wpAnyH_ready (rs := [2]) (by kernel_rfl) (by simp) ?_
  refine AllReadyH.cons rfl (fun K hK => ?_) AllReadyH.nil
  go_simp
  go_wp2_with ((go_at_call 15; (with_reducible refine (HDA.out _ (by first | assumption | exact Lib.hid ((Below.refl _ _).drew))).mono ?_); rintro e w8 ⟨ga, rfl, hla, hb8⟩))
  refine hK.out _ _ ?_ (fun hHeld1 => ?_)
  · ((try dsimp only); first | exact HVF.out _ (by assumption) | exact HVF.out _ (Lib.hid ((Below.refl _ _).drew)))
  clear hK K hHeld0
  refine wpAnyH_ready (rs := [8]) (by kernel_rfl) (by simp) ?_
  refine AllReadyH.cons rfl (fun K hK => ?_) AllReadyH.nil
  go_simp
  go_wp2_with ((go_at_call 15; (with_reducible refine (HDB.out _ (by assumption)).mono ?_); rintro e w9 ⟨gb, rfl, hlb, hb9⟩))
  refine hK.out _ _ ?_ (fun hHeld2 => ?_)
  · ((try dsimp only); first | exact HVF.out _ (by assumption) | exact HVF.out _ (Lib.hid ((Below.refl _ _).drew)))
  clear hK K hHeld1
  refine wpAnyH_take (i := 9) (v := ?_) rfl (by kernel_rfl) (by kernel_rfl) (by kernel_rfl) (fun _ _ _ h => h) (Or.inl ⟨by rfl, ?_⟩) (by assumption) ?_
  rotate_left
  · (intro w hSw; (try dsimp only at hSw); go_simp; try with_reducible rfl)
  try simp only [List.getElem_toArray, List.getElem_cons_succ, List.getElem_cons_zero, Act.put, List.setIfInBounds_toArray, List.set_cons_zero, List.set_cons_succ]
  refine wpAnyH_take (i := 10) (v := ?_) rfl (by kernel_rfl) (by kernel_rfl) (by kernel_rfl) (fun _ _ _ h => h) (Or.inl ⟨by rfl, ?_⟩) (by assumption) ?_
  rotate_left
  · (intro w hSw; (try dsimp only at hSw); go_simp; try with_reducible rfl)
  try simp only [List.getElem_toArray, List.getElem_cons_succ, List.getElem_cons_zero, Act.put, List.setIfInBounds_toArray, List.set_cons_zero, List.set_cons_succ]
  refine wpAnyH_done (by kernel_rfl) ?_ _
  clear hHeld2
  obtain ⟨V, rfl⟩ : ∃ V : World, V = w9 := ⟨_, rfl⟩
  have HA := Lib.hid (show LRow V ga (bfs T f).l F ∧ LRow V gb (bfs U v).l F ∧ Below W6.heap.size W6 V from ⟨hla.out.after hlb.out.2, hlb.out.1, hb9.out⟩)
  clear hla hlb hb8 hb9
  have s0 := (HR6.out.after HA.out.2.2).cell (i := 0) rfl
  have s1 := (HR6.out.after HA.out.2.2).cell (i := 1) rfl
  have g7 : ((F : Int) != (F : Int)) = false := by simp
  go_wp2
  clear s0 s1
  go_loopw [170] (fun x ws => ∃ i : Nat, i ≤ F ∧ x = .int .i64 i ∧ Hid (Below V.heap.size V ws)) (fun x _ => F - (intOf x).toNat)
  case atStart => exact ⟨0, by omega, rfl, Lib.hid (Below.refl _ _)⟩
  case round =>
  obtain ⟨i, hi, rfl, HBV⟩ := hrel
  obtain ⟨Y, rfl⟩ : ∃ X : World, X = wr := ⟨_, rfl⟩
  have HBY := Lib.hid (below_more HA.out.2.2 HBV.out HA.out.2.2.size)
  by_cases hlt : i < F
  case pos =>
    have k1 := (HA.out.1.after HBV.out).cell hlt
    obtain ⟨i3, hi3⟩ : ∃ q, q = 3 * i := ⟨_, rfl⟩
    have e3 : (3 : Int) * (i : Int) = (i3 : Int) := by omega
    have h3i : i3 < l3 := by have := HL3.out; omega
    have k2 := (HL6.out.after HBY.out).cell h3i
    obtain ⟨z, hz⟩ : ∃ z, z = (pl i3).toNat := ⟨_, rfl⟩
    have hz2 : pl i3 = (z : Int) := by rw [hz]; exact (HPLL.out _ h3i).1
    have hzl : z < l3 := by rw [hz]; exact (HPLL.out _ h3i).2
    rw [hz2] at k2
    obtain ⟨z3, hz3⟩ : ∃ q, q = z / 3 := ⟨_, rfl⟩
    have q3 : (z : Int) / 3 = (z3 : Int) := by omega
    have q3' : (z : Int).tdiv 3 = (z3 : Int) := by rw [Int.tdiv_eq_ediv_of_nonneg (by omega)]; exact q3
    have hz3F : z3 < F := by have := HL3.out; omega
    have k3 := (HA.out.2.1.after HBV.out).cell hz3F
    have hrl : ((bfs T f).l i = -1 ∧ (bfs U v).l z3 = -1) ∨ ∃ c : Nat, (bfs T f).l i = c ∧ c < 3 * T.length ∧ (bfs U v).l z3 = (((pl c).toNat : Nat) : Int) := by
      have h := (HCN.out.bf HFF.out).2 i (by rw [← HF.out]; exact hlt)
      have htau : tau (fun c => (pl c).toNat) i = z3 := by unfold tau; rw [hz3, hz, hi3]
      rw [htau] at h
      rw [HV.out]
      exact h
    have bi : (0 : Int) ≤ (i : Int) ∧ (i : Int) < (F : Int) := by omega
    have bi3 : (0 : Int) ≤ (i3 : Int) ∧ (i3 : Int) < (l3 : Int) := by omega
    have bz3 : (0 : Int) ≤ (z3 : Int) ∧ (z3 : Int) < (F : Int) := by omega
    have HQN := Lib.hid (show ∀ q, Below V.heap.size V (Y.drewN q) from fun q => below_drewN HBV.out q)
    rcases hrl with ⟨l1, l2⟩ | ⟨c, l1, l2, l3'⟩
    · rw [l1] at k1
      rw [l2] at k3
      have ga1 : decide ((-1 : Int) < 0) = true := by decide
      have ga2 : ((-1 : Int) != -1) = false := by decide
      have ga3 : decide ((-1 : Int) ≥ 0) = false := by decide
      clear l1 l2 hz hz2 hz3 hi3 HBV HBY
      go_wp2
      go_quiet (fail)
      rename_i nq
      have HQ := Lib.hid (HQN.out nq)
      go_wp2
      go_roundw
      case rel => exact ⟨i + 1, by omega, by go_num, HQ⟩
      case measure => simp [intOf]; omega
    · have hcl : c < l3 := by have := HL3.out; have := HF.out; omega
      have k4 := (HL6.out.after HBY.out).cell hcl
      obtain ⟨y, hy⟩ : ∃ y, y = (pl c).toNat := ⟨_, rfl⟩
      rw [(HPLL.out c hcl).1, ← hy] at k4
      rw [l1] at k1
      rw [l3', ← hy] at k3
      have bc : (0 : Int) ≤ (c : Int) ∧ (c : Int) < (l3 : Int) := by omega
      have ga1 : decide ((c : Int) < 0) = false := by simp
      have ga3 : decide ((c : Int) ≥ 0) = true := by simp
      have ga2 : ((y : Int) != (y : Int)) = false := by simp
      clear l1 l2 l3' hz hz2 hz3 hi3 hy HBV HBY
      go_wp2
      go_quiet (fail)
      rename_i nq
      have HQ := Lib.hid (HQN.out nq)
      go_wp2
      go_roundw
      case rel => exact ⟨i + 1, by omega, by go_num, HQ⟩
      case measure => simp [intOf]; omega
  case neg =>
  obtain rfl : F = i := by omega
  have HVF2 := Lib.hid (show ∀ Z, Hid (Below Y.heap.size Y Z) → Z.cell? ⟨pb, f, none⟩ = some (.int .i64 (v : Int)) from fun Z h => HVF.out Z (Lib.hid (below_more HBY.out h.out HBY.out.size)))
  have HRA := Lib.hid (show ∀ Z, Hid (Below Y.heap.size Y Z) → Calls Tryz.prog 17 #[.pointer (some ⟨p, 0, none⟩), .int .i64 f] Z fun e w' => ∃ la lc D, e = .returned (.slice la (D : List (Int × Int)).length lc) ∧ Hid (D.Nodup ∧ (∀ a, a ∈ D ↔ restB T (bfs T f) a) ∧ EdgesAt w' la (sortP D)) ∧ Hid (Below Y.heap.size Y w') from fun Z h => by
    refine (rest_ok p n T f Z (HTABT.out.mono (Nat.le_refl _) (below_more HBY.out h.out HBY.out.size)) HS.out HFF.out).mono ?_
    rintro e w' ⟨la, lc, D, ⟨q1, q2⟩, rfl, q3, hb⟩
    exact ⟨la, lc, D, rfl, Lib.hid ⟨q1, q2, q3⟩, Lib.hid (below_more h.out hb h.out.size)⟩)
  have HRB := Lib.hid (show ∀ Z, Hid (Below Y.heap.size Y Z) → Calls Tryz.prog 17 #[.pointer (some ⟨p6, 0, none⟩), .int .i64 v] Z fun e w' => ∃ la lc D, e = .returned (.slice la (D : List (Int × Int)).length lc) ∧ Hid (D.Nodup ∧ (∀ a, a ∈ D ↔ restB U (bfs U v) a) ∧ EdgesAt w' la (sortP D) ∧ Below Z.heap.size Z w') ∧ Hid (Below Y.heap.size Y w') from fun Z h => by
    refine (rest_ok p6 n U v Z (HTABU.out.mono (Nat.le_refl _) (below_more HBY.out h.out HBY.out.size)) HSU.out (by rw [HULF.out, ← HL3.out, HV.out]; exact (HPLL.out f hfn).2)).mono ?_
    rintro e w' ⟨la, lc, D, ⟨q1, q2⟩, rfl, q3, hb⟩
    exact ⟨la, lc, D, rfl, Lib.hid ⟨q1, q2, q3, hb⟩, Lib.hid (below_more h.out hb h.out.size)⟩)
  clear HBV HA HDA HDB HVF
  go_upto_region 35 with fail
  refine wp_region_held_drew (S := (fun w' => w'.cell? ⟨pb, f, none⟩ = some (.int .i64 (v : Int)))) (by kernel_rfl) ?_ (fun hHeld0 => ?_)
  · ((try dsimp only); first | exact HVF2.out _ (by assumption) | exact HVF2.out _ (Lib.hid ((Below.refl _ _).drew)))
  refine wpAnyH_take (i := 0) (v := ?_) rfl (by kernel_rfl) (by kernel_rfl) (by kernel_rfl) (fun _ _ _ h => h) (Or.inl ⟨by rfl, ?_⟩) (by assumption) ?_
  rotate_left
  · (intro w hSw; (try dsimp only at hSw); go_simp; try with_reducible rfl)
  try simp only [List.getElem_toArray, List.getElem_cons_succ, List.getElem_cons_zero, Act.put, List.setIfInBounds_toArray, List.set_cons_zero, List.set_cons_succ]
  refine wpAnyH_take (i := 1) (v := ?_) rfl (by kernel_rfl) (by kernel_rfl) (by kernel_rfl) (fun _ _ _ h => h) (Or.inl ⟨by rfl, ?_⟩) (by assumption) ?_
  rotate_left
  · (intro w hSw; (try dsimp only at hSw); go_simp; try with_reducible rfl)
  try simp only [List.getElem_toArray, List.getElem_cons_succ, List.getElem_cons_zero, Act.put, List.setIfInBounds_toArray, List.set_cons_zero, List.set_cons_succ]
  refine wpAnyH_take (i := 3) (v := ?_) rfl (by kernel_rfl) (by kernel_rfl) (by kernel_rfl) (fun _ _ _ h => h) (Or.inl ⟨by rfl, ?_⟩) (by assumption) ?_
  rotate_left
  · (intro w hSw; (try dsimp only at hSw); go_simp; try with_reducible rfl)
  try simp only [List.getElem_toArray, List.getElem_cons_succ, List.getElem_cons_zero, Act.put, List.setIfInBounds_toArray, List.set_cons_zero, List.set_cons_succ]
  refine wpAnyH_take (i := 4) (v := ?_) rfl (by kernel_rfl) (by kernel_rfl) (by kernel_rfl) (fun _ _ _ h => h) (Or.inl ⟨by rfl, ?_⟩) (by assumption) ?_
  rotate_left
  · (intro w hSw; (try dsimp only at hSw); go_simp; try with_reducible rfl)
  try simp only [List.getElem_toArray, List.getElem_cons_succ, List.getElem_cons_zero, Act.put, List.setIfInBounds_toArray, List.set_cons_zero, List.set_cons_succ]
  refine wpAnyH_take (i := 5) (v := ?_) rfl (by kernel_rfl) (by kernel_rfl) (by kernel_rfl) (fun _ _ _ h => h) (Or.inl ⟨by rfl, ?_⟩) (by assumption) ?_
  rotate_left
  · (intro w hSw; (try dsimp only at hSw); go_simp; try with_reducible rfl)
  try simp only [List.getElem_toArray, List.getElem_cons_succ, List.getElem_cons_zero, Act.put, List.setIfInBounds_toArray, List.set_cons_zero, List.set_cons_succ]
  refine wpAnyH_take (i := 6) (v := ?_) rfl (by kernel_rfl) (by kernel_rfl) (by kernel_rfl) (fun _ _ _ h => h) (Or.inl ⟨by rfl, ?_⟩) (by assumption) ?_
  rotate_left
  · (intro w hSw; (try dsimp only at hSw); go_simp; try with_reducible rfl)
  try simp only [List.getElem_toArray, List.getElem_cons_succ, List.getElem_cons_zero, Act.put, List.setIfInBounds_toArray, List.set_cons_zero, List.set_cons_succ]
  refine wpAnyH_take (i := 7) (v := ?_) rfl (by kernel_rfl) (by kernel_rfl) (by kernel_rfl) (fun _ _ _ h => h) (Or.inl ⟨by rfl, ?_⟩) (by assumption) ?_
  rotate_left
  · (intro w hSw; (try dsimp only at hSw); go_simp; try with_reducible rfl)
  try simp only [List.getElem_toArray, List.getElem_cons_succ, List.getElem_cons_zero, Act.put, List.setIfInBounds_toArray, List.set_cons_zero, List.set_cons_succ]
  refine wpAnyH_ready (rs := [2]) (by kernel_rfl) (by simp) ?_
  refine AllReadyH.cons rfl (fun K hK => ?_) AllReadyH.nil
  go_simp
  go_wp2_with ((go_at_call 17; (with_reducible refine (HRA.out _ (by first | assumption | exact Lib.hid ((Below.refl _ _).drew))).mono ?_); rintro e w8 ⟨la, lc, D, rfl, hla, hb8⟩))
  refine hK.out _ _ ?_ (fun hHeld1 => ?_)
  · ((try dsimp only); first | exact HVF2.out _ (by assumption) | exact HVF2.out _ (Lib.hid ((Below.refl _ _).drew)))
  clear hK K hHeld0
  refine wpAnyH_ready (rs := [8]) (by kernel_rfl) (by simp) ?_
  refine AllReadyH.cons rfl (fun K hK => ?_) AllReadyH.nil
  go_simp
  go_wp2_with ((go_at_call 17; (with_reducible refine (HRB.out _ (by assumption)).mono ?_); rintro e w9 ⟨lb, kc, D', rfl, hlb, hb9⟩))
  refine hK.out _ _ ?_ (fun hHeld2 => ?_)
  · ((try dsimp only); first | exact HVF2.out _ (by assumption) | exact HVF2.out _ (Lib.hid ((Below.refl _ _).drew)))
  clear hK K hHeld1
  refine wpAnyH_take (i := 9) (v := ?_) rfl (by kernel_rfl) (by kernel_rfl) (by kernel_rfl) (fun _ _ _ h => h) (Or.inl ⟨by rfl, ?_⟩) (by assumption) ?_
  rotate_left
  · (intro w hSw; (try dsimp only at hSw); go_simp; try with_reducible rfl)
  try simp only [List.getElem_toArray, List.getElem_cons_succ, List.getElem_cons_zero, Act.put, List.setIfInBounds_toArray, List.set_cons_zero, List.set_cons_succ]
  refine wpAnyH_take (i := 10) (v := ?_) rfl (by kernel_rfl) (by kernel_rfl) (by kernel_rfl) (fun _ _ _ h => h) (Or.inl ⟨by rfl, ?_⟩) (by assumption) ?_
  rotate_left
  · (intro w hSw; (try dsimp only at hSw); go_simp; try with_reducible rfl)
  try simp only [List.getElem_toArray, List.getElem_cons_succ, List.getElem_cons_zero, Act.put, List.setIfInBounds_toArray, List.set_cons_zero, List.set_cons_succ]
  refine wpAnyH_done (by kernel_rfl) ?_ _
  clear hHeld2
  obtain ⟨V2, rfl⟩ : ∃ V : World, V = w9 := ⟨_, rfl⟩
  obtain ⟨dl, hdl⟩ : ∃ d, d = D.length := ⟨_, rfl⟩
  have hsm : D.length = D'.length ∧ ∀ e, e ∈ D → flatE (toI I e.1) (toI I e.2) ∈ D' := by
    refine HCN.out.same HFF.out hla.out.1 hla.out.2.1 hlb.out.1 fun a => ?_
    rw [hlb.out.2.1, HV.out]
  have hdl' : D'.length = dl := by rw [hdl]; exact hsm.1.symm
  rw [hdl', ← hdl]
  have HE2 := Lib.hid (show EdgesAt V2 la (sortP D) ∧ EdgesAt V2 lb (sortP D') ∧ (sortP D).length = dl ∧ (sortP D').length = dl ∧ dl ≤ 10000 from ⟨hla.out.2.2.mono (Nat.le_refl _) hlb.out.2.2.2, hlb.out.2.2.1, by rw [(sortP_perm D).length_eq, hdl], by rw [(sortP_perm D').length_eq, hdl'], by
    have := rest_fewC hla.out.1 hla.out.2.1
    have := HL3.out
    have := HF.out
    omega⟩)
  have HMEM := Lib.hid (show ∀ e, e ∈ sortP D → flatE (toI I e.1) (toI I e.2) ∈ sortP D' ∧ (0 ≤ e.1 ∧ e.1 < (n : Int)) ∧ 0 ≤ e.2 ∧ e.2 < (n : Int) from fun e he => by
    rw [sortP_mem] at he ⊢
    refine ⟨hsm.2 e he, ?_⟩
    obtain ⟨⟨c, hc, -, rfl⟩, -⟩ := (hla.out.2.1 e).1 he
    have h1 := HS.out.vin.vt (c := (nxn c : Nat)) (by omega) (by have := nxn_lt hc; omega)
    have h2 := HS.out.vin.vt (c := (pvn c : Nat)) (by omega) (by have := pvn_lt hc; omega)
    unfold ukey
    simp only
    omega)
  have HBV2 := Lib.hid (show ∀ Z, Below V2.heap.size V2 Z → Below w.heap.size w Z ∧ IntsAt Z io I from fun Z h => by
    have h1 := below_more HBY.out (below_more hb9.out h hb9.out.size) HBY.out.size
    exact ⟨HW66.out Z h1, HI6.out.mono (Nat.le_refl _) h1⟩)
  have g8 : ((dl : Int) != (dl : Int)) = false := by simp
  have hdl4 := HE2.out.2.2.2.2
  clear hla hlb hb8 hb9 hdl hsm hdl'
  go_wp2
  go_loopw [222] (fun x ws => ∃ i : Nat, i ≤ dl ∧ x = .int .i64 i ∧ Hid (Below V2.heap.size V2 ws)) (fun x _ => dl - (intOf x).toNat)
  case atStart => exact ⟨0, by omega, rfl, Lib.hid (Below.refl _ _)⟩
  case round =>
  obtain ⟨i, hi, rfl, HBZ⟩ := hrel
  obtain ⟨Z, rfl⟩ : ∃ X : World, X = wr := ⟨_, rfl⟩
  by_cases hlt : i < dl
  case neg =>
    have HF9 := Lib.hid (HBV2.out Z HBZ.out).1
    obtain rfl : dl = i := by omega
    clear hlt
    go_wp2
    exact bodyPost_ret (v := .bool true) (by simp [results, Tryz.results7, go_sem]) rfl ⟨rfl, HF9.out⟩
  case pos =>
  have hil' : i < (sortP D).length := by rw [HE2.out.2.2.1]; exact hlt
  obtain ⟨eb, eoff, rfl, -, hec⟩ := (HE2.out.1.mono (Nat.le_refl _) HBZ.out) (fun e => by rw [e] at hil'; simp at hil')
  obtain ⟨k1, k2⟩ := hec i hil'
  have hmem := HMEM.out _ (E!_mem hil')
  obtain ⟨⟨a, b⟩, hab⟩ : ∃ e, e = E! (sortP D) i := ⟨_, rfl⟩
  rw [← hab] at k1 k2 hmem
  obtain ⟨hm1, ⟨ha0, ha1⟩, hb0, hb1⟩ := hmem
  simp only at hm1 ha0 ha1 hb0 hb1 k1 k2
  obtain ⟨a, rfl⟩ := Int.eq_ofNat_of_zero_le ha0
  obtain ⟨b, rfl⟩ := Int.eq_ofNat_of_zero_le hb0
  have hIZ := (HBV2.out Z HBZ.out).2
  have hal : a < I.length := by have := HIL.out; have := HIN.out; omega
  have hbl : b < I.length := by have := HIL.out; have := HIN.out; omega
  obtain ⟨ib, ioff, rfl, -, hic⟩ := hIZ (fun e => by rw [e] at hal; simp at hal)
  obtain ⟨ra, hra⟩ : ∃ x, x = I! I a := ⟨_, rfl⟩
  obtain ⟨rb, hrb⟩ : ∃ x, x = I! I b := ⟨_, rfl⟩
  obtain ⟨⟨x1, y1⟩, hxy⟩ : ∃ e, e = flatE ra rb := ⟨_, rfl⟩
  have hm2 : (x1, y1) ∈ sortP D' := by
    rw [hxy, hra, hrb]
    simpa [toI] using hm1
  have bi : (0 : Int) ≤ (i : Int) ∧ (i : Int) < (dl : Int) := by omega
  obtain ⟨xb2, hxb2⟩ : ∃ b, b = Z.heap.size := ⟨_, rfl⟩
  obtain ⟨Z1, hZ1⟩ : ∃ Z1, Z1 = Z.alloc (.cells #[.int .i64 (a : Int), .int .i64 (b : Int)] 40) := ⟨_, rfl⟩
  have hbZ1 : Below Z.heap.size Z Z1 := by rw [hZ1]; exact (Below.refl _ _).alloc (Nat.le_refl _) _
  have hrZ1 : RowIs Z1 xb2 40 [.int .i64 (a : Int), .int .i64 (b : Int)] := by rw [hZ1, hxb2]; exact RowIs.made Z 40 [.int .i64 (a : Int), .int .i64 (b : Int)]
  have HBZ1 := Lib.hid (below_more HBZ.out hbZ1 HBZ.out.size)
  have HKC := Lib.hid (show ∀ X, Hid (Below Z1.heap.size Z1 X) → X.cell? ⟨xb2, 0, none⟩ = some (.int .i64 (a : Int)) ∧ X.cell? ⟨xb2, 1, none⟩ = some (.int .i64 (b : Int)) ∧ X.cell? ⟨ib, ioff + a, none⟩ = some (.int .i64 ra) ∧ X.cell? ⟨ib, ioff + b, none⟩ = some (.int .i64 rb) from fun X h => by
    have hr := hrZ1.after h.out
    obtain ⟨ib', ioff', e', -, hc'⟩ := (HBV2.out X (below_more HBZ1.out h.out HBZ1.out.size)).2 (fun e => by rw [e] at hal; simp at hal)
    cases e'
    rw [hra, hrb]
    exact ⟨hr.cell (i := 0) rfl, hr.cell (i := 1) rfl, hc' a hal, hc' b hbl⟩)
  have HFT := Lib.hid (show ∀ X, Hid (Below Z1.heap.size Z1 X) → Calls Tryz.prog 25 #[.agg #[.int .i64 ra, .int .i64 rb]] X fun e w' => e = .returned (.agg #[.int .i64 x1, .int .i64 y1]) ∧ Hid (Below Z1.heap.size Z1 w') from fun X h => by
    refine (flat18 ra rb X).mono ?_
    rintro e w' ⟨rfl, hb⟩
    rw [← hxy]
    exact ⟨rfl, Lib.hid (below_more h.out hb h.out.size)⟩)
  have HHS := Lib.hid (show ∀ X, Hid (Below Z1.heap.size Z1 X) → Calls Tryz.prog 21 #[.slice lb dl kc, .agg #[.int .i64 x1, .int .i64 y1]] X fun e w' => e = .returned (.bool true) ∧ Hid (Below Z1.heap.size Z1 w') from fun X h => by
    have := has18 (sortP D') lb kc x1 y1 X (HE2.out.2.1.mono (Nat.le_refl _) (below_more HBZ1.out h.out HBZ1.out.size)) (by rw [HE2.out.2.2.2.1]; omega)
    rw [HE2.out.2.2.2.1] at this
    refine this.mono ?_
    rintro e w' ⟨r, rfl, hr, hb⟩
    obtain rfl : r = true := hr.2 hm2
    exact ⟨rfl, Lib.hid (below_more h.out hb h.out.size)⟩)
  have ba : (0 : Int) ≤ (a : Int) ∧ (a : Int) < (il : Int) := by have := HIN.out; omega
  have bb : (0 : Int) ≤ (b : Int) ∧ (b : Int) < (il : Int) := by have := HIN.out; omega
  have na : a < il := by omega
  have nb : b < il := by omega
  have ga1 : decide ((a : Int) < 0) = false := by simp
  have ga2 : decide ((b : Int) < 0) = false := by simp
  have ga3 : decide ((a : Int) ≥ (il : Int)) = false := by simp; omega
  have ga4 : decide ((b : Int) ≥ (il : Int)) = false := by simp; omega
  have ga7 : decide (il ≤ a) = false := by simp; omega
  have ga8 : decide (il ≤ b) = false := by simp; omega
  have ga9 : (decide (a ≥ il)) = false := by simp; omega
  have ga10 : (decide (b ≥ il)) = false := by simp; omega
  have ga5 : decide ((il : Int) ≤ (a : Int)) = false := by simp; omega
  have ga6 : decide ((il : Int) ≤ (b : Int)) = false := by simp; omega
  have HZ1 := Lib.hid hZ1
  have HXB2 := Lib.hid hxb2
  clear hec hil' hab hm1 ha0 ha1 hb0 hb1 hIZ hal hbl hic hra hrb hxy hm2 hbZ1 hrZ1 hZ1 hxb2
  go_upto_region 41 with fail
  rw [← HZ1.out]
  simp only [← HXB2.out]
  clear k1 k2
  refine wp_region_held_drew (S := (fun w' => w'.cell? ⟨xb2, 0, none⟩ = some (.int .i64 (a : Int)) ∧ w'.cell? ⟨xb2, 1, none⟩ = some (.int .i64 (b : Int)) ∧ w'.cell? ⟨ib, ioff + a, none⟩ = some (.int .i64 ra) ∧ w'.cell? ⟨ib, ioff + b, none⟩ = some (.int .i64 rb))) (by kernel_rfl) ?_ (fun hHeld0 => ?_)
  · ((try dsimp only); first | exact HKC.out _ (by assumption) | exact HKC.out _ (Lib.hid ((Below.refl _ _).drew)))
  refine wpAnyH_take (i := 0) (v := ?_) rfl (by kernel_rfl) (by kernel_rfl) (by kernel_rfl) (fun _ _ _ h => h) (Or.inl ⟨by rfl, ?_⟩) (by assumption) ?_
  rotate_left
  · (intro w hSw; (try dsimp only at hSw); go_simp; try with_reducible rfl)
  try simp only [List.getElem_toArray, List.getElem_cons_succ, List.getElem_cons_zero, Act.put, List.setIfInBounds_toArray, List.set_cons_zero, List.set_cons_succ]
  refine wpAnyH_take (i := 1) (v := ?_) rfl (by kernel_rfl) (by kernel_rfl) (by kernel_rfl) (fun _ _ _ h => h) (Or.inl ⟨by rfl, ?_⟩) (by assumption) ?_
  rotate_left
  · (intro w hSw; (try dsimp only at hSw); go_simp; try with_reducible rfl)
  try simp only [List.getElem_toArray, List.getElem_cons_succ, List.getElem_cons_zero, Act.put, List.setIfInBounds_toArray, List.set_cons_zero, List.set_cons_succ]
  refine wpAnyH_take (i := 2) (v := (.bool false)) rfl (by kernel_rfl) (by kernel_rfl) (by kernel_rfl) (fun _ _ _ h => h) (Or.inl ⟨by rfl, ?_⟩) (by assumption) ?_
  · (intro w hSw; (try dsimp only at hSw); go_simp; try with_reducible rfl)
  try simp only [List.getElem_toArray, List.getElem_cons_succ, List.getElem_cons_zero, Act.put, List.setIfInBounds_toArray, List.set_cons_zero, List.set_cons_succ]
  refine wpAnyH_take (i := 3) (v := ?_) rfl (by kernel_rfl) (by kernel_rfl) (by kernel_rfl) (fun _ _ _ h => h) (Or.inl ⟨by rfl, ?_⟩) (by assumption) ?_
  rotate_left
  · (intro w hSw; (try dsimp only at hSw); go_simp; try with_reducible rfl)
  try simp only [List.getElem_toArray, List.getElem_cons_succ, List.getElem_cons_zero, Act.put, List.setIfInBounds_toArray, List.set_cons_zero, List.set_cons_succ]
  refine wpAnyH_take (i := 4) (v := ?_) rfl (by kernel_rfl) (by kernel_rfl) (by kernel_rfl) (fun _ _ _ h => h) (Or.inl ⟨by rfl, ?_⟩) (by assumption) ?_
  rotate_left
  · (intro w hSw; (try dsimp only at hSw); go_simp; try with_reducible rfl)
  try simp only [List.getElem_toArray, List.getElem_cons_succ, List.getElem_cons_zero, Act.put, List.setIfInBounds_toArray, List.set_cons_zero, List.set_cons_succ]
  refine wpAnyH_take (i := 5) (v := ?_) rfl (by kernel_rfl) (by kernel_rfl) (by kernel_rfl) (fun _ _ _ h => h) (Or.inl ⟨by rfl, ?_⟩) (by assumption) ?_
  rotate_left
  · (intro w hSw; (try dsimp only at hSw); go_simp; try with_reducible rfl)
  try simp only [List.getElem_toArray, List.getElem_cons_succ, List.getElem_cons_zero, Act.put, List.setIfInBounds_toArray, List.set_cons_zero, List.set_cons_succ]
  refine wpAnyH_take (i := 6) (v := (.bool false)) rfl (by kernel_rfl) (by kernel_rfl) (by kernel_rfl) (fun _ _ _ h => h) (Or.inl ⟨by rfl, ?_⟩) (by assumption) ?_
  · (intro w hSw; (try dsimp only at hSw); go_simp; try with_reducible rfl)
  try simp only [List.getElem_toArray, List.getElem_cons_succ, List.getElem_cons_zero, Act.put, List.setIfInBounds_toArray, List.set_cons_zero, List.set_cons_succ]
  refine wpAnyH_take (i := 7) (v := ?_) rfl (by kernel_rfl) (by kernel_rfl) (by kernel_rfl) (fun _ _ _ h => h) (Or.inl ⟨by rfl, ?_⟩) (by assumption) ?_
  rotate_left
  · (intro w hSw; (try dsimp only at hSw); go_simp; try with_reducible rfl)
  try simp only [List.getElem_toArray, List.getElem_cons_succ, List.getElem_cons_zero, Act.put, List.setIfInBounds_toArray, List.set_cons_zero, List.set_cons_succ]
  refine wpAnyH_take (i := 8) (v := ?_) rfl (by kernel_rfl) (by kernel_rfl) (by kernel_rfl) (fun _ _ _ h => h) (Or.inl ⟨by rfl, ?_⟩) (by assumption) ?_
  rotate_left
  · (intro w hSw; (try dsimp only at hSw); go_simp; try with_reducible rfl)
  try simp only [List.getElem_toArray, List.getElem_cons_succ, List.getElem_cons_zero, Act.put, List.setIfInBounds_toArray, List.set_cons_zero, List.set_cons_succ]
  refine wpAnyH_take (i := 9) (v := ?_) rfl (by kernel_rfl) (by kernel_rfl) (by kernel_rfl) (fun _ _ _ h => h) (Or.inl ⟨by rfl, ?_⟩) (by assumption) ?_
  rotate_left
  · (intro w hSw; (try dsimp only at hSw); go_simp; try with_reducible rfl)
  try simp only [List.getElem_toArray, List.getElem_cons_succ, List.getElem_cons_zero, Act.put, List.setIfInBounds_toArray, List.set_cons_zero, List.set_cons_succ]
  refine wpAnyH_take (i := 10) (v := ?_) rfl (by kernel_rfl) (by kernel_rfl) (by kernel_rfl) (fun _ _ _ h => h) (Or.inl ⟨by rfl, ?_⟩) (by assumption) ?_
  rotate_left
  · (intro w hSw; (try dsimp only at hSw); go_simp; try with_reducible rfl)
  try simp only [List.getElem_toArray, List.getElem_cons_succ, List.getElem_cons_zero, Act.put, List.setIfInBounds_toArray, List.set_cons_zero, List.set_cons_succ]
  refine wpAnyH_take (i := 11) (v := ?_) rfl (by kernel_rfl) (by kernel_rfl) (by kernel_rfl) (fun _ _ _ h => h) (Or.inl ⟨by rfl, ?_⟩) (by assumption) ?_
  rotate_left
  · (intro w hSw; (try dsimp only at hSw); go_simp; try with_reducible rfl)
  try simp only [List.getElem_toArray, List.getElem_cons_succ, List.getElem_cons_zero, Act.put, List.setIfInBounds_toArray, List.set_cons_zero, List.set_cons_succ]
  refine wpAnyH_take (i := 12) (v := ?_) rfl (by kernel_rfl) (by kernel_rfl) (by kernel_rfl) (fun _ _ _ h => h) (Or.inl ⟨by rfl, ?_⟩) (by assumption) ?_
  rotate_left
  · (intro w hSw; (try dsimp only at hSw); go_simp; try with_reducible rfl)
  try simp only [List.getElem_toArray, List.getElem_cons_succ, List.getElem_cons_zero, Act.put, List.setIfInBounds_toArray, List.set_cons_zero, List.set_cons_succ]
  refine wpAnyH_take (i := 13) (v := (.bool false)) rfl (by kernel_rfl) (by kernel_rfl) (by kernel_rfl) (fun _ _ _ h => h) (Or.inl ⟨by rfl, ?_⟩) (by assumption) ?_
  · (intro w hSw; (try dsimp only at hSw); go_simp; try with_reducible rfl)
  try simp only [List.getElem_toArray, List.getElem_cons_succ, List.getElem_cons_zero, Act.put, List.setIfInBounds_toArray, List.set_cons_zero, List.set_cons_succ]
  refine wpAnyH_take (i := 14) (v := (.bool false)) rfl (by kernel_rfl) (by kernel_rfl) (by kernel_rfl) (fun _ _ _ h => h) (Or.inl ⟨by rfl, ?_⟩) (by assumption) ?_
  · (intro w hSw; (try dsimp only at hSw); go_simp; try with_reducible rfl)
  try simp only [List.getElem_toArray, List.getElem_cons_succ, List.getElem_cons_zero, Act.put, List.setIfInBounds_toArray, List.set_cons_zero, List.set_cons_succ]
  refine wpAnyH_take (i := 15) (v := (.bool false)) rfl (by kernel_rfl) (by kernel_rfl) (by kernel_rfl) (fun _ _ _ h => h) (Or.inl ⟨by rfl, ?_⟩) (by assumption) ?_
  · (intro w hSw; (try dsimp only at hSw); go_simp; try with_reducible rfl)
  try simp only [List.getElem_toArray, List.getElem_cons_succ, List.getElem_cons_zero, Act.put, List.setIfInBounds_toArray, List.set_cons_zero, List.set_cons_succ]
  refine wpAnyH_take (i := 16) (v := ?_) rfl (by kernel_rfl) (by kernel_rfl) (by kernel_rfl) (fun _ _ _ h => h) (Or.inl ⟨by rfl, ?_⟩) (by assumption) ?_
  rotate_left
  · (intro w hSw; (try dsimp only at hSw); go_simp; try with_reducible rfl)
  try simp only [List.getElem_toArray, List.getElem_cons_succ, List.getElem_cons_zero, Act.put, List.setIfInBounds_toArray, List.set_cons_zero, List.set_cons_succ]
  refine wpAnyH_take (i := 17) (v := ?_) rfl (by kernel_rfl) (by kernel_rfl) (by kernel_rfl) (fun _ _ _ h => h) (Or.inl ⟨by rfl, ?_⟩) (by assumption) ?_
  rotate_left
  · (intro w hSw; (try dsimp only at hSw); go_simp; try with_reducible rfl)
  try simp only [List.getElem_toArray, List.getElem_cons_succ, List.getElem_cons_zero, Act.put, List.setIfInBounds_toArray, List.set_cons_zero, List.set_cons_succ]
  refine wpAnyH_take (i := 18) (v := ?_) rfl (by kernel_rfl) (by kernel_rfl) (by kernel_rfl) (fun _ _ _ h => h) (Or.inl ⟨by rfl, ?_⟩) (by assumption) ?_
  rotate_left
  · (intro w hSw; (try dsimp only at hSw); go_simp; try with_reducible rfl)
  try simp only [List.getElem_toArray, List.getElem_cons_succ, List.getElem_cons_zero, Act.put, List.setIfInBounds_toArray, List.set_cons_zero, List.set_cons_succ]
  refine wpAnyH_take (i := 19) (v := ?_) rfl (by kernel_rfl) (by kernel_rfl) (by kernel_rfl) (fun _ _ _ h => h) (Or.inl ⟨by rfl, ?_⟩) (by assumption) ?_
  rotate_left
  · (intro w hSw; (try dsimp only at hSw); go_simp; try with_reducible rfl)
  try simp only [List.getElem_toArray, List.getElem_cons_succ, List.getElem_cons_zero, Act.put, List.setIfInBounds_toArray, List.set_cons_zero, List.set_cons_succ]
  refine wpAnyH_take (i := 20) (v := (.bool false)) rfl (by kernel_rfl) (by kernel_rfl) (by kernel_rfl) (fun _ _ _ h => h) (Or.inl ⟨by rfl, ?_⟩) (by assumption) ?_
  · (intro w hSw; (try dsimp only at hSw); go_simp; try with_reducible rfl)
  try simp only [List.getElem_toArray, List.getElem_cons_succ, List.getElem_cons_zero, Act.put, List.setIfInBounds_toArray, List.set_cons_zero, List.set_cons_succ]
  refine wpAnyH_take (i := 21) (v := (.bool false)) rfl (by kernel_rfl) (by kernel_rfl) (by kernel_rfl) (fun _ _ _ h => h) (Or.inl ⟨by rfl, ?_⟩) (by assumption) ?_
  · (intro w hSw; (try dsimp only at hSw); go_simp; try with_reducible rfl)
  try simp only [List.getElem_toArray, List.getElem_cons_succ, List.getElem_cons_zero, Act.put, List.setIfInBounds_toArray, List.set_cons_zero, List.set_cons_succ]
  refine wpAnyH_take (i := 22) (v := (.bool false)) rfl (by kernel_rfl) (by kernel_rfl) (by kernel_rfl) (fun _ _ _ h => h) (Or.inl ⟨by rfl, ?_⟩) (by assumption) ?_
  · (intro w hSw; (try dsimp only at hSw); go_simp; try with_reducible rfl)
  try simp only [List.getElem_toArray, List.getElem_cons_succ, List.getElem_cons_zero, Act.put, List.setIfInBounds_toArray, List.set_cons_zero, List.set_cons_succ]
  refine wpAnyH_take (i := 23) (v := ?_) rfl (by kernel_rfl) (by kernel_rfl) (by kernel_rfl) (fun _ _ _ h => h) (Or.inl ⟨by rfl, ?_⟩) (by assumption) ?_
  rotate_left
  · (intro w hSw; (try dsimp only at hSw); go_simp; try with_reducible rfl)
  try simp only [List.getElem_toArray, List.getElem_cons_succ, List.getElem_cons_zero, Act.put, List.setIfInBounds_toArray, List.set_cons_zero, List.set_cons_succ]
  refine wpAnyH_take (i := 24) (v := ?_) rfl (by kernel_rfl) (by kernel_rfl) (by kernel_rfl) (fun _ _ _ h => h) (Or.inl ⟨by rfl, ?_⟩) (by assumption) ?_
  rotate_left
  · (intro w hSw; (try dsimp only at hSw); go_simp; try with_reducible rfl)
  try simp only [List.getElem_toArray, List.getElem_cons_succ, List.getElem_cons_zero, Act.put, List.setIfInBounds_toArray, List.set_cons_zero, List.set_cons_succ]
  refine wpAnyH_take (i := 25) (v := ?_) rfl (by kernel_rfl) (by kernel_rfl) (by kernel_rfl) (fun _ _ _ h => h) (Or.inl ⟨by rfl, ?_⟩) (by assumption) ?_
  rotate_left
  · (intro w hSw; (try dsimp only at hSw); go_simp; try with_reducible rfl)
  try simp only [List.getElem_toArray, List.getElem_cons_succ, List.getElem_cons_zero, Act.put, List.setIfInBounds_toArray, List.set_cons_zero, List.set_cons_succ]
  refine wpAnyH_take (i := 26) (v := ?_) rfl (by kernel_rfl) (by kernel_rfl) (by kernel_rfl) (fun _ _ _ h => h) (Or.inl ⟨by rfl, ?_⟩) (by assumption) ?_
  rotate_left
  · (intro w hSw; (try dsimp only at hSw); go_simp; try with_reducible rfl)
  try simp only [List.getElem_toArray, List.getElem_cons_succ, List.getElem_cons_zero, Act.put, List.setIfInBounds_toArray, List.set_cons_zero, List.set_cons_succ]
  refine wpAnyH_take (i := 27) (v := ?_) rfl (by kernel_rfl) (by kernel_rfl) (by kernel_rfl) (fun _ _ _ h => h) (Or.inl ⟨by rfl, ?_⟩) (by assumption) ?_
  rotate_left
  · (intro w hSw; (try dsimp only at hSw); go_simp; try with_reducible rfl)
  try simp only [List.getElem_toArray, List.getElem_cons_succ, List.getElem_cons_zero, Act.put, List.setIfInBounds_toArray, List.set_cons_zero, List.set_cons_succ]
  refine wpAnyH_take (i := 28) (v := ?_) rfl (by kernel_rfl) (by kernel_rfl) (by kernel_rfl) (fun _ _ _ h => h) (Or.inl ⟨by rfl, ?_⟩) (by assumption) ?_
  rotate_left
  · (intro w hSw; (try dsimp only at hSw); go_simp; try with_reducible rfl)
  try simp only [List.getElem_toArray, List.getElem_cons_succ, List.getElem_cons_zero, Act.put, List.setIfInBounds_toArray, List.set_cons_zero, List.set_cons_succ]
  refine wpAnyH_take (i := 29) (v := ?_) rfl (by kernel_rfl) (by kernel_rfl) (by kernel_rfl) (fun _ _ _ h => h) (Or.inl ⟨by rfl, ?_⟩) (by assumption) ?_
  rotate_left
  · (intro w hSw; (try dsimp only at hSw); go_simp; try with_reducible rfl)
  try simp only [List.getElem_toArray, List.getElem_cons_succ, List.getElem_cons_zero, Act.put, List.setIfInBounds_toArray, List.set_cons_zero, List.set_cons_succ]
  refine wpAnyH_take (i := 30) (v := ?_) rfl (by kernel_rfl) (by kernel_rfl) (by kernel_rfl) (fun _ _ _ h => h) (Or.inl ⟨by rfl, ?_⟩) (by assumption) ?_
  rotate_left
  · (intro w hSw; (try dsimp only at hSw); go_simp; try with_reducible rfl)
  try simp only [List.getElem_toArray, List.getElem_cons_succ, List.getElem_cons_zero, Act.put, List.setIfInBounds_toArray, List.set_cons_zero, List.set_cons_succ]
  refine wpAnyH_take (i := 31) (v := ?_) rfl (by kernel_rfl) (by kernel_rfl) (by kernel_rfl) (fun _ _ _ h => h) (Or.inl ⟨by rfl, ?_⟩) (by assumption) ?_
  rotate_left
  · (intro w hSw; (try dsimp only at hSw); go_simp; try with_reducible rfl)
  try simp only [List.getElem_toArray, List.getElem_cons_succ, List.getElem_cons_zero, Act.put, List.setIfInBounds_toArray, List.set_cons_zero, List.set_cons_succ]
  refine wpAnyH_take (i := 32) (v := ?_) rfl (by kernel_rfl) (by kernel_rfl) (by kernel_rfl) (fun _ _ _ h => h) (Or.inl ⟨by rfl, ?_⟩) (by assumption) ?_
  rotate_left
  · (intro w hSw; (try dsimp only at hSw); go_simp; try with_reducible rfl)
  try simp only [List.getElem_toArray, List.getElem_cons_succ, List.getElem_cons_zero, Act.put, List.setIfInBounds_toArray, List.set_cons_zero, List.set_cons_succ]
  refine wpAnyH_take (i := 33) (v := ?_) rfl (by kernel_rfl) (by kernel_rfl) (by kernel_rfl) (fun _ _ _ h => h) (Or.inl ⟨by rfl, ?_⟩) (by assumption) ?_
  rotate_left
  · (intro w hSw; (try dsimp only at hSw); go_simp; try with_reducible rfl)
  try simp only [List.getElem_toArray, List.getElem_cons_succ, List.getElem_cons_zero, Act.put, List.setIfInBounds_toArray, List.set_cons_zero, List.set_cons_succ]
  refine wpAnyH_take (i := 34) (v := ?_) rfl (by kernel_rfl) (by kernel_rfl) (by kernel_rfl) (fun _ _ _ h => h) (Or.inl ⟨by rfl, ?_⟩) (by assumption) ?_
  rotate_left
  · (intro w hSw; (try dsimp only at hSw); go_simp; try with_reducible rfl)
  try simp only [List.getElem_toArray, List.getElem_cons_succ, List.getElem_cons_zero, Act.put, List.setIfInBounds_toArray, List.set_cons_zero, List.set_cons_succ]
  refine wpAnyH_ready (rs := [35]) (by kernel_rfl) (by simp) ?_
  refine AllReadyH.cons rfl (fun K hK => ?_) AllReadyH.nil
  go_simp
  go_wp2_with ((go_at_call 25; (with_reducible refine (HFT.out _ (by first | assumption | exact Lib.hid ((Below.refl _ _).drew))).mono ?_); rintro e u8 ⟨rfl, hu8⟩))
  refine hK.out _ _ ?_ (fun hHeld1 => ?_)
  · ((try dsimp only); first | exact HKC.out _ (by assumption) | exact HKC.out _ (Lib.hid ((Below.refl _ _).drew)))
  clear hK K hHeld0
  refine wpAnyH_ready (rs := [36]) (by kernel_rfl) (by simp) ?_
  refine AllReadyH.cons rfl (fun K hK => ?_) AllReadyH.nil
  go_simp
  go_wp2_with ((go_at_call 21; (with_reducible refine (HHS.out _ (by assumption)).mono ?_); rintro e u9 ⟨rfl, hu9⟩))
  refine hK.out _ _ ?_ (fun hHeld2 => ?_)
  · ((try dsimp only); first | exact HKC.out _ (by assumption) | exact HKC.out _ (Lib.hid ((Below.refl _ _).drew)))
  clear hK K hHeld1
  refine wpAnyH_take (i := 37) (v := ?_) rfl (by kernel_rfl) (by kernel_rfl) (by kernel_rfl) (fun _ _ _ h => h) (Or.inl ⟨by rfl, ?_⟩) (by assumption) ?_
  rotate_left
  · (intro w hSw; (try dsimp only at hSw); go_simp; try with_reducible rfl)
  try simp only [List.getElem_toArray, List.getElem_cons_succ, List.getElem_cons_zero, Act.put, List.setIfInBounds_toArray, List.set_cons_zero, List.set_cons_succ]
  refine wpAnyH_take (i := 38) (v := ?_) rfl (by kernel_rfl) (by kernel_rfl) (by kernel_rfl) (fun _ _ _ h => h) (Or.inl ⟨by rfl, ?_⟩) (by assumption) ?_
  rotate_left
  · (intro w hSw; (try dsimp only at hSw); go_simp; try with_reducible rfl)
  try simp only [List.getElem_toArray, List.getElem_cons_succ, List.getElem_cons_zero, Act.put, List.setIfInBounds_toArray, List.set_cons_zero, List.set_cons_succ]
  refine wpAnyH_done (by kernel_rfl) ?_ _
  clear hHeld2
  have HB9 := Lib.hid (below_more HBZ1.out hu9.out HBZ1.out.size)
  clear hu8 hu9
  go_wp2
  go_roundw
  case rel => exact ⟨i + 1, by omega, by go_num, HB9⟩
  case measure => simp [intOf]; omega
end Go.Proofs.YtkjamheoihlekaaGreat

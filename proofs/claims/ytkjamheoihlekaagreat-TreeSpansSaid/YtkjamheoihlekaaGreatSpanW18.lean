/- gypsumlaw18.TreeSpans: the walk. -/
import Derived.Test.YtkjamheoihlekaaGreatAwake18a
import Derived.Test.YtkjamheoihlekaaGreatSpanLaw
namespace Go.Proofs.YtkjamheoihlekaaGreat
set_option linter.unusedVariables false
set_option linter.unusedSimpArgs false
open Go.RowKit
theorem countP_succ18 (p : Nat → Bool) (i : Nat) : (List.range (i + 1)).countP p = (List.range i).countP p + if p i = true then 1 else 0 := by
  rw [List.range_succ, List.countP_append]
  by_cases h : p i = true <;> simp [h]
theorem countP_le18 (p : Nat → Bool) (i : Nat) : (List.range i).countP p ≤ i := by
  have := List.countP_le_length (p := p) (l := List.range i)
  simpa using this
set_option maxRecDepth 100000 in
set_option maxHeartbeats 8000000 in
theorem treespans_any (N : Int) (ao : Option Addr) (cap : Nat) (T : List Tr) (from_ : Int) (w : World) (hT : TrisAt w ao T) (hm : T.length ≤ 9223372036854775807) (ht : 0 ≤ from_ ∧ from_ < 256) :
    Calls Tryz.prog 6 #[.agg #[.int .i64 N, .slice ao T.length cap], .int .u8 from_] w fun e w' => e = .returned (.bool true) ∧ Below w.heap.size w w' := by
  obtain ⟨i0, hi0, hz0, hz1, hz2⟩ := info_parts info3
  obtain ⟨xb, hxb⟩ : ∃ b, b = w.heap.size := ⟨_, rfl⟩
  obtain ⟨W0, hW0⟩ : ∃ W0, W0 = w.alloc (.cells #[.int .i64 N, .slice ao T.length cap] 24) := ⟨_, rfl⟩
  have hb0 : Below w.heap.size w W0 := by rw [hW0]; exact (Below.refl _ _).alloc (Nat.le_refl _) _
  have hr0 : RowIs W0 xb 24 [.int .i64 N, .slice ao T.length cap] := by rw [hW0, hxb]; exact RowIs.made w 24 [.int .i64 N, .slice ao T.length cap]
  have HAW := Lib.hid (awake18 W0)
  have HT := Lib.hid (hT.mono (Nat.le_refl _) hb0)
  have HR := Lib.hid hr0
  have HB0 := Lib.hid hb0
  have HW0 := Lib.hid hW0
  have HXB := Lib.hid hxb
  have HTF := Lib.hid ht
  clear hb0 hr0 hW0 hT hxb ht
  go_enter Tryz.func6, Tryz.ntmps6
  go_upto_region 1 with fail
  simp only [← HXB.out]
  rw [← HW0.out]
  go_wp2_with fail
  refine HAW.out.mono ?_
  rintro e w1 ⟨rfl, hb1⟩
  have hr1 := HR.out.after hb1
  have x0 := hr1.cell (i := 0) rfl
  have x1 := hr1.cell (i := 1) rfl
  have HB1 := Lib.hid hb1
  have HL := Lib.hid (laid_any N ao cap T w1 (HT.out.mono (Nat.le_refl _) hb1) hm)
  clear hb1 hr1 HAW
  go_wp2_with fail
  refine HL.out.mono ?_
  intro e w2 hpost
  rcases hpost with ⟨n, p, hN, rfl, hp, htab, -, hsurf, ht40, hn60, hb2⟩ | ⟨rfl, -, hb2⟩
  case inr =>
    have HF := Lib.hid (below_more HB0.out (below_more HB1.out hb2 HB1.out.size) HB0.out.size)
    clear hb2 x0 x1
    go_wp2
    exact bodyPost_ret (v := .bool true) (by simp [results, Tryz.results6, go_sem]) rfl ⟨rfl, HF.out⟩
  case inl =>
  subst hN
  have HB2 := Lib.hid (below_more HB1.out hb2 HB1.out.size)
  have hr2 := HR.out.after HB2.out
  have y0 := hr2.cell (i := 0) rfl
  have y1 := hr2.cell (i := 1) rfl
  obtain ⟨F, hF⟩ : ∃ F, F = T.length := ⟨_, rfl⟩
  have HF := Lib.hid hF
  have HS := Lib.hid hsurf
  have HTAB := Lib.hid htab
  have HFW := Lib.hid (show ∀ X, Below w2.heap.size w2 X → Below w.heap.size w X from fun X h => below_more HB0.out (below_more HB2.out h HB2.out.size) HB0.out.size)
  have HR2 := Lib.hid hr2
  simp only [← hF] at y0 y1 HR2 hm ht40
  rw [← hF]
  clear hb2 x0 x1 hr2 htab hsurf HL hF
  by_cases hF0 : F = 0
  case pos =>
    have g0 : ((F : Int) == 0) = true := by simp; omega
    clear hF0
    go_wp2
    exact bodyPost_ret (v := .bool true) (by simp [results, Tryz.results6, go_sem]) rfl ⟨rfl, HFW.out _ (Below.refl _ _)⟩
  case neg =>
  have g0 : ((F : Int) == 0) = false := by simp; omega
  obtain ⟨l3, hl3⟩ : ∃ l, l = 3 * F := ⟨_, rfl⟩
  have h3 : (3 : Int) * (F : Int) = (l3 : Int) := by omega
  have n0 : (l3 : Int) ≠ 0 := by omega
  obtain ⟨f, hf⟩ : ∃ k : Nat, from_ % (l3 : Int) = (k : Int) := ⟨(from_ % (l3 : Int)).toNat, by have := Int.emod_nonneg from_ (b := (l3 : Int)) (by omega); omega⟩
  have hfn : f < l3 := by have := Int.emod_lt_of_pos from_ (b := (l3 : Int)) (by omega); omega
  have hf2 : from_.tmod (l3 : Int) = (f : Int) := by rw [Int.tmod_eq_emod_of_nonneg HTF.out.1]; exact hf
  have hwt : IntKind.i64.wrap from_ = from_ := IntWalk.i64_in _ (by have := HTF.out; omega)
  have hwl : IntKind.i64.wrap (l3 : Int) = (l3 : Int) := IntWalk.i64_in _ (by omega)
  have hwf : IntKind.i64.wrap (f : Int) = (f : Int) := IntWalk.i64_in _ (by omega)
  have HL3 := Lib.hid hl3
  have HD := Lib.hid (dual_ok p n T f w2 HTAB.out HS.out (by rw [← HF.out]; omega))
  rw [← HF.out] at HD
  have HI := Lib.hid (show BfI T f (bfs T f) from bfs_inv HS.out (by rw [← HF.out]; omega) _)
  clear hl3 hf hF0
  go_wp2_with fail
  refine HD.out.mono ?_
  rintro e w3 ⟨gl, rfl, hrl, hb3⟩
  have hr3 := HR2.out.after hb3
  have z0 := hr3.cell (i := 0) rfl
  have z1 := hr3.cell (i := 1) rfl
  have HRL := Lib.hid hrl
  have HB3 := Lib.hid hb3
  have HR3 := Lib.hid hr3
  clear hrl hb3 hr3 y0 y1 HD hwt hf2 hwl
  go_wp2_with (at_make; refine wpList_make_full _ rfl _ _ _ rfl w3.heap.size 3 i0 (.int .i64 0) 1 (by kernel_rfl) hi0 hz0 hz1 _ _ _ _ F rfl rfl rfl rfl (by rw [hz2]; omega) (by unfold maxLen; omega) (Nat.le_refl _) ?_)
  intro w4 hown hgrow
  rw [madeCells_iv] at hown
  obtain ⟨gf, hgf⟩ : ∃ g, g = w3.heap.size := ⟨_, rfl⟩
  have hrow : RowIs w4 gf 3 (iv (fun _ => 0) F) := by rw [hgf]; exact RowIs.of_owns hown
  have hb4 : Below w3.heap.size w3 w4 := (Below.refl _ _).grown hgrow (Nat.le_refl _) (by simp)
  have HB4 := Lib.hid hb4
  have HROW := Lib.hid hrow
  have HGF := Lib.hid hgf
  simp only [← hgf]
  clear hown hgrow hrow hb4 hgf z0 z1
  have HX := Lib.hid (show ∀ X, Below gf w3 X → Tab X p n T ∧ RowIs X xb 24 [.int .i64 (n : Int), .slice ao F cap] ∧ RowIs X gl 3 (iv (bfs T f).l F) ∧ Below w.heap.size w X from fun X h => by
    rw [HGF.out] at h
    have h2 := below_more HB3.out h HB3.out.size
    exact ⟨HTAB.out.mono (Nat.le_refl _) h2, HR3.out.after h, HRL.out.after h, HFW.out X h2⟩)
  have HGS := Lib.hid (show gf ≤ w3.heap.size from Nat.le_of_eq HGF.out)
  go_wp2
  go_loopw [52] (fun v ws => ∃ (i : Nat) (φ : Nat → Int), i ≤ F ∧ v = .int .i64 i ∧ RowIs ws gf 3 (iv φ F) ∧ Hid (∀ j, j < i → φ j = -1) ∧ Below gf w3 ws) (fun v _ => F - (intOf v).toNat)
  case atStart => exact ⟨0, _, by omega, rfl, HROW.out, Lib.hid fun j hj => by omega, by rw [HGF.out]; exact HB4.out⟩
  case round =>
  clear HROW HB4
  obtain ⟨i, φ, hi, rfl, hrow, HPH, hb⟩ := hrel
  obtain ⟨X, rfl⟩ : ∃ X : World, X = wr := ⟨_, rfl⟩
  have HB := Lib.hid hb
  have HROW := Lib.hid hrow
  by_cases hlt : i < F
  case pos =>
    have c0 := hrow.cell (i := i) (v := .int .i64 (φ i)) (iv_get _ hlt)
    have f0 := hrow.free i
    have bi : (0 : Int) ≤ (i : Int) ∧ (i : Int) < (F : Int) := by omega
    have HN := Lib.hid (show RowIs (X.setCell ⟨gf, i, none⟩ (.int .i64 (-1))) gf 3 (iv (upd φ i (-1)) F) ∧ Below gf w3 (X.setCell ⟨gf, i, none⟩ (.int .i64 (-1))) from ⟨by rw [← iv_set]; exact hrow.set i _, hb.setCell (p := ⟨gf, i, none⟩) (Nat.le_refl _) _⟩)
    clear hrow hb
    go_wp2
    go_roundw
    case rel => exact ⟨i + 1, upd φ i (-1), by omega, by go_num, HN.out.1, Lib.hid fun j hj => (by
      unfold upd
      by_cases e : j = i
      · rw [if_pos e]
      · rw [if_neg e]; exact HPH.out j (by omega)), HN.out.2⟩
    case measure => simp [intOf]; omega
  case neg =>
  obtain rfl : F = i := by omega
  obtain ⟨t0, ht0⟩ : ∃ t, t = f / 3 := ⟨_, rfl⟩
  have hf3 : t0 < F := by omega
  have hq : Int.tdiv (f : Int) 3 = (t0 : Int) := by rw [Int.tdiv_eq_ediv_of_nonneg (by omega)]; omega
  have hkw : IntKind.i64.wrap (t0 : Int) = (t0 : Int) := IntWalk.i64_in _ (by omega)
  have bk : (0 : Int) ≤ (t0 : Int) ∧ (t0 : Int) < (F : Int) := by omega
  have c0 := hrow.cell (i := t0) (v := .int .i64 (φ t0)) (iv_get _ hf3)
  have f0 := hrow.free t0
  have hxs := (HX.out X hb).2.1
  have x0 := hxs.cell (i := 0) rfl
  have x1 := hxs.cell (i := 1) rfl
  obtain ⟨X1, hX1⟩ : ∃ X1, X1 = X.setCell ⟨gf, t0, none⟩ (.int .i64 0) := ⟨_, rfl⟩
  have HS1 := Lib.hid (show RowIs X1 gf 3 (iv (fun t => if t = f / 3 then 0 else -1) F) ∧ Below gf w3 X1 from by
    rw [hX1]
    refine ⟨?_, hb.setCell (p := ⟨gf, t0, none⟩) (Nat.le_refl _) _⟩
    have h := hrow.set t0 (.int .i64 0)
    rw [iv_set] at h
    rw [iv_congr (h := upd φ t0 0) fun j hj => ?_]
    · exact h
    · unfold upd
      rw [ht0]
      by_cases e : j = f / 3
      · simp [e]
      · simp only [e, if_false]; exact (HPH.out j hj).symm)
  have HX1 := Lib.hid hX1
  have hxs1 := (HX.out X1 HS1.out.2).2.1
  have v0 := hxs1.cell (i := 0) rfl
  have v1 := hxs1.cell (i := 1) rfl
  have HST := Lib.hid (far_start HS.out (f := f) (by rw [← HF.out]; have := HL3.out; omega))
  have HFF := Lib.hid (show f < 3 * T.length from by rw [← HF.out]; have := HL3.out; omega)
  have HOP := Lib.hid (show ∀ (Y : World) (x : Nat), Below gf w3 Y → x < l3 → Calls Tryz.prog 26 #[.pointer (some ⟨p, 0, none⟩), .int .i64 (x : Int)] Y fun e w' => e = .returned (.int .i64 (opp T (x : Nat))) ∧ Below Y.heap.size Y w' from fun Y x h hx => opp_any (x : Int) Y p n T (HX.out Y h).1 (by omega) (by rw [← HF.out]; have := HL3.out; omega))
  clear hrow hb hxs hxs1 ht0 hX1 HROW HB
  go_upto_region 17 with fail
  rw [← HX1.out]
  clear c0 f0 hq hkw bk x0 x1
  go_wp2
  go_loopw [66] (fun v ws => ∃ (d : Nat) (φ : Nat → Int), d ≤ F ∧ v = .int .i64 d ∧ RowIs ws gf 3 (iv φ F) ∧ Hid (FarM T f d 0 φ) ∧ Below gf w3 ws) (fun v _ => F - (intOf v).toNat)
  case atStart => exact ⟨0, _, by omega, rfl, HS1.out.1, HST, HS1.out.2⟩
  case round =>
  clear HS1 HST v0 v1
  obtain ⟨d, φ, hd, rfl, hrow, HFM, hb⟩ := hrel
  obtain ⟨Y, rfl⟩ : ∃ X : World, X = wr := ⟨_, rfl⟩
  have HB := Lib.hid hb
  have HROW := Lib.hid hrow
  by_cases hdF : d < F
  case pos =>
    have hxs := (HX.out Y hb).2.1
    have x0 := hxs.cell (i := 0) rfl
    have x1 := hxs.cell (i := 1) rfl
    clear hrow hb hxs
    go_wp2
    go_loopw [73] (fun v ws => ∃ (x : Nat) (φ : Nat → Int), x ≤ l3 ∧ v = .int .i64 x ∧ RowIs ws gf 3 (iv φ F) ∧ Hid (FarM T f d x φ) ∧ Below gf w3 ws) (fun v _ => l3 - (intOf v).toNat)
    case atStart => exact ⟨0, φ, by omega, rfl, HROW.out, HFM, HB.out⟩
    case round =>
    clear HROW HB HFM x0 x1
    obtain ⟨x, φ, hx, rfl, hrow, HFM, hb⟩ := hrel
    obtain ⟨Z, rfl⟩ : ∃ X : World, X = wr := ⟨_, rfl⟩
    have HB := Lib.hid hb
    have HROW := Lib.hid hrow
    by_cases hxl : x < l3
    case neg =>
      obtain rfl : l3 = x := by omega
      have HN := Lib.hid (show FarM T f (d + 1) 0 φ from far_next HS.out HFF.out (by
        have := HFM.out
        rw [HL3.out, HF.out] at this
        exact this))
      clear hrow hb
      go_wp2
      go_roundw
      case rel => exact ⟨d + 1, φ, by omega, by go_num, HROW.out, HN, HB.out⟩
      case measure => simp [intOf]; omega
    case pos =>
    obtain ⟨o, ho⟩ : ∃ o, o = opp T (x : Nat) := ⟨_, rfl⟩
    have HOX := Lib.hid (HOP.out Z x hb hxl)
    rw [← ho] at HOX
    have HO := Lib.hid ho
    have HXT := Lib.hid (show x < 3 * T.length from by rw [← HF.out, ← HL3.out]; exact hxl)
    obtain ⟨t, ht⟩ : ∃ t, t = x / 3 := ⟨_, rfl⟩
    have htF : t < F := by have := HL3.out; omega
    have hq : Int.tdiv (x : Int) 3 = (t : Int) := by rw [Int.tdiv_eq_ediv_of_nonneg (by omega)]; omega
    have hkw : IntKind.i64.wrap (t : Int) = (t : Int) := IntWalk.i64_in _ (by omega)
    have bt : (0 : Int) ≤ (t : Int) ∧ (t : Int) < (F : Int) := by omega
    have HTX := Lib.hid ht
    clear hrow hb ho ht
    go_wp2_with fail
    refine HOX.out.mono ?_
    rintro e Z2 ⟨rfl, hb2⟩
    have hB2 := below_more HB.out hb2 (by have := HROW.out.lt; have := HB.out.size; have := HGS.out; omega)
    have hrow2 := HROW.out.after hb2
    have HB2' := Lib.hid hB2
    have HROW2 := Lib.hid hrow2
    have c0 := hrow2.cell (i := t) (v := .int .i64 (φ t)) (iv_get _ htF)
    obtain ⟨pt, hpt⟩ : ∃ v, v = φ t := ⟨_, rfl⟩
    rw [← hpt] at c0
    have HPT := Lib.hid hpt
    clear hb2 hB2 hrow2 hpt
    by_cases h1 : pt = (d : Int)
    case neg =>
      have g1 : (pt == (d : Int)) = false := by simpa using h1
      have HN := Lib.hid (show FarM T f d (x + 1) φ from far_skip HS.out HFF.out HFM.out HXT.out fun q => h1 (by rw [HPT.out, HTX.out]; exact q.1))
      clear h1
      go_wp2
      go_roundw
      case rel => exact ⟨x + 1, φ, by omega, by go_num, HROW2.out, HN, HB2'.out⟩
      case measure => simp [intOf]; omega
    case pos =>
    have g1 : (pt == (d : Int)) = true := by simpa using h1
    by_cases h2 : 0 ≤ o
    case neg =>
      have g2 : decide (o ≥ 0) = false := by simpa using h2
      have HN := Lib.hid (show FarM T f d (x + 1) φ from far_skip HS.out HFF.out HFM.out HXT.out fun q => by
        obtain ⟨-, o', h, -⟩ := q
        rw [← HO.out] at h
        omega)
      clear h1 h2
      go_wp2
      go_roundw
      case rel => exact ⟨x + 1, φ, by omega, by go_num, HROW2.out, HN, HB2'.out⟩
      case measure => simp [intOf]; omega
    case pos =>
    have g2 : decide (o ≥ 0) = true := by simpa using h2
    obtain ⟨on, rfl⟩ := Int.eq_ofNat_of_zero_le h2
    have ho3 : on < l3 := by
      obtain ⟨o', ho', h1, -⟩ := HS.out.opp_opp HXT.out (by rw [← HO.out]; omega)
      rw [← HO.out] at ho'
      rw [HL3.out, HF.out]
      omega
    obtain ⟨u, hu⟩ : ∃ t, t = on / 3 := ⟨_, rfl⟩
    have huF : u < F := by have := HL3.out; omega
    have hq2 : Int.tdiv (on : Int) 3 = (u : Int) := by rw [Int.tdiv_eq_ediv_of_nonneg (by omega)]; omega
    have hkw2 : IntKind.i64.wrap (u : Int) = (u : Int) := IntWalk.i64_in _ (by omega)
    have bu : (0 : Int) ≤ (u : Int) ∧ (u : Int) < (F : Int) := by omega
    have c2 := HROW2.out.cell (i := u) (v := .int .i64 (φ u)) (iv_get _ huF)
    obtain ⟨pu, hpu⟩ : ∃ v, v = φ u := ⟨_, rfl⟩
    rw [← hpu] at c2
    have HPU := Lib.hid hpu
    have HUX := Lib.hid hu
    clear hpu hu
    by_cases h3' : pu < 0
    case neg =>
      have g3 : decide (pu < 0) = false := by simpa using h3'
      have HN := Lib.hid (show FarM T f d (x + 1) φ from far_skip HS.out HFF.out HFM.out HXT.out fun q => by
        obtain ⟨-, o', h, h'⟩ := q
        rw [← HO.out] at h
        obtain rfl : o' = on := by omega
        rw [← HUX.out, ← HPU.out] at h'
        exact h3' h')
      clear h1 h2 h3'
      go_wp2
      go_roundw
      case rel => exact ⟨x + 1, φ, by omega, by go_num, HROW2.out, HN, HB2'.out⟩
      case measure => simp [intOf]; omega
    case pos =>
    have g3 : decide (pu < 0) = true := by simpa using h3'
    have f2 := HROW2.out.free u
    have hwd : IntKind.i64.wrap ((d : Int) + 1) = (d : Int) + 1 := IntWalk.i64_in _ (by omega)
    have HN := Lib.hid (show FarM T f d (x + 1) (upd φ u ((d : Int) + 1)) ∧ RowIs (Z2.setCell ⟨gf, u, none⟩ (.int .i64 ((d : Int) + 1))) gf 3 (iv (upd φ u ((d : Int) + 1)) F) ∧ Below gf w3 (Z2.setCell ⟨gf, u, none⟩ (.int .i64 ((d : Int) + 1))) from by
      refine ⟨?_, by rw [← iv_set]; exact HROW2.out.set u _, HB2'.out.setCell (p := ⟨gf, u, none⟩) (Nat.le_refl _) _⟩
      have := far_set HS.out HFF.out HFM.out HXT.out (by rw [← HTX.out, ← HPT.out]; exact h1) HO.out.symm (by rw [← HUX.out, ← HPU.out]; exact h3')
      rw [← HUX.out] at this
      exact this)
    clear h1 h2 h3'
    go_wp2
    go_roundw
    case rel => exact ⟨x + 1, _, by omega, by go_num, HN.out.2.1, Lib.hid HN.out.1, HN.out.2.2⟩
    case measure => simp [intOf]; omega
  case neg =>
  obtain rfl : F = d := by omega
  have HFM2 := Lib.hid (show FarM T f T.length 0 φ from by have := HFM.out; rw [HF.out] at this; exact this)
  have HEND := Lib.hid (far_end HS.out HFF.out HFM2.out)
  have HLF := Lib.hid (fun (t : Nat) (h : t < F) => link_far HS.out HFF.out HFM2.out (t := t) (by rw [← HF.out]; exact h))
  have HCL := Lib.hid (count_links HS.out HFF.out HFM2.out)
  rw [← HF.out] at HCL
  have HBD := Lib.hid (show ∀ t, t < F → -1 ≤ φ t ∧ φ t ≤ F from fun t h => by
    rcases HEND.out t (by rw [← HF.out]; exact h) with ⟨h1, h2⟩ | ⟨h1, h2⟩
    · have h3 := HI.out.dl t h1
      have h4 := HI.out.len
      rw [← HF.out] at h4
      omega
    · omega)
  clear hrow hb HFM HFM2
  go_wp2
  go_loopw [13, 14, 108] (fun mv rv v ws => ∃ i : Nat, i ≤ F ∧ v = .int .i64 i ∧ mv = .int .i64 ((List.range i).countP (fun j => decide (0 ≤ (bfs T f).l j)) : Nat) ∧ rv = .int .i64 ((List.range i).countP (fun j => decide (0 ≤ φ j)) : Nat) ∧ RowIs ws gf 3 (iv φ F) ∧ Below gf w3 ws) (fun _ _ v _ => F - (intOf v).toNat)
  case atStart => exact ⟨0, by omega, rfl, by simp, by simp, HROW.out, HB.out⟩
  case round =>
  clear HROW HB
  obtain ⟨i, hi, rfl, rfl, rfl, hrow, hb⟩ := hrel
  obtain ⟨Z, rfl⟩ : ∃ X : World, X = wr := ⟨_, rfl⟩
  have HB := Lib.hid hb
  have HROW := Lib.hid hrow
  obtain ⟨mc, hmc⟩ : ∃ c, c = (List.range i).countP (fun j => decide (0 ≤ (bfs T f).l j)) := ⟨_, rfl⟩
  obtain ⟨rc, hrc⟩ : ∃ c, c = (List.range i).countP (fun j => decide (0 ≤ φ j)) := ⟨_, rfl⟩
  have hmi : mc ≤ i := by rw [hmc]; exact countP_le18 _ i
  have hri : rc ≤ i := by rw [hrc]; exact countP_le18 _ i
  have HMC := Lib.hid hmc
  have HRC := Lib.hid hrc
  rw [← hmc, ← hrc]
  by_cases hlt : i < F
  case neg =>
    obtain rfl : F = i := by omega
    have hcl : rc = mc + 1 := by rw [hmc, hrc]; exact HCL.out
    have g1 : ((mc : Int) == (rc : Int) - 1) = true := by rw [hcl]; simp
    have hw1 : IntKind.i64.wrap ((rc : Int) - 1) = (rc : Int) - 1 := IntWalk.i64_in _ (by omega)
    have HFIN := Lib.hid (HX.out Z hb).2.2.2
    clear hrow hb hmc hrc hcl
    go_wp2
    exact bodyPost_ret (v := .bool true) (by simp [results, Tryz.results6, go_sem]) rfl ⟨rfl, HFIN.out⟩
  case pos =>
  have bi : (0 : Int) ≤ (i : Int) ∧ (i : Int) < (F : Int) := by omega
  have cl := (HX.out Z hb).2.2.1.cell (i := i) (v := .int .i64 ((bfs T f).l i)) (iv_get _ hlt)
  have cf := hrow.cell (i := i) (v := .int .i64 (φ i)) (iv_get _ hlt)
  have hbd := HBD.out i hlt
  have hmn := countP_succ18 (fun j => decide (0 ≤ (bfs T f).l j)) i
  have hrn := countP_succ18 (fun j => decide (0 ≤ φ j)) i
  rw [← hmc] at hmn
  rw [← hrc] at hrn
  rcases HLF.out i hlt with ⟨hl, hp0, -⟩ | ⟨c, o, hl, hc3, hci, ho, ho3, hpo, hp0⟩
  case inl =>
    rw [hl] at cl
    have HMN := Lib.hid (show (List.range (i + 1)).countP (fun j => decide (0 ≤ (bfs T f).l j)) = mc from by rw [hmn, hl]; simp)
    obtain ⟨pf, hpf⟩ : ∃ v, v = φ i := ⟨_, rfl⟩
    rw [← hpf] at cf hp0 hbd hrn
    by_cases h0 : 0 ≤ pf
    · have g1 : decide (pf ≥ 0) = true := by simpa using h0
      have g2 : decide (pf > 0) = false := by simp; omega
      have g2' : decide (0 < pf) = false := by simp; omega
      have HRN := Lib.hid (show (List.range (i + 1)).countP (fun j => decide (0 ≤ φ j)) = rc + 1 from by rw [hrn]; simp [h0])
      clear hrow hb hmc hrc hmn hrn hl hpf h0 hp0 hbd
      go_wp2
      go_roundw
      case rel => exact ⟨i + 1, by omega, by go_num, by rw [HMN.out], by rw [HRN.out]; go_num, HROW.out, HB.out⟩
      case measure => simp [intOf]; omega
    · have g1 : decide (pf ≥ 0) = false := by simpa using h0
      have g2 : decide (pf > 0) = false := by simp; omega
      have g2' : decide (0 < pf) = false := by simp; omega
      have HRN := Lib.hid (show (List.range (i + 1)).countP (fun j => decide (0 ≤ φ j)) = rc from by rw [hrn]; simp [h0])
      clear hrow hb hmc hrc hmn hrn hl hpf h0 hp0 hbd
      go_wp2
      go_roundw
      case rel => exact ⟨i + 1, by omega, by go_num, by rw [HMN.out], by rw [HRN.out], HROW.out, HB.out⟩
      case measure => simp [intOf]; omega
  case inr =>
  rw [hl] at cl
  have HMN := Lib.hid (show (List.range (i + 1)).countP (fun j => decide (0 ≤ (bfs T f).l j)) = mc + 1 from by rw [hmn, hl]; simp)
  have HRN := Lib.hid (show (List.range (i + 1)).countP (fun j => decide (0 ≤ φ j)) = rc + 1 from by rw [hrn]; simp; omega)
  have hq : Int.tdiv (c : Int) 3 = (i : Int) := by rw [Int.tdiv_eq_ediv_of_nonneg (by omega)]; omega
  have hkw : IntKind.i64.wrap (i : Int) = (i : Int) := IntWalk.i64_in _ (by omega)
  obtain ⟨u, hu⟩ : ∃ t, t = o / 3 := ⟨_, rfl⟩
  have hul : o < l3 := by rw [HL3.out, HF.out]; exact ho3
  have huF : u < F := by have := HL3.out; omega
  have hq2 : Int.tdiv (o : Int) 3 = (u : Int) := by rw [Int.tdiv_eq_ediv_of_nonneg (by omega)]; omega
  have hkw2 : IntKind.i64.wrap (u : Int) = (u : Int) := IntWalk.i64_in _ (by omega)
  have bu : (0 : Int) ≤ (u : Int) ∧ (u : Int) < (F : Int) := by omega
  have hcl3 : c < l3 := by rw [HL3.out, HF.out]; exact hc3
  have HOX := Lib.hid (HOP.out Z c hb hcl3)
  rw [ho] at HOX
  rw [← hu] at hpo
  have hbu := HBD.out u huF
  obtain ⟨pu, hpu⟩ : ∃ v, v = φ u := ⟨_, rfl⟩
  obtain ⟨pf, hpf⟩ : ∃ v, v = φ i := ⟨_, rfl⟩
  rw [← hpf] at cf hp0 hpo
  rw [← hpu] at hpo hbu
  have g1 : decide (pf ≥ 0) = true := by simp; omega
  have g2 : ((i : Int) != (i : Int)) = false := by simp
  have g3 : decide ((o : Int) < 0) = false := by simp
  have hwp : IntKind.i64.wrap (pu + 1) = pu + 1 := IntWalk.i64_in _ (by omega)
  have g4 : (pf != pu + 1) = false := by rw [hpo]; simp
  have HPF := Lib.hid hpf
  have HPU := Lib.hid hpu
  clear hrow hb hmc hrc hmn hrn hl hpf hpu hc3 hci ho ho3 hpo hp0 hbd hu
  go_wp2_with fail
  refine HOX.out.mono ?_
  rintro e Z2 ⟨rfl, hb2⟩
  have hB2 := below_more HB.out hb2 (by have := HROW.out.lt; have := HB.out.size; have := HGS.out; omega)
  have hrow2 := HROW.out.after hb2
  have cf2 := hrow2.cell (i := i) (v := .int .i64 (φ i)) (iv_get _ hlt)
  have cu2 := hrow2.cell (i := u) (v := .int .i64 (φ u)) (iv_get _ huF)
  rw [← HPF.out] at cf2
  rw [← HPU.out] at cu2
  have HQN := Lib.hid (show ∀ q, RowIs (Z2.drewN q) gf 3 (iv φ F) ∧ Below gf w3 (Z2.drewN q) from fun q => ⟨hrow2.drew q, below_drewN hB2 q⟩)
  clear hb2 hB2 hrow2 cf cl
  go_wp2
  go_quiet (fail)
  rename_i nq
  have HQ := Lib.hid (HQN.out nq)
  clear cf2 cu2
  go_wp2
  go_roundw
  case rel => exact ⟨i + 1, by omega, by go_num, by rw [HMN.out]; go_num, by rw [HRN.out]; go_num, HQ.out.1, HQ.out.2⟩
  case measure => simp [intOf]; omega
end Go.Proofs.YtkjamheoihlekaaGreat

/- gypsumlaw14.GenusNames: the walk. -/
import Derived.Test.YtbeefabboabfgaaGreatSolid14
import Derived.Test.YtbeefabboabfgaaGreatTabSoup
import Derived.Test.YtbeefabboabfgaaGreatEachW
import Derived.Test.YtbeefabboabfgaaGreatNumEq
import Derived.Test.YtbeefabboabfgaaGreatKinds
import Derived.Deep.RegionHeld3
import Derived.BigQuiet
namespace Go.Proofs.YtbeefabboabfgaaGreat
set_option linter.unusedVariables false
set_option linter.unusedSimpArgs false
open Go.RowKit
theorem ren_one {n : Nat} {T : List Tr} {I : List Int} {w w' : World} {e : Ending} (h : RenPost n T I w e w') : Below w.heap.size w w' ∧ ∃ (N : Int) (a : Option Addr) (q c : Nat) (r : Int), e = .returned (.tuple #[.agg #[.int .i64 N, .slice a q c], .int .i64 r]) ∧
    (r = 0 → N = (n : Int) ∧ q = T.length ∧ w'.ownsRow w.heap.size 62 3 (.slice a q c) q (tcells (rnT (toI I) T)) ∧ Names n (toI I)) := by
  rcases h with ⟨hb, ⟨r, hr, rfl⟩ | ⟨a, c, rfl, h1, h2⟩⟩
  · exact ⟨hb, 0, none, 0, 0, r, rfl, fun h => absurd h hr⟩
  · exact ⟨hb, n, a, T.length, c, 0, rfl, fun _ => ⟨rfl, rfl, h1, h2⟩⟩
theorem pick_one {n : Nat} {T : List Tr} {I : List Int} {w w' : World} {e : Ending} (h : PickPost n T I w e w') : Below w.heap.size w w' ∧ ∃ (N : Int) (a : Option Addr) (q c : Nat) (r : Int), e = .returned (.tuple #[.agg #[.int .i64 N, .slice a q c], .int .i64 r]) ∧
    (r = 0 → N = (n : Int) ∧ q = I.length ∧ w'.ownsRow w.heap.size 62 3 (.slice a q c) q (tcells (pickT T (I.map Int.toNat))) ∧ ∀ c ∈ I.map Int.toNat, c < 3 * T.length) := by
  rcases h with ⟨hb, ⟨r, hr, rfl⟩ | ⟨a, c, rfl, h1, h2⟩⟩
  · exact ⟨hb, 0, none, 0, 0, r, rfl, fun h => absurd h hr⟩
  · exact ⟨hb, n, a, I.length, c, 0, rfl, fun _ => ⟨rfl, rfl, h1, h2⟩⟩
/-- The row of surfaces, where the walk stands. -/
def Rows2 (n : Nat) (z : Nat → Int) (E : List (Int × Int)) (W : World) (gr : Nat) (v : Value) (k : Nat) (w : World) : Prop :=
  ∃ (va : Option Addr) (vc : Nat) (D : List SoupAt), v = .slice va D.length vc ∧ RowS n z E w gr (.slice va D.length vc) D ∧ Below W.heap.size W w ∧ gr ≤ w.heap.size ∧ D.length ≤ k
theorem Rows2.push {n : Nat} {z : Nat → Int} {E : List (Int × Int)} {W w w' : World} {gr : Nat} {va : Option Addr} {vc k : Nat} {D : List SoupAt} {v' : Value} {ao : Option Addr} {cap : Nat} {U : List Tr} (h : RowS n z E w gr (.slice va D.length vc) D) (hb : ∃ b, w.ownsRow b 62 3 (.slice ao U.length cap) U.length (tcells U)) (hL : Like n z E U)
    (hB : Below W.heap.size W w) (hg : gr ≤ w.heap.size) (hW : W.heap.size ≤ gr) (hk : D.length ≤ k)
    (hown : w'.ownsRow gr 24 2 v' (D.length + 1) (scells n D ++ [.int .i64 (n : Int), .slice ao U.length cap])) (hbel : ∀ B w0, B ≤ gr → Below B w0 w → Below B w0 w')
    (hgr : (w.alloc (.cells #[.int .i64 (n : Int), .slice ao U.length cap] 24)).grownBy w' (Value.slice va D.length vc).ownBlock) : Rows2 n z E W gr v' (k + 1) w' := by
  obtain ⟨a', c', rfl⟩ := owns_slice hown
  have ha : Below w.heap.size w (w.alloc (.cells #[.int .i64 (n : Int), .slice ao U.length cap] 24)) := (Below.refl _ _).alloc (Nat.le_refl _) _
  have hp := RowS.push (h.after ha) (hb.elim fun b hb' => ⟨b, owns_below hb' ha⟩) hL hown hgr
  have el : (D ++ [(ao, cap, U)]).length = D.length + 1 := by simp
  refine ⟨a', c', D ++ [(ao, cap, U)], by rw [el], by rw [el]; exact hp, hbel _ _ hW hB, Nat.le_trans hg (Nat.le_trans ha.size hgr.size), by rw [el]; omega⟩
set_option maxRecDepth 100000 in
set_option maxHeartbeats 8000000 in
theorem namesW14 (N : Int) (ao : Option Addr) (cap : Nat) (T : List Tr) (io : Option Addr) (ic : Nat) (I : List Int) (jo : Option Addr) (jc : Nat) (J : List Int) (w : World) (hT : TrisAt w ao T) (hm : T.length ≤ 9223372036854775807) (hI : IntsAt w io I) (_ : I.length ≤ 9223372036854775807) (_ : I.length ≤ ic) (hJ : IntsAt w jo J) (_ : J.length ≤ 9223372036854775807) (_ : J.length ≤ jc) :
    Calls Tryz.prog 6 #[.agg #[.int .i64 N, .slice ao T.length cap], .slice io I.length ic, .slice jo J.length jc] w fun e w' => e = .returned (.bool true) ∧ Below w.heap.size w w' := by
  obtain ⟨i0, hi, hz0, hz1, hz2⟩ := info_parts infoSoup
  obtain ⟨W0, hW0⟩ : ∃ W0, W0 = w.alloc (.cells #[.int .i64 N, .slice ao T.length cap] 24) := ⟨_, rfl⟩
  have hb0 : Below w.heap.size w W0 := by rw [hW0]; exact (Below.refl _ _).alloc (Nat.le_refl _) _
  have hr0 : RowIs W0 w.heap.size 24 [.int .i64 N, .slice ao T.length cap] := by rw [hW0]; exact RowIs.made w 24 [.int .i64 N, .slice ao T.length cap]
  obtain ⟨xb, hxb⟩ : ∃ x, x = w.heap.size := ⟨_, rfl⟩
  rw [← hxb] at hr0
  have HT := Lib.hid (hT.mono (Nat.le_refl _) hb0)
  have HI := Lib.hid (hI.mono (Nat.le_refl _) hb0)
  have HJ := Lib.hid (hJ.mono (Nat.le_refl _) hb0)
  have HK := Lib.hid (show ∀ X, Below W0.heap.size W0 X → X.cell? ⟨xb, 0, none⟩ = some (.int .i64 N) ∧ X.cell? ⟨xb, 1, none⟩ = some (.slice ao T.length cap) from fun X h => ⟨(hr0.after h).cell (i := 0) rfl, (hr0.after h).cell (i := 1) rfl⟩)
  have HM := Lib.hid hm
  have HB0 := Lib.hid hb0
  have HW0 := Lib.hid hW0
  have HXB := Lib.hid hxb
  clear hb0 hr0 hW0 hT hI hJ hm hxb
  go_enter Tryz.func6, Tryz.ntmps6
  go_upto_region 1 with fail
  simp only [← HXB.out]
  rw [← HW0.out]
  go_wp2_with fail
  refine (awake14 _).mono ?_
  rintro e w1 ⟨rfl, hb1⟩
  have HB1 := Lib.hid hb1
  obtain ⟨x0, x1⟩ := HK.out w1 hb1
  have HLA := Lib.hid (laid_any N ao cap T w1 (HT.out.mono (Nat.le_refl _) hb1) HM.out)
  clear hb1
  go_wp2_with fail
  refine HLA.out.mono ?_
  rintro e w2 (⟨n, p, rfl, rfl, -, htab, hfst, hs, htl, hnl, hb2⟩ | ⟨rfl, -, hb2⟩)
  case inr =>
    have HF := Lib.hid (below_more HB0.out (below_more HB1.out hb2 HB1.out.size) HB0.out.size)
    clear hb2 x0 x1
    go_wp2
    exact bodyPost_ret (v := .bool true) (by simp [results, Tryz.results6, go_sem]) rfl ⟨rfl, HF.out⟩
  have HB2 := Lib.hid (below_more HB1.out hb2 HB1.out.size)
  have HTB := Lib.hid (show Tab w2 p n T ∧ FirstAt w2 p T n from ⟨htab, hfst⟩)
  have HS := Lib.hid hs
  have HTL := Lib.hid htl
  clear hb2 x0 x1 htab hfst hs htl HLA
  by_cases hil : I.length ≤ 60
  case neg =>
    have d0 : decide ((I.length : Int) > 60) = true := by simp; omega
    have d0' : decide ((60 : Int) < (I.length : Int)) = true := by simp; omega
    have d0n : decide (60 < I.length) = true := by simp; omega
    have HF := Lib.hid (below_more HB0.out HB2.out HB0.out.size)
    clear hil
    go_wp2
    exact bodyPost_ret (v := .bool true) (by simp [results, Tryz.results6, go_sem]) rfl ⟨rfl, HF.out⟩
  have d0 : decide ((I.length : Int) > 60) = false := by simp; omega
  have d0' : decide ((60 : Int) < (I.length : Int)) = false := by simp; omega
  have d0n : decide (60 < I.length) = false := by simp; omega
  by_cases hjl : J.length ≤ 40
  case neg =>
    have d1 : decide ((J.length : Int) > 40) = true := by simp; omega
    have d1' : decide ((40 : Int) < (J.length : Int)) = true := by simp; omega
    have d1n : decide (40 < J.length) = true := by simp; omega
    have HF := Lib.hid (below_more HB0.out HB2.out HB0.out.size)
    clear hil hjl
    go_wp2
    exact bodyPost_ret (v := .bool true) (by simp [results, Tryz.results6, go_sem]) rfl ⟨rfl, HF.out⟩
  have d1 : decide ((J.length : Int) > 40) = false := by simp; omega
  have d1' : decide ((40 : Int) < (J.length : Int)) = false := by simp; omega
  have d1n : decide (40 < J.length) = false := by simp; omega
  obtain ⟨L, hL⟩ := shells_exist (Adj T) T.length
  obtain ⟨m, hm⟩ := Int.eq_ofNat_of_zero_le (cnt_nonneg L T.length)
  have HW := Lib.hid (whole_ok p n m T L w2 HTB.out.1 HTB.out.2 HS.out hL hm.symm)
  obtain ⟨z, hz⟩ : ∃ z : Nat → Int, z = fun i => sumF (genF T L n) m i := ⟨_, rfl⟩
  obtain ⟨E, hE⟩ : ∃ E, E = sortP (kindL (genF T L n) m) := ⟨_, rfl⟩
  have HLS := Lib.hid (show Like n z E T from by rw [hz, hE]; exact like_self HS.out hL hm.symm)
  have HLM := Lib.hid (show Like n z E (mirT T) from by rw [hz, hE]; exact like_mirror HS.out hL hm.symm)
  have HLR := Lib.hid (show ∀ r, Names n r → Like n z E (rnT r T) from fun r hr => by rw [hz, hE]; exact like_rename HS.out hr hL hm.symm)
  have HLP := Lib.hid (show ∀ C : List Nat, (∀ c ∈ C, c < 3 * T.length) → C.length = T.length → Surf n (pickT T C) → Like n z E (pickT T C) from fun C h1 h2 h3 => by rw [hz, hE]; exact like_pick HS.out hL hm.symm h1 h2 h3)
  have hzi : ∀ i, sumF (genF T L n) m i = z i := fun i => by rw [hz]
  rw [hzi, hzi, hzi, hzi, hzi, hzi] at HW
  obtain ⟨z0, h0⟩ : ∃ x, x = z 0 := ⟨_, rfl⟩
  obtain ⟨z1, h1⟩ : ∃ x, x = z 1 := ⟨_, rfl⟩
  obtain ⟨z2, h2⟩ : ∃ x, x = z 2 := ⟨_, rfl⟩
  obtain ⟨z3, h3⟩ : ∃ x, x = z 3 := ⟨_, rfl⟩
  obtain ⟨z4, h4⟩ : ∃ x, x = z 4 := ⟨_, rfl⟩
  obtain ⟨z5, h5⟩ : ∃ x, x = z 5 := ⟨_, rfl⟩
  rw [← h0, ← h1, ← h2, ← h3, ← h4, ← h5] at HW
  have HZ := Lib.hid (show z 0 = z0 ∧ z 1 = z1 ∧ z 2 = z2 ∧ z 3 = z3 ∧ z 4 = z4 ∧ z 5 = z5 from ⟨h0.symm, h1.symm, h2.symm, h3.symm, h4.symm, h5.symm⟩)
  have hcmp : ∀ X : World, (Op.equalIn 10000 33 (.agg #[.int .i64 z0, .int .i64 z1, .int .i64 z2, .int .i64 z3, .int .i64 z4, .int .i64 z5]) (.agg #[.int .i64 z0, .int .i64 z1, .int .i64 z2, .int .i64 z3, .int .i64 z4, .int .i64 z5])).run Tryz.prog X = .ok true X := fun X => by
    have := num_equal z0 z1 z2 z3 z4 z5 z0 z1 z2 z3 z4 z5 X
    simpa using this
  obtain ⟨t, ht⟩ : ∃ t, t = T.length := ⟨_, rfl⟩
  obtain ⟨l1, hl1⟩ : ∃ l, l = I.length := ⟨_, rfl⟩
  obtain ⟨l2, hl2⟩ : ∃ l, l = J.length := ⟨_, rfl⟩
  have HTT := Lib.hid ht
  have HL1 := Lib.hid hl1
  have HL2 := Lib.hid hl2
  have HIL := Lib.hid hil
  have HJL := Lib.hid hjl
  have ht40 : t ≤ 40 := by rw [ht]; exact HTL.out
  rw [← ht] at HK
  rw [← hl1] at d0 d0' d0n ⊢
  rw [← hl2] at d1 d1' d1n ⊢
  rw [← ht]
  clear hil hjl hL hm hzi hz hE h0 h1 h2 h3 h4 h5 ht hl1 hl2
  go_upto_region 6 with fail
  clear d0 d0' d0n d1 d1' d1n
  go_wp2_with fail
  refine HW.out.mono ?_
  rintro e w5 ⟨rfl, hb5⟩
  obtain ⟨gw, hgw⟩ : ∃ g, g = w5.heap.size := ⟨_, rfl⟩
  obtain ⟨W6, hW6⟩ : ∃ W6, W6 = w5.alloc (.cells #[.int .i64 z0, .int .i64 z1, .int .i64 z2, .int .i64 z3, .int .i64 z4, .int .i64 z5] 33) := ⟨_, rfl⟩
  have hb6 : Below w5.heap.size w5 W6 := by rw [hW6]; exact (Below.refl _ _).alloc (Nat.le_refl _) _
  have hr6 : RowIs W6 gw 33 [.int .i64 z0, .int .i64 z1, .int .i64 z2, .int .i64 z3, .int .i64 z4, .int .i64 z5] := by rw [hW6, hgw]; exact RowIs.made w5 33 [.int .i64 z0, .int .i64 z1, .int .i64 z2, .int .i64 z3, .int .i64 z4, .int .i64 z5]
  have HB6 := Lib.hid (below_more HB2.out (below_more hb5 hb6 hb5.size) HB2.out.size)
  have HKW := Lib.hid (show ∀ X, Below W6.heap.size W6 X → X.cell? ⟨xb, 0, none⟩ = some (.int .i64 (n : Int)) ∧ X.cell? ⟨xb, 1, none⟩ = some (.slice ao t cap) ∧ X.cell? ⟨gw, 0, none⟩ = some (.int .i64 z0) ∧ X.cell? ⟨gw, 1, none⟩ = some (.int .i64 z1) ∧ X.cell? ⟨gw, 2, none⟩ = some (.int .i64 z2) ∧ X.cell? ⟨gw, 3, none⟩ = some (.int .i64 z3) ∧ X.cell? ⟨gw, 4, none⟩ = some (.int .i64 z4) ∧ X.cell? ⟨gw, 5, none⟩ = some (.int .i64 z5) from fun X h => by
    obtain ⟨a, b⟩ := HK.out X (below_more HB6.out h HB6.out.size)
    have hr := hr6.after h
    exact ⟨a, b, hr.cell (i := 0) rfl, hr.cell (i := 1) rfl, hr.cell (i := 2) rfl, hr.cell (i := 3) rfl, hr.cell (i := 4) rfl, hr.cell (i := 5) rfl⟩)
  have HT6 := Lib.hid (HT.out.mono (Nat.le_refl _) HB6.out)
  have HI6 := Lib.hid (HI.out.mono (Nat.le_refl _) HB6.out)
  have HJ6 := Lib.hid (HJ.out.mono (Nat.le_refl _) HB6.out)
  have HW6 := Lib.hid hW6
  have HGW := Lib.hid hgw
  obtain ⟨x0, x1, -⟩ := HKW.out W6 (Below.refl _ _)
  clear hb5 hb6 hr6 hW6 hgw HW HB1 HB2 HTB HT HI HJ HK HM
  have HMR := Lib.hid (mirror_ok n ao cap T W6 HT6.out (by rw [← HTT.out]; omega))
  rw [← HTT.out] at HMR
  go_upto_region 7 with fail
  rw [← HW6.out]
  simp only [← HGW.out]
  go_wp2_with fail
  refine HMR.out.mono ?_
  rintro e w7 ⟨a7, c7, rfl, ho7, hb7⟩
  obtain ⟨gr, hgr⟩ : ∃ g, g = w7.heap.size := ⟨_, rfl⟩
  obtain ⟨W7, hW7⟩ : ∃ W7, W7 = w7.alloc (.cells #[.int .i64 (n : Int), .slice a7 t c7] 24) := ⟨_, rfl⟩
  have hb77 : Below w7.heap.size w7 W7 := by rw [hW7]; exact (Below.refl _ _).alloc (Nat.le_refl _) _
  have HB7 := Lib.hid (below_more hb7 hb77 hb7.size)
  have hlm : (mirT T).length = t := by rw [mirT_len, HTT.out]
  have HROW7 := Lib.hid (show RowS n z E W7 gr (.slice (some ⟨gr, 0, none⟩) 1 1) [(a7, c7, mirT T)] from by
    have := RowS.one (n := n) (z := z) (E := E) (w := w7) (ao := a7) (cap := c7) (U := mirT T) ⟨_, by rw [hlm]; exact ho7⟩ HLM.out
    rw [hlm, ← hW7, ← hgr] at this
    exact this)
  have HGR6 := Lib.hid (show W6.heap.size ≤ gr from by rw [hgr]; exact hb7.size)
  have HGR7 := Lib.hid (show gr ≤ W7.heap.size from by rw [hW7, hgr]; simp)
  have HW7 := Lib.hid hW7
  have HGR := Lib.hid hgr
  clear x0 x1 ho7 hb7 hb77 hW7 hgr HMR hlm
  obtain ⟨x0, x1, -⟩ := HKW.out W7 HB7.out
  have HRN := Lib.hid (rename_ok n ao cap T io ic I W7 HS.out (HT6.out.mono (Nat.le_refl _) HB7.out) (HI6.out.mono (Nat.le_refl _) HB7.out) HIL.out)
  rw [← HL1.out, ← HTT.out] at HRN
  go_upto_region 8 with fail
  rw [← HW7.out]
  simp only [← HGR.out]
  go_wp2_with fail
  refine HRN.out.mono ?_
  intro e w8 hpost
  obtain ⟨hb8, N8, a8, q8, c8, r8, rfl, hr8⟩ := ren_one hpost
  clear hpost
  have HR8 := Lib.hid (show r8 = 0 → N8 = (n : Int) ∧ q8 = t ∧ w8.ownsRow W7.heap.size 62 3 (.slice a8 q8 c8) q8 (tcells (rnT (toI I) T)) ∧ Names n (toI I) from fun h => by rw [HTT.out]; exact hr8 h)
  obtain ⟨g8, hg8⟩ : ∃ g, g = w8.heap.size := ⟨_, rfl⟩
  obtain ⟨W8, hW8⟩ : ∃ W8, W8 = w8.alloc (.cells #[.int .i64 N8, .slice a8 q8 c8] 24) := ⟨_, rfl⟩
  have hb88 : Below w8.heap.size w8 W8 := by rw [hW8]; exact (Below.refl _ _).alloc (Nat.le_refl _) _
  have hb78 : Below W7.heap.size W7 W8 := below_more hb8 hb88 hb8.size
  have HB8 := Lib.hid (below_more HB7.out hb78 HB7.out.size)
  have HROW8 := Lib.hid (HROW7.out.after hb78)
  have HGR8 := Lib.hid (show gr ≤ W8.heap.size from Nat.le_trans HGR7.out hb78.size)
  have HRW8 := Lib.hid (show RowIs W8 g8 24 [.int .i64 N8, .slice a8 q8 c8] from by rw [hW8, hg8]; exact RowIs.made w8 24 [.int .i64 N8, .slice a8 q8 c8])
  have HO8 := Lib.hid (show r8 = 0 → N8 = (n : Int) ∧ q8 = t ∧ W8.ownsRow W7.heap.size 62 3 (.slice a8 q8 c8) q8 (tcells (rnT (toI I) T)) ∧ Names n (toI I) from fun h => by
    obtain ⟨p0, p1, p2, p3⟩ := HR8.out h
    exact ⟨p0, p1, owns_below p2 hb88, p3⟩)
  have HW8 := Lib.hid hW8
  have HG8 := Lib.hid hg8
  have HB68 := Lib.hid (show Below W6.heap.size W6 W8 from HB8.out)
  clear x0 x1 hb8 hr8 hg8 hW8 hb88 hb78 HRN HR8 HROW7
  obtain ⟨γ, hγ⟩ : ∃ γ, decide (r8 = 0) = γ := ⟨_, rfl⟩
  have hγ2 : (r8 == 0) = γ := by rw [← hγ]; rfl
  have HG := Lib.hid hγ
  go_upto_if 46 with fail
  rw [← HW8.out]
  simp only [← HG8.out]
  clear hγ hγ2
  go_cut [9, 47, 48, 49, 50] (fun s9 _ _ _ _ wc => Rows2 n z E W6 gr s9 2 wc)
  case first =>
    cases γ
    case false =>
      go_wp2
      go_meet
      exact ⟨_, _, _, rfl, HROW8.out, HB68.out, HGR8.out, by simp⟩
    case true =>
      obtain ⟨rfl, rfl, ho8, hnm⟩ := HO8.out (by simpa using HG.out)
      have y0 := HRW8.out.cell (i := 0) rfl
      have y1 := HRW8.out.cell (i := 1) rfl
      have HLR8 := Lib.hid (HLR.out _ hnm)
      have HO8' := Lib.hid ho8
      clear ho8 hnm
      go_wp2_with (at_builtin; refine wpList_append_new _ rfl _ _ 47 rfl gr 24 i0 _ 2 32 (by kernel_rfl) hi hz0 hz1 hz2 rfl (by decide) _ _ _ rfl HROW8.out.1 _ _ _ rfl (by first | rfl | simp) rfl ?_ ?_ ?_ ?_ ?_)
      all_goals first | rfl | omega | (unfold maxLen; simp; done) | exact ⟨rfl, rfl⟩ | exact HGR8.out | skip
      · intro v' w9 hown hbel hgr
        have hl8 : (rnT (toI I) T).length = q8 := by rw [rnT_len, HTT.out]
        have HP := Lib.hid (Rows2.push (k := 1) HROW8.out ⟨_, by rw [hl8]; exact HO8'.out⟩ HLR8.out HB68.out HGR8.out HGR6.out (by simp) (by rw [hl8]; exact hown) hbel (by rw [hl8]; exact hgr))
        clear hown hbel hgr hl8 y0 y1
        go_wp2
        go_meet
        exact HP.out
  case rest =>
  obtain ⟨W10, rfl⟩ : ∃ W10 : World, W10 = wc := ⟨_, rfl⟩
  obtain ⟨va, vc, D, rfl, hrow, hb10, hgr10, hD⟩ := hcut
  obtain ⟨dl0, hdl0⟩ : ∃ d, d = D.length := ⟨_, rfl⟩
  rw [← hdl0] at hrow hD ⊢
  have HROW10 := Lib.hid hrow
  have HB10 := Lib.hid hb10
  have HGR10 := Lib.hid hgr10
  have HDL0 := Lib.hid hdl0
  clear hrow hb10 hgr10 hdl0 HRW8 HO8 HW8 HG8 HB68 HROW8 HGR8 HB8 HB7 HW7 HGR7 HG HI6
  obtain ⟨x0, x1, -⟩ := HKW.out W10 HB10.out
  have HPK := Lib.hid (pick_ok n ao cap T jo jc J W10 HS.out (HT6.out.mono (Nat.le_refl _) HB10.out) (HJ6.out.mono (Nat.le_refl _) HB10.out) (by have := HJL.out; omega))
  rw [← HL2.out, ← HTT.out] at HPK
  go_upto_region 11 with fail
  go_wp2_with fail
  refine HPK.out.mono ?_
  intro e w11 hpost
  obtain ⟨hb11, N11, a11, q11, c11, r11, rfl, hr11⟩ := pick_one hpost
  clear hpost
  obtain ⟨g11, hg11⟩ : ∃ g, g = w11.heap.size := ⟨_, rfl⟩
  obtain ⟨W11, hW11⟩ : ∃ W11, W11 = w11.alloc (.cells #[.int .i64 N11, .slice a11 q11 c11] 24) := ⟨_, rfl⟩
  have hb111 : Below w11.heap.size w11 W11 := by rw [hW11]; exact (Below.refl _ _).alloc (Nat.le_refl _) _
  have hb1011 : Below W10.heap.size W10 W11 := below_more hb11 hb111 hb11.size
  have HB11 := Lib.hid (below_more HB10.out hb1011 HB10.out.size)
  have HROW11 := Lib.hid (HROW10.out.after hb1011)
  have HGR11 := Lib.hid (show gr ≤ W11.heap.size from Nat.le_trans HGR10.out hb1011.size)
  have HRW11 := Lib.hid (show RowIs W11 g11 24 [.int .i64 N11, .slice a11 q11 c11] from by rw [hW11, hg11]; exact RowIs.made w11 24 [.int .i64 N11, .slice a11 q11 c11])
  have HO11 := Lib.hid (show r11 = 0 → N11 = (n : Int) ∧ q11 = l2 ∧ W11.ownsRow W10.heap.size 62 3 (.slice a11 q11 c11) q11 (tcells (pickT T (J.map Int.toNat))) ∧ ∀ c ∈ J.map Int.toNat, c < 3 * T.length from fun h => by
    obtain ⟨p0, p1, p2, p3⟩ := hr11 h
    exact ⟨p0, by rw [p1, HL2.out], owns_below p2 hb111, p3⟩)
  have HW11 := Lib.hid hW11
  have HG11 := Lib.hid hg11
  clear x0 x1 hb11 hr11 hg11 hW11 hb111 hb1011 HPK HROW10
  obtain ⟨γ, hγ⟩ : ∃ γ, decide (r11 = 0) = γ := ⟨_, rfl⟩
  have HG := Lib.hid hγ
  clear hγ
  go_upto_region 12 with fail
  rw [← HW11.out]
  simp only [← HG11.out]
  go_cut [57, 58, 59, 60, 61, 62, 63, 64, 65, 66, 67, 68, 69, 70, 71] (fun _ _ _ _ _ _ _ _ _ _ _ _ _ _ s71 wc => ∃ b, s71 = .bool b ∧ (b = true → r11 = 0 ∧ Surf n (pickT T (J.map Int.toNat)) ∧ l2 = t) ∧ Below W11.heap.size W11 wc)
  case first =>
    cases γ
    case false =>
      have hγ : decide (r11 = 0) = false := HG.out
      have hγ2 : (r11 == 0) = false := hγ
      go_wp2
      go_meet
      exact ⟨false, rfl, fun h => (by cases h), Below.refl _ _⟩
    case true =>
      obtain ⟨rfl, rfl, ho11, hcc⟩ := HO11.out (by simpa using HG.out)
      have er : r11 = 0 := by simpa using HG.out
      have hlp : (pickT T (J.map Int.toNat)).length = q11 := by rw [pick_len, List.length_map, HL2.out]
      have HIS := Lib.hid (is_any (n : Int) a11 c11 (pickT T (J.map Int.toNat)) W11 (by
        obtain ⟨a', c', e, h⟩ := owns_tris (L := pickT T (J.map Int.toNat)) (by rw [hlp]; exact ho11)
        simp only [Value.slice.injEq] at e
        rw [e.1]; exact h) (by rw [hlp, HL2.out]; have := HJL.out; omega))
      rw [hlp] at HIS
      have y0 := HRW11.out.cell (i := 0) rfl
      have y1 := HRW11.out.cell (i := 1) rfl
      have hγ : decide (r11 = 0) = true := HG.out
      have hγ2 : (r11 == 0) = true := hγ
      have HER := Lib.hid er
      clear ho11 hcc hlp er
      go_wp2_with fail
      refine HIS.out.mono ?_
      rintro e w12 ⟨rb, rfl, hrb, hb12⟩
      have HB12 := Lib.hid hb12
      have HRB := Lib.hid hrb
      have y1' := (HRW11.out.after hb12).cell (i := 1) rfl
      obtain ⟨-, x1, -⟩ := HKW.out w12 (below_more HB11.out hb12 HB11.out.size)
      clear hb12 hrb y0 y1
      cases rb
      case false =>
        go_wp2
        go_meet
        exact ⟨false, rfl, fun h => (by cases h), HB12.out⟩
      case true =>
        obtain ⟨δ, hδ⟩ : ∃ δ, decide (q11 = t) = δ := ⟨_, rfl⟩
        have hδ2 : ((q11 : Int) == (t : Int)) = δ := by rw [← hδ, Bool.eq_iff_iff]; simp; omega
        have hδ3 : decide ((q11 : Int) = (t : Int)) = δ := by rw [← hδ, Bool.eq_iff_iff]; simp; omega
        have HD := Lib.hid hδ
        go_wp2
        go_meet
        exact ⟨δ, rfl, fun h => ⟨HER.out, HRB.out.1 (by trivial), by subst h; simpa using HD.out⟩, HB12.out⟩
  case rest =>
  obtain ⟨W12, rfl⟩ : ∃ W12 : World, W12 = wc := ⟨_, rfl⟩
  obtain ⟨β, rfl, hβ, hb12⟩ := hcut
  have HBE := Lib.hid hβ
  have HB12 := Lib.hid (below_more HB11.out hb12 HB11.out.size)
  have HROW12 := Lib.hid (HROW11.out.after hb12)
  have HRW12 := Lib.hid (HRW11.out.after hb12)
  have HGR12 := Lib.hid (show gr ≤ W12.heap.size from Nat.le_trans HGR11.out hb12.size)
  have HO12 := Lib.hid (show r11 = 0 → N11 = (n : Int) ∧ q11 = l2 ∧ W12.ownsRow W10.heap.size 62 3 (.slice a11 q11 c11) q11 (tcells (pickT T (J.map Int.toNat))) ∧ ∀ c ∈ J.map Int.toNat, c < 3 * T.length from fun h => by
    obtain ⟨p0, p1, p2, p3⟩ := HO11.out h
    exact ⟨p0, p1, owns_below p2 hb12, p3⟩)
  clear hβ hb12 HO11 HROW11 HRW11 HB11 HG HW11 HG11 HB10
  go_upto_if 71 with fail
  go_cut [9, 72, 73, 74, 75] (fun s9 _ _ _ _ wc => Rows2 n z E W6 gr s9 3 wc)
  case first =>
    cases β
    case false =>
      go_wp2
      go_meet
      exact ⟨va, vc, D, by rw [← HDL0.out], by rw [← HDL0.out]; exact HROW12.out, HB12.out, HGR12.out, by rw [← HDL0.out]; omega⟩
    case true =>
      obtain ⟨er, hsp, hlt⟩ := HBE.out rfl
      obtain ⟨rfl, rfl, ho, hcc⟩ := HO12.out er
      have y0 := HRW12.out.cell (i := 0) rfl
      have y1 := HRW12.out.cell (i := 1) rfl
      have HLP12 := Lib.hid (HLP.out _ hcc (by rw [List.length_map, ← HL2.out, hlt, HTT.out]) hsp)
      have HO' := Lib.hid ho
      have hrow := HROW12.out.1
      rw [← HDL0.out] at hrow
      have HRO := Lib.hid hrow
      clear er hsp hlt ho hcc hrow
      go_wp2_with (at_builtin; refine wpList_append_new _ rfl _ _ 47 rfl gr 24 i0 _ 2 32 (by kernel_rfl) hi hz0 hz1 hz2 rfl (by decide) _ _ _ rfl HRO.out _ _ _ rfl (by first | rfl | simp) rfl ?_ ?_ ?_ ?_ ?_)
      all_goals first | rfl | omega | (unfold maxLen; omega) | exact ⟨rfl, rfl⟩ | exact HGR12.out | skip
      · intro v' w9 hown hbel hgr
        have hl8 : (pickT T (J.map Int.toNat)).length = q11 := by rw [pick_len, List.length_map, HL2.out]
        have HP := Lib.hid (Rows2.push (k := 2) (by rw [← HDL0.out]; exact HROW12.out) ⟨_, by rw [hl8]; exact HO'.out⟩ HLP12.out HB12.out HGR12.out HGR6.out (by rw [← HDL0.out]; exact hD) (by rw [hl8, ← HDL0.out]; exact hown) hbel (by rw [hl8, ← HDL0.out]; exact hgr))
        clear hown hbel hgr hl8 y0 y1
        go_wp2
        go_meet
        exact HP.out
  case rest =>
  obtain ⟨W9, rfl⟩ : ∃ W9 : World, W9 = wc := ⟨_, rfl⟩
  clear HDL0 HROW12 HRW12 HO12 HB12 HGR12 HBE hD
  obtain ⟨va, vc, D, rfl, hrow, hb9, hgr9, hD⟩ := hcut
  obtain ⟨dl, hdl⟩ : ∃ d, d = D.length := ⟨_, rfl⟩
  rw [← hdl] at hrow hD ⊢
  have HROW := Lib.hid hrow
  have HB9 := Lib.hid hb9
  clear hrow hb9 hgr9
  go_upto_region 14 with fail
  have HDL := Lib.hid hdl
  clear hdl
  go_wp2
  go_loopw [78] (fun i ws => ∃ k : Nat, k ≤ dl ∧ i = .int .i64 k ∧ Below W9.heap.size W9 ws) (fun i _ => dl - (intOf i).toNat)
  case atStart => exact ⟨0, by omega, rfl, Below.refl _ _⟩
  case round =>
  obtain ⟨k, hk, rfl, hb⟩ := hrel
  obtain ⟨X, rfl⟩ : ∃ X : World, X = wr := ⟨_, rfl⟩
  have HBX := Lib.hid hb
  have HRX := Lib.hid (HROW.out.after hb)
  clear hb
  by_cases hkd : k < dl
  case neg =>
    have HF := Lib.hid (below_more HB0.out (below_more HB6.out (below_more HB9.out HBX.out HB9.out.size) HB6.out.size) HB0.out.size)
    go_wp2
    exact bodyPost_ret (v := .bool true) (by simp [results, Tryz.results6, go_sem]) rfl ⟨rfl, HF.out⟩
  case pos =>
  obtain ⟨⟨ai, ci, U⟩, hd⟩ : ∃ d, D[k]? = some d := ⟨_, List.getElem?_eq_getElem (by rw [← HDL.out]; exact hkd)⟩
  obtain ⟨hui, hlk⟩ := HRX.out.2 _ (List.mem_of_getElem? hd)
  obtain ⟨gv, cu, hu, -, hgl, -, -, hcell, -⟩ := owns_block HRX.out.1 (by rw [← HDL.out]; omega)
  simp only [Value.slice.injEq, true_and] at hu
  obtain ⟨hva, -⟩ := hu
  have c0 := hcell _ _ (scells_get n D k _ hd).1
  have c1 := hcell _ _ (scells_get n D k _ hd).2
  obtain ⟨ul, hul⟩ : ∃ u, u = U.length := ⟨_, rfl⟩
  obtain ⟨vb, hvb⟩ : ∃ a, a = va := ⟨_, rfl⟩
  have HTU := Lib.hid (show TrisAt X ai U from by
    obtain ⟨b, h⟩ := hui
    obtain ⟨a', c', e, h⟩ := owns_tris h
    simp only [Value.slice.injEq] at e
    rw [e.1]; exact h)
  have HLK := Lib.hid hlk
  obtain ⟨V4, hV4⟩ : ∃ V4, V4 = X.alloc (.cells #[.int .i64 (n : Int), .slice ai ul ci] 24) := ⟨_, rfl⟩
  obtain ⟨bx, hbx⟩ : ∃ b, b = X.heap.size := ⟨_, rfl⟩
  have hb4 : Below X.heap.size X V4 := by rw [hV4]; exact (Below.refl _ _).alloc (Nat.le_refl _) _
  have hr4 : RowIs V4 bx 24 [.int .i64 (n : Int), .slice ai ul ci] := by rw [hV4, hbx]; exact RowIs.made X 24 [.int .i64 (n : Int), .slice ai ul ci]
  have HTU4 := Lib.hid (HTU.out.mono (Nat.le_refl _) hb4)
  have HNW := Lib.hid (new_first (n : Int) ai ci U V4 HTU4.out hlk.1)
  rw [← hul] at HNW
  simp only [← hul] at c1
  have HB4 := Lib.hid (below_more HBX.out hb4 HBX.out.size)
  have HR4 := Lib.hid hr4
  have HV4 := Lib.hid hV4
  have HBXX := Lib.hid hbx
  have HUL := Lib.hid hul
  have y0 := hr4.cell (i := 0) rfl
  have y1 := hr4.cell (i := 1) rfl
  have hk0 : (0 : Int) ≤ (k : Int) := by omega
  have hk1 : (k : Int) < (dl : Int) := by omega
  subst hva
  clear hd hui hlk hcell hgl hV4 hbx hb4 hr4 hul hvb
  go_upto_region 17 with fail
  rw [← HV4.out]
  simp only [← HBXX.out]
  clear c0 c1
  go_wp2_with fail
  refine HNW.out.mono ?_
  rintro e v9 ⟨pu, rfl, -, ⟨htu, hfu⟩, hb9⟩
  obtain ⟨V9, hV9⟩ : ∃ V9, V9 = v9.alloc (.cells #[.int .i64 0, .int .i64 0, .int .i64 0] 52) := ⟨_, rfl⟩
  have hb99 : Below v9.heap.size v9 V9 := by rw [hV9]; exact (Below.refl _ _).alloc (Nat.le_refl _) _
  have hbV : Below V4.heap.size V4 V9 := below_more hb9 hb99 hb9.size
  have HBV := Lib.hid (below_more HB4.out hbV HB4.out.size)
  have HTX := Lib.hid (show Tab V9 pu n U ∧ FirstAt V9 pu U n from ⟨htu.mono (Nat.le_refl _) hb99, (hfu n rfl).mono (Nat.le_refl _) hb99⟩)
  have HRV := Lib.hid (HR4.out.after hbV)
  have HTUV := Lib.hid (HTU4.out.mono (Nat.le_refl _) hbV)
  have HTV := Lib.hid (HT6.out.mono (Nat.le_refl _) (below_more HB9.out HBV.out HB9.out.size))
  have HV9 := Lib.hid hV9
  clear y0 y1 htu hfu hb9 hb99 hbV hV9 HNW
  obtain ⟨-, hki, mu, Lu, hLu, hmu, hzu⟩ := HLK.out
  have HKS := Lib.hid HLS.out.2.1
  have HKI := Lib.hid hki
  have HWY := Lib.hid (show ∀ Y, Hid (Below V9.heap.size V9 Y) → Calls Tryz.prog 12 #[.pointer (some ⟨pu, 0, none⟩)] Y fun e w' => e = .returned (.agg #[.int .i64 z0, .int .i64 z1, .int .i64 z2, .int .i64 z3, .int .i64 z4, .int .i64 z5]) ∧ Hid (Below V9.heap.size V9 w') from fun Y h =>
    (whole_ok pu n mu U Lu Y (HTX.out.1.mono (Nat.le_refl _) h.out) (HTX.out.2.mono (Nat.le_refl _) h.out) HLK.out.1 hLu hmu).mono fun e w' ⟨q1, q3⟩ => ⟨by
      obtain ⟨e0, e1, e2, e3, e4, e5⟩ := HZ.out
      rw [q1, hzu 0 (by omega), hzu 1 (by omega), hzu 2 (by omega), hzu 3 (by omega), hzu 4 (by omega), hzu 5 (by omega), e0, e1, e2, e3, e4, e5], below_more h.out q3 h.out.size⟩)
  have HSA := Lib.hid (show ∀ Y, Hid (Below V9.heap.size V9 Y) → Calls Tryz.prog 17 #[.agg #[.int .i64 (n : Int), .slice ao t cap], .agg #[.int .i64 (n : Int), .slice ai ul ci]] Y fun e w' => e = .returned (.bool true) ∧ Hid (Below V9.heap.size V9 w') from fun Y h => by
    have := gsame_any (n : Int) (n : Int) ao ai cap ci T U E E true true Y (HTV.out.mono (Nat.le_refl _) h.out) (HTUV.out.mono (Nat.le_refl _) h.out) HS.out.t1 HLK.out.1.t1 HKS.out HKI.out
    rw [← HTT.out, ← HUL.out] at this
    exact this.mono fun e w' ⟨q1, q3⟩ => ⟨by rw [q1]; simp, below_more h.out q3 h.out.size⟩)
  have HKA := Lib.hid (show ∀ Y, Hid (Below V9.heap.size V9 Y) → (Y.cell? ⟨xb, 0, none⟩ = some (.int .i64 (n : Int)) ∧ Y.cell? ⟨xb, 1, none⟩ = some (.slice ao t cap) ∧ Y.cell? ⟨gw, 0, none⟩ = some (.int .i64 z0) ∧ Y.cell? ⟨gw, 1, none⟩ = some (.int .i64 z1) ∧ Y.cell? ⟨gw, 2, none⟩ = some (.int .i64 z2) ∧ Y.cell? ⟨gw, 3, none⟩ = some (.int .i64 z3) ∧ Y.cell? ⟨gw, 4, none⟩ = some (.int .i64 z4) ∧ Y.cell? ⟨gw, 5, none⟩ = some (.int .i64 z5) ∧ Y.cell? ⟨bx, 0, none⟩ = some (.int .i64 (n : Int)) ∧ Y.cell? ⟨bx, 1, none⟩ = some (.slice ai ul ci)) from fun Y h => by
    obtain ⟨q0, q1, q2, q3, q4, q5, q6, q7⟩ := HKW.out Y (below_more HB9.out (below_more HBV.out h.out HBV.out.size) HB9.out.size)
    exact ⟨q0, q1, q2, q3, q4, q5, q6, q7, (HRV.out.after h.out).cell (i := 0) rfl, (HRV.out.after h.out).cell (i := 1) rfl⟩)
  have HRF := Lib.hid (Below.refl V9.heap.size V9)
  have HDR := Lib.hid (show Below V9.heap.size V9 V9.drew from ⟨rfl, rfl, rfl, Nat.le_refl _, fun _ _ => rfl⟩)
  clear hki hLu hmu hzu
  go_upto_region 18 with fail
  rw [← HV9.out]
  go_region_held3 (fun Y => Y.cell? ⟨xb, 0, none⟩ = some (.int .i64 (n : Int)) ∧ Y.cell? ⟨xb, 1, none⟩ = some (.slice ao t cap) ∧ Y.cell? ⟨gw, 0, none⟩ = some (.int .i64 z0) ∧ Y.cell? ⟨gw, 1, none⟩ = some (.int .i64 z1) ∧ Y.cell? ⟨gw, 2, none⟩ = some (.int .i64 z2) ∧ Y.cell? ⟨gw, 3, none⟩ = some (.int .i64 z3) ∧ Y.cell? ⟨gw, 4, none⟩ = some (.int .i64 z4) ∧ Y.cell? ⟨gw, 5, none⟩ = some (.int .i64 z5) ∧ Y.cell? ⟨bx, 0, none⟩ = some (.int .i64 (n : Int)) ∧ Y.cell? ⟨bx, 1, none⟩ = some (.slice ai ul ci))
    (exact HKA.out _ (by assumption))
    (first
      | (go_at_call 12; (with_reducible refine (HWY.out _ (by assumption)).mono ?_); rintro e wY ⟨rfl, hY⟩)
      | (go_at_call 17; (with_reducible refine (HSA.out _ (by assumption)).mono ?_); rintro e wZ ⟨rfl, hZ⟩))
  all_goals
    have HBR := Lib.hid (show Below W9.heap.size W9 wZ from below_more HBV.out hZ.out HBV.out.size)
    go_wp2
    go_roundw
    case rel => exact ⟨k + 1, by omega, by go_num, HBR.out⟩
    case measure => simp [intOf]; omega
end Go.Proofs.YtbeefabboabfgaaGreat

/- gypsumlaw18.TreeHandles: the walk. -/
import Derived.Test.YtkjamheoihlekaaGreatGraph18
import Derived.Test.YtkjamheoihlekaaGreatSeen18
import Derived.Test.YtkjamheoihlekaaGreatHandFin
namespace Go.Proofs.YtkjamheoihlekaaGreat
set_option linter.unusedVariables false
set_option linter.unusedSimpArgs false
open Go.RowKit
theorem genus_field (a b c d e f : Value) (w : World) : (Instr.field 64 (.agg #[a, b, c, d, e, f]) 5).run Tryz.prog w = .ok f w := by kernel_rfl
set_option maxRecDepth 100000 in
set_option maxHeartbeats 8000000 in
theorem treehandles_any (N : Int) (ao : Option Addr) (cap : Nat) (T : List Tr) (w : World) (hT : TrisAt w ao T) (hm : T.length ≤ 9223372036854775807) :
    Calls Tryz.prog 9 #[.agg #[.int .i64 N, .slice ao T.length cap]] w fun e w' => e = .returned (.bool true) ∧ Below w.heap.size w w' := by
  obtain ⟨xb, hxb⟩ : ∃ b, b = w.heap.size := ⟨_, rfl⟩
  obtain ⟨W0, hW0⟩ : ∃ W0, W0 = w.alloc (.cells #[.int .i64 N, .slice ao T.length cap] 24) := ⟨_, rfl⟩
  have hb0 : Below w.heap.size w W0 := by rw [hW0]; exact (Below.refl _ _).alloc (Nat.le_refl _) _
  have hr0 : RowIs W0 xb 24 [.int .i64 N, .slice ao T.length cap] := by rw [hW0, hxb]; exact RowIs.made w 24 [.int .i64 N, .slice ao T.length cap]
  have HAW := Lib.hid (awake18 W0)
  have HT := Lib.hid (hT.mono (Nat.le_refl _) hb0)
  have HR := Lib.hid hr0
  have HB0 := Lib.hid hb0
  have HW0 := Lib.hid hW0
  have HXB := Lib.hid hxb
  clear hb0 hr0 hW0 hT hxb
  go_enter Tryz.func9, Tryz.ntmps9
  go_upto_region 1 with fail
  simp only [← HXB.out]
  rw [← HW0.out]
  go_wp2_with fail
  refine HAW.out.mono ?_
  rintro e w1 ⟨rfl, hb1⟩
  have hr1 := HR.out.after hb1
  have x0 := hr1.cell (i := 0) rfl
  have x1 := hr1.cell (i := 1) rfl
  have HB1 := Lib.hid hb1
  have HL := Lib.hid (laid_any N ao cap T w1 (HT.out.mono (Nat.le_refl _) hb1) hm)
  clear hb1 hr1 HAW
  go_wp2_with fail
  refine HL.out.mono ?_
  intro e w2 hpost
  rcases hpost with ⟨n, p, hN, rfl, hp, htab, hfst, hsurf, ht40, hn60, hb2⟩ | ⟨rfl, -, hb2⟩
  case inr =>
    have HF := Lib.hid (below_more HB0.out (below_more HB1.out hb2 HB1.out.size) HB0.out.size)
    clear hb2 x0 x1
    go_wp2
    exact bodyPost_ret (v := .bool true) (by simp [results, Tryz.results9, go_sem]) rfl ⟨rfl, HF.out⟩
  case inl =>
  subst hN
  have HB2 := Lib.hid (below_more HB1.out hb2 HB1.out.size)
  obtain ⟨L, hL⟩ := shells_exist (Adj T) T.length
  have hc0 := cnt_nonneg L T.length
  obtain ⟨m, hmL⟩ : ∃ m : Nat, (m : Int) = cnt L T.length := ⟨(cnt L T.length).toNat, by omega⟩
  have HS := Lib.hid hsurf
  have HSH := Lib.hid hL
  have HML := Lib.hid hmL
  have HTAB := Lib.hid htab
  have HFST := Lib.hid hfst
  have HG := Lib.hid (graph_ok n p m T L w2 htab hsurf hL hmL)
  have HFW2 := Lib.hid (show ∀ X, Below w2.heap.size w2 X → Below w.heap.size w X from fun X h => below_more HB0.out (below_more HB2.out h HB2.out.size) HB0.out.size)
  clear hb2 x0 x1 hL hmL htab hfst hsurf HL hc0
  go_wp2_with fail
  refine HG.out.mono ?_
  rintro e w3 ⟨hgr, hb3⟩
  have HB3 := Lib.hid hb3
  rcases hgr with ⟨-, rfl⟩ | ⟨hyes, a3, k3, D, hD, rfl, hE3⟩
  case inl =>
    clear hb3 HG
    go_wp2
    exact bodyPost_ret (v := .bool true) (by simp [results, Tryz.results9, go_sem]) rfl ⟨rfl, HFW2.out _ HB3.out⟩
  case inr =>
  obtain ⟨rfl, hbd⟩ := hyes
  have h1 : cnt L T.length = 1 := by have := HML.out; omega
  have HWH := Lib.hid (whole_ok p n 1 T L w3 (HTAB.out.mono (Nat.le_refl _) hb3) (HFST.out.mono (Nat.le_refl _) hb3) HS.out HSH.out HML.out)
  obtain ⟨hg5, hg0⟩ := one_genus (n := n) HS.out HSH.out h1
  rw [hg5] at HWH
  obtain ⟨g, hg⟩ := Int.eq_ofNat_of_zero_le hg0
  rw [hg] at HWH
  have hexc := (graph_exc HS.out HSH.out h1 hbd hD.1 hD.2)
  rw [hg] at hexc
  have hexS : Exc (sortP D) (2 * (g : Int) - 1) := hexc.perm (sortP_perm D).symm
  have hexP := hexS.prune
  obtain ⟨E, hE⟩ : ∃ E, E = pruneE (sortP D) := ⟨_, rfl⟩
  obtain ⟨q, hq⟩ : ∃ q, q = E.length := ⟨_, rfl⟩
  rw [← hE] at hexP hE3 ⊢
  rw [← hq]
  have hfew := rest_few18 hD.1 hD.2
  have hqb : q ≤ 10000 := by
    have := (prune_sub (sortP D) (sortP D).length).length_le
    have h2 : (pruneE (sortP D)).length ≤ (sortP D).length := this
    have h3 : (sortP D).length = D.length := (sortP_perm D).length_eq
    have := HS.out.t1
    rw [hq, hE]
    omega
  have HEXC := Lib.hid hexP
  have HEN := Lib.hid hq
  have HEI := Lib.hid (show EI64 E from by rw [hE]; exact (rest_i64 HS.out hD.2).sub (prune_sub _ _))
  have HDEG := Lib.hid (show ∀ e, e ∈ E → 2 ≤ degE E e.1 ∧ 2 ≤ degE E e.2 from fun e he => by rw [hE] at he ⊢; exact prune_deg he)
  have HE3 := Lib.hid hE3
  clear hb3 hbd h1 hg5 hg0 hg hexc hexS hexP hE hq hfew hD hE3 HG
  go_wp2_with fail
  refine HWH.out.mono ?_
  rintro e Xs ⟨rfl, hb4⟩
  have HB4 := Lib.hid (below_more HB3.out hb4 HB3.out.size)
  have HEQ := Lib.hid (show ∀ Y, Below Xs.heap.size Xs Y → EdgesAt Y a3 E from fun Y h => HE3.out.mono (Nat.le_refl _) (below_more hb4 h hb4.size))
  have HFWX := Lib.hid (show ∀ Y, Below Xs.heap.size Xs Y → Below w.heap.size w Y from fun Y h => HFW2.out Y (below_more HB4.out h HB4.out.size))
  have hfd := genus_field
  clear hb4 HWH HE3
  by_cases hg0 : g = 0
  case pos =>
    have g1 : ((g : Int) == 0) = true := by simp; omega
    have hq0 : q = 0 := by
      apply Classical.byContradiction
      intro hn
      have hne : E ≠ [] := fun e => hn (by rw [HEN.out, e]; rfl)
      have hx := HEXC.out.some' hne
      -- a tree has a leaf: the degrees say no
      have hs := deg_sum (X := E)
      have hd : ∀ v, v ∈ vertsE E → 2 ≤ degE E v := fun v hv => by
        obtain ⟨e, he, q⟩ := vertsE_mem.1 hv
        have := HDEG.out e he
        rcases q with rfl | rfl
        · exact this.1
        · exact this.2
      have h2 := sumV_le (V := vertsE E) (f := fun _ => 2) (g := degE E) hd
      have h3 := sumV_lin (fun _ => 0) 1 2 (vertsE E)
      have h4 : sumV (fun _ => 0) (vertsE E) = 0 := by
        have := sumV_lin (fun _ => 0) 0 0 (vertsE E)
        simpa using this
      simp only [Nat.mul_zero, Nat.one_mul, Nat.zero_add, h4] at h3
      rw [h3] at h2
      rw [hs] at h2
      omega
    have g2 : ((q : Int) == 0) = true := by simp; omega
    clear hg0 hq0
    go_wp2
    exact bodyPost_ret (v := .bool true) (by simp [results, Tryz.results9, go_sem]) rfl ⟨rfl, HFWX.out _ (Below.refl _ _)⟩
  case neg =>
  have g1 : ((g : Int) == 0) = false := by simp; omega
  have hq0 : 0 < q := by
    apply Classical.byContradiction
    intro hn
    have := HEXC.out.none' (List.length_eq_zero_iff.1 (by rw [← HEN.out]; omega))
    omega
  have g2 : ((q : Int) == 0) = false := by simp; omega
  have hgb : (g : Int) ≤ 100000 := by
    have hne : E ≠ [] := fun e => by have := HEN.out; rw [e] at this; simp at this; omega
    have := HEXC.out.some' hne
    rw [← HEN.out] at this
    omega
  have hEne : E ≠ [] := fun e => by have := HEN.out; rw [e] at this; simp at this; omega
  obtain ⟨eb, eoff, rfl, hebl, hec⟩ := HEQ.out Xs (Below.refl _ _) hEne
  obtain ⟨k1, -⟩ := hec 0 (by rw [← HEN.out]; exact hq0)
  obtain ⟨s0, hs0⟩ : ∃ s, s = (E! E 0).1 := ⟨_, rfl⟩
  rw [← hs0] at k1
  have hs64 : I64 s0 := by rw [hs0]; exact (HEI.out _ (E!_mem (by rw [← HEN.out]; exact hq0))).1
  have HS0 := Lib.hid hs0
  obtain ⟨X1, hst, hsn⟩ := SeenAt.first Xs s0 hs64
  obtain ⟨mm, hmm'⟩ : ∃ m, m = Xs.heap.size := ⟨_, rfl⟩
  have hk1 : (Xs.alloc (.map #[] 0)).cell? ⟨eb, eoff, none⟩ = some (.int .i64 s0) := by
    have := (((Below.refl Xs.heap.size Xs).alloc (Nat.le_refl _) (.map #[] 0)).cell (p := ⟨eb, eoff + 0 * 2, none⟩) hebl)
    rw [k1] at this
    simpa using this
  have HMM := Lib.hid hmm'
  have HSN1 := Lib.hid (show SeenAt Xs X1 mm (fun v => decide (v = s0)) from by rw [hmm']; exact hsn)
  have hmk := @run_makeMap Tryz.prog
  clear k1 hs0 hsn hmm' hec hs64 hEne
  go_upto_region 15 with fail
  simp only [← HMM.out]
  clear hst hk1
  go_wp2
  go_loopw [45] (fun v ws => ∃ i : Nat, i ≤ q ∧ v = .int .i64 i ∧ SeenAt Xs ws mm (sweepsE E (fun v => decide (v = s0)) i)) (fun v _ => q - (intOf v).toNat)
  case atStart => exact ⟨0, by omega, rfl, HSN1.out⟩
  case round =>
  clear HSN1
  obtain ⟨i, hi, rfl, hsn⟩ := hrel
  obtain ⟨X, rfl⟩ : ∃ X : World, X = wr := ⟨_, rfl⟩
  have HSN := Lib.hid hsn
  clear hsn
  by_cases hiq : i < q
  case neg =>
    obtain rfl : q = i := by omega
    have HDONE := Lib.hid (show SeenAt Xs X mm (sweepsE E (fun v => decide (v = s0)) E.length) from by rw [← HEN.out]; exact HSN.out)
    have HV := Lib.hid (show ∀ v, v ∈ vertsE E ↔ sweepsE E (fun v => decide (v = s0)) E.length v = true from fun v => by
      have hs0 : s0 ∈ vertsE E := vertsE_mem.2 ⟨_, E!_mem (by rw [← HEN.out]; exact hq0), .inl HS0.out⟩
      rw [sweeps_conn]
      constructor
      · exact fun h => HEXC.out.con _ _ hs0 h
      · intro h
        by_cases e : s0 = v
        · rw [← e]; exact hs0
        · exact h.symm.ends fun q => e q.symm)
    have hEX := HEQ.out X (by have := HDONE.out.low; rw [HMM.out] at this; exact this)
    clear HSN
    go_wp2
    go_loopw [73] (fun v ws => ∃ i : Nat, i ≤ q ∧ v = .int .i64 i ∧ Below X.heap.size X ws) (fun v _ => q - (intOf v).toNat)
    case atStart => exact ⟨0, by omega, rfl, Below.refl _ _⟩
    case round =>
    obtain ⟨j, hj, rfl, hbY⟩ := hrel
    obtain ⟨Y, rfl⟩ : ∃ X : World, X = wr := ⟨_, rfl⟩
    have HSY := Lib.hid (HDONE.out.more hbY)
    have HBY := Lib.hid hbY
    by_cases hjq : j < q
    case pos =>
      have hjl : j < E.length := by rw [← HEN.out]; exact hjq
      obtain ⟨eb', eoff', ee, -, hec⟩ := (hEX.mono (Nat.le_refl _) hbY) (fun e => by rw [e] at hjl; simp at hjl)
      cases ee
      obtain ⟨k1, k2⟩ := hec j hjl
      have hmem := E!_mem hjl
      obtain ⟨⟨a, b⟩, hab⟩ : ∃ e, e = E! E j := ⟨_, rfl⟩
      rw [← hab] at k1 k2 hmem
      have hva := (HV.out a).1 (vertsE_mem.2 ⟨_, hmem, .inl rfl⟩)
      have h64 : I64 a := (HEI.out _ hmem).1
      obtain ⟨d1, d2⟩ := HDEG.out _ hmem
      simp only at d1 d2
      have bj : (0 : Int) ≤ (j : Int) ∧ (j : Int) < (q : Int) := by omega
      obtain ⟨xb2, hxb2⟩ : ∃ b, b = Y.heap.size := ⟨_, rfl⟩
      obtain ⟨Y1, hY1⟩ : ∃ Y1, Y1 = Y.alloc (.cells #[.int .i64 a, .int .i64 b] 40) := ⟨_, rfl⟩
      have hbY1 : Below Y.heap.size Y Y1 := by rw [hY1]; exact (Below.refl _ _).alloc (Nat.le_refl _) _
      have hrY1 : RowIs Y1 xb2 40 [.int .i64 a, .int .i64 b] := by rw [hY1, hxb2]; exact RowIs.made Y 40 [.int .i64 a, .int .i64 b]
      have hla := (HSY.out.more hbY1).look a h64
      rw [hva] at hla
      have e0 := hrY1.cell (i := 0) rfl
      have e1 := hrY1.cell (i := 1) rfl
      have hbX1 := below_more hbY hbY1 hbY.size
      have hEY1 := hEX.mono (Nat.le_refl _) hbX1
      have HDG := Lib.hid (show ∀ v : Int, Calls Tryz.prog 22 #[.slice (some ⟨eb, eoff, none⟩) q k3, .int .i64 v] Y1 fun e w' => e = .returned (.int .i64 (degE E v : Nat)) ∧ Y1 = w' from fun v => by
        rw [HEN.out]
        exact degree18 E _ k3 v Y1 hEY1 (by have := HEN.out; omega))
      obtain ⟨dx, hdx⟩ : ∃ d, d = degE E a := ⟨_, rfl⟩
      obtain ⟨dy, hdy⟩ : ∃ d, d = degE E b := ⟨_, rfl⟩
      rw [← hdx] at d1
      rw [← hdy] at d2
      have gx : decide ((dx : Int) < 2) = false := by simp; omega
      have gy : decide ((dy : Int) < 2) = false := by simp; omega
      have HDX := Lib.hid hdx
      have HDY := Lib.hid hdy
      have HBX1 := Lib.hid hbX1
      have HY1 := Lib.hid hY1
      have HXB2 := Lib.hid hxb2
      clear hec hjl hmem hab hva h64 d1 d2 hbY hbY1 hrY1 hxb2 hY1 hdx hdy hbX1 hEY1 hEX
      go_upto_region 27 with fail
      rw [← HY1.out]
      simp only [← HXB2.out]
      clear k1 k2
      go_wp2_with fail
      refine (HDG.out a).mono ?_
      rintro e Y3 ⟨rfl, rfl⟩
      rw [← HDX.out]
      go_wp2_with fail
      refine (HDG.out b).mono ?_
      rintro e Y3 ⟨rfl, hY3⟩
      subst hY3
      rw [← HDY.out]
      clear e0 e1 hla
      go_wp2
      go_roundw
      case rel => exact ⟨j + 1, by omega, by go_num, HBX1.out⟩
      case measure => simp [intOf]; omega
    case neg =>
    obtain rfl : q = j := by omega
    have hne : E ≠ [] := fun e => by have := HEN.out; rw [e] at this; simp at this; omega
    have hrg := HEXC.out.r
    have hHP := Lib.hid (paths_ok E HEI.out (by have := HEN.out; omega) (some ⟨eb, eoff, none⟩) k3 Y (hEX.mono (Nat.le_refl _) hbY))
    rw [← HEN.out] at hHP
    have hmd : ∀ v, v ∈ vertsE E → 2 ≤ degE E v := fun v hv => by
      obtain ⟨e, he, q⟩ := vertsE_mem.1 hv
      have := HDEG.out e he
      rcases q with rfl | rfl
      · exact this.1
      · exact this.2
    have HPL := Lib.hid (show ∀ S : List (List Int), (RightE E → S.Pairwise (fun x y => cmpR y x < 0 → False) ∧ ∃ O, PFin18 E O ∧ S.Perm O) → 1 ≤ S.length ∧ (S.length : Int) ≤ 6 * (g : Int) - 3 from fun S h => by
      obtain ⟨-, O, hO, hp⟩ := h hrg
      rw [hp.length_eq]
      exact few_paths HEXC.out hmd (by omega) hO)
    have hvl := HEXC.out.some' hne
    rw [← HEN.out] at hvl
    have HVL := Lib.hid hvl
    have HLW := Lib.hid (show Below w.heap.size w Y from HFWX.out Y (by
      have h1 := HDONE.out.low
      rw [HMM.out] at h1
      exact below_more h1 hbY h1.size))
    clear hne hrg hmd hEX hbY hvl
    go_wp2_with fail
    refine hHP.out.mono ?_
    rintro e Z ⟨pa, pc, S, rfl, -, hbZ, -, hS⟩
    have hpl := HPL.out S hS
    have hll := (HSY.out.more hbZ).len (vertsE_nodup E) HV.out
    obtain ⟨sl, hsl⟩ : ∃ l, l = S.length := ⟨_, rfl⟩
    obtain ⟨vl, hvl2⟩ : ∃ l, l = (vertsE E).length := ⟨_, rfl⟩
    have hvq := HVL.out
    rw [← hvl2] at hvq hll
    rw [← hsl] at hpl ⊢
    have hw1 : IntKind.i64.wrap ((q : Int) - (vl : Int)) = 2 * (g : Int) - 1 := by rw [hvq]; exact IntWalk.i64_in _ (by omega)
    have hw2 : IntKind.i64.wrap (2 * (g : Int)) = 2 * (g : Int) := IntWalk.i64_in _ (by omega)
    have hw3 : IntKind.i64.wrap (2 * (g : Int) - 1) = 2 * (g : Int) - 1 := IntWalk.i64_in _ (by omega)
    have hw4 : IntKind.i64.wrap (6 * (g : Int)) = 6 * (g : Int) := IntWalk.i64_in _ (by omega)
    have hw5 : IntKind.i64.wrap (6 * (g : Int) - 3) = 6 * (g : Int) - 3 := IntWalk.i64_in _ (by omega)
    have g3 : decide ((sl : Int) ≥ 1) = true := by simp; omega
    have g4 : decide ((sl : Int) ≤ 6 * (g : Int) - 3) = true := by simp; omega
    have HF := Lib.hid (below_more HLW.out hbZ HLW.out.size)
    clear hpl hS hbZ hsl hvl2 hHP
    go_wp2
    exact bodyPost_ret (v := .bool true) (by simp [results, Tryz.results9, go_sem]) rfl ⟨rfl, HF.out⟩
  case pos =>
  go_wp2
  go_loopw [49] (fun v ws => ∃ j : Nat, j ≤ q ∧ v = .int .i64 j ∧ SeenAt Xs ws mm ((E.take j).foldl markE (sweepsE E (fun v => decide (v = s0)) i))) (fun v _ => q - (intOf v).toNat)
  case atStart => exact ⟨0, by omega, rfl, HSN.out⟩
  case round =>
  clear HSN
  obtain ⟨j, hj, rfl, hsn⟩ := hrel
  obtain ⟨Y, rfl⟩ : ∃ X : World, X = wr := ⟨_, rfl⟩
  by_cases hjq : j < q
  case neg =>
    obtain rfl : q = j := by omega
    have HNX := Lib.hid (show SeenAt Xs Y mm (sweepsE E (fun v => decide (v = s0)) (i + 1)) from by
      rw [HEN.out, List.take_length] at hsn
      exact hsn)
    clear hsn
    go_wp2
    go_roundw
    case rel => exact ⟨i + 1, by omega, by go_num, HNX.out⟩
    case measure => simp [intOf]; omega
  case pos =>
  obtain ⟨S, hS⟩ : ∃ S, S = (E.take j).foldl markE (sweepsE E (fun v => decide (v = s0)) i) := ⟨_, rfl⟩
  rw [← hS] at hsn
  have hlow := hsn.low
  have hjl : j < E.length := by rw [← HEN.out]; exact hjq
  obtain ⟨eb', eoff', ee, -, hec⟩ := HEQ.out Y (by have := hsn.low; rw [HMM.out] at this; exact this) (fun e => by rw [e] at hjl; simp at hjl)
  cases ee
  obtain ⟨k1, k2⟩ := hec j hjl
  obtain ⟨⟨a, b⟩, hab⟩ : ∃ e, e = E! E j := ⟨_, rfl⟩
  have hEj : E[j]? = some (a, b) := by
    rw [List.getElem?_eq_getElem hjl, hab]
    simp [E!, hjl]
  have h64 : I64 a ∧ I64 b := by have := HEI.out _ (E!_mem hjl); rw [← hab] at this; exact this
  rw [← hab] at k1 k2
  have hnx := sweep_take E (sweepsE E (fun v => decide (v = s0)) i) hEj
  rw [← hS] at hnx
  have bj : (0 : Int) ≤ (j : Int) ∧ (j : Int) < (q : Int) := by omega
  obtain ⟨xb2, hxb2⟩ : ∃ b, b = Y.heap.size := ⟨_, rfl⟩
  obtain ⟨Y1, hY1⟩ : ∃ Y1, Y1 = Y.alloc (.cells #[.int .i64 a, .int .i64 b] 40) := ⟨_, rfl⟩
  have hbY1 : Below Y.heap.size Y Y1 := by rw [hY1]; exact (Below.refl _ _).alloc (Nat.le_refl _) _
  have hrY1 : RowIs Y1 xb2 40 [.int .i64 a, .int .i64 b] := by rw [hY1, hxb2]; exact RowIs.made Y 40 [.int .i64 a, .int .i64 b]
  have hs1 := hsn.more hbY1
  have hmx : mm < xb2 := by rw [hxb2]; exact hsn.lt
  obtain ⟨sa, hsa⟩ : ∃ b, b = S a := ⟨_, rfl⟩
  obtain ⟨sb, hsb⟩ : ∃ x, x = S b := ⟨_, rfl⟩
  have hla := hs1.look a h64.1
  have hlb := hs1.look b h64.2
  rw [← hsa] at hla
  rw [← hsb] at hlb
  have e0 := hrY1.cell (i := 0) rfl
  have e1 := hrY1.cell (i := 1) rfl
  have HS1 := Lib.hid hs1
  have HR1 := Lib.hid hrY1
  have HMX := Lib.hid hmx
  have HNX := Lib.hid hnx
  have H64 := Lib.hid h64
  have HSA := Lib.hid hsa
  have HSB := Lib.hid hsb
  have HY1 := Lib.hid hY1
  have HXB2 := Lib.hid hxb2
  clear hsn hlow hjl hec hab hEj h64 hnx hY1 hbY1 hrY1 hs1 hmx hsa hsb hxb2 hS
  go_upto_region 20 with fail
  rw [← HY1.out]
  simp only [← HXB2.out]
  clear k1 k2
  have HMARK := Lib.hid (show (S a = true ∨ S b = true) → ∃ Ya Yab Yb Yba, (Instr.mapUpdate 67 (.map (some mm)) (.int .i64 a) (.bool true)).run Tryz.prog Y1.drew = .ok () Ya ∧ (Instr.mapUpdate 67 (.map (some mm)) (.int .i64 b) (.bool true)).run Tryz.prog Ya = .ok () Yab ∧ (Instr.mapUpdate 67 (.map (some mm)) (.int .i64 b) (.bool true)).run Tryz.prog Y1.drew = .ok () Yb ∧ (Instr.mapUpdate 67 (.map (some mm)) (.int .i64 a) (.bool true)).run Tryz.prog Yb = .ok () Yba ∧
      Hid (SeenAt Xs Yab mm ((E.take (j + 1)).foldl markE (sweepsE E (fun v => decide (v = s0)) i))) ∧ Hid (SeenAt Xs Yba mm ((E.take (j + 1)).foldl markE (sweepsE E (fun v => decide (v = s0)) i))) ∧ Hid (RowIs Y1.drew xb2 40 [.int .i64 a, .int .i64 b] ∧ RowIs Ya xb2 40 [.int .i64 a, .int .i64 b] ∧ RowIs Yab xb2 40 [.int .i64 a, .int .i64 b] ∧ RowIs Yb xb2 40 [.int .i64 a, .int .i64 b] ∧ RowIs Yba xb2 40 [.int .i64 a, .int .i64 b]) from fun h => by
    have hsD := HS1.out.more (Below.refl _ _).drew
    obtain ⟨Ya, Yab, p1, p2, p3, p4, p5⟩ := hsD.two (a, b) H64.out.1 H64.out.2 h
    obtain ⟨Yb, Yba, r1, r2, r3, r4, r5⟩ := hsD.two' (a, b) H64.out.1 H64.out.2 h
    have hne : some xb2 ≠ some mm := by have := HMX.out; simp; omega
    have hr := HR1.out.drew1
    exact ⟨Ya, Yab, Yb, Yba, p1, p2, r1, r2, by rw [HNX.out]; exact p3, by rw [HNX.out]; exact r3, hr, hr.grown p4 hne, (hr.grown p4 hne).grown p5 hne, hr.grown r4 hne, (hr.grown r4 hne).grown r5 hne⟩)
  cases sa
  case' true =>
    obtain ⟨Ya, Yab, Yb, Yba, p1, p2, r1, r2, HN1, HN2, HRW⟩ := HMARK.out (.inl HSA.out.symm)
    go_upto_region 21 with fail
    refine wp_region_held_drew (S := (fun w' => w'.cell? ⟨xb2, 0, none⟩ = some (.int .i64 a) ∧ w'.cell? ⟨xb2, 1, none⟩ = some (.int .i64 b))) (by kernel_rfl) ?_ (fun hHeld0 => ?_)
    · ((try dsimp only); first | exact ⟨HRW.out.1.cell (i := 0) rfl, HRW.out.1.cell (i := 1) rfl⟩ | exact ⟨HRW.out.2.1.cell (i := 0) rfl, HRW.out.2.1.cell (i := 1) rfl⟩ | exact ⟨HRW.out.2.2.1.cell (i := 0) rfl, HRW.out.2.2.1.cell (i := 1) rfl⟩ | exact ⟨HRW.out.2.2.2.1.cell (i := 0) rfl, HRW.out.2.2.2.1.cell (i := 1) rfl⟩ | exact ⟨HRW.out.2.2.2.2.cell (i := 0) rfl, HRW.out.2.2.2.2.cell (i := 1) rfl⟩)
    refine wpAnyH_take (i := 0) (v := ?_) rfl (by kernel_rfl) (by kernel_rfl) (by kernel_rfl) (fun _ _ _ h => h) (Or.inl ⟨by rfl, ?_⟩) (by assumption) ?_
    rotate_left
    · (intro w hSw; (try dsimp only at hSw); go_simp; try with_reducible rfl)
    try simp only [List.getElem_toArray, List.getElem_cons_succ, List.getElem_cons_zero, Act.put, List.setIfInBounds_toArray, List.set_cons_zero, List.set_cons_succ]
    refine wpAnyH_take (i := 1) (v := ?_) rfl (by kernel_rfl) (by kernel_rfl) (by kernel_rfl) (fun _ _ _ h => h) (Or.inl ⟨by rfl, ?_⟩) (by assumption) ?_
    rotate_left
    · (intro w hSw; (try dsimp only at hSw); go_simp; try with_reducible rfl)
    try simp only [List.getElem_toArray, List.getElem_cons_succ, List.getElem_cons_zero, Act.put, List.setIfInBounds_toArray, List.set_cons_zero, List.set_cons_succ]
    refine wpAnyH_take (i := 2) (v := ?_) rfl (by kernel_rfl) (by kernel_rfl) (by kernel_rfl) (fun _ _ _ h => h) (Or.inl ⟨by rfl, ?_⟩) (by assumption) ?_
    rotate_left
    · (intro w hSw; (try dsimp only at hSw); go_simp; try with_reducible rfl)
    try simp only [List.getElem_toArray, List.getElem_cons_succ, List.getElem_cons_zero, Act.put, List.setIfInBounds_toArray, List.set_cons_zero, List.set_cons_succ]
    refine wpAnyH_take (i := 3) (v := ?_) rfl (by kernel_rfl) (by kernel_rfl) (by kernel_rfl) (fun _ _ _ h => h) (Or.inl ⟨by rfl, ?_⟩) (by assumption) ?_
    rotate_left
    · (intro w hSw; (try dsimp only at hSw); go_simp; try with_reducible rfl)
    try simp only [List.getElem_toArray, List.getElem_cons_succ, List.getElem_cons_zero, Act.put, List.setIfInBounds_toArray, List.set_cons_zero, List.set_cons_succ]
    refine wpAnyH_take (i := 4) (v := ?_) rfl (by kernel_rfl) (by kernel_rfl) (by kernel_rfl) (fun _ _ _ h => h) (Or.inl ⟨by rfl, ?_⟩) (by assumption) ?_
    rotate_left
    · (intro w hSw; (try dsimp only at hSw); go_simp; try with_reducible rfl)
    try simp only [List.getElem_toArray, List.getElem_cons_succ, List.getElem_cons_zero, Act.put, List.setIfInBounds_toArray, List.set_cons_zero, List.set_cons_succ]
    refine wpAnyH_take (i := 5) (v := ?_) rfl (by kernel_rfl) (by kernel_rfl) (by kernel_rfl) (fun _ _ _ h => h) (Or.inl ⟨by rfl, ?_⟩) (by assumption) ?_
    rotate_left
    · (intro w hSw; (try dsimp only at hSw); go_simp; try with_reducible rfl)
    try simp only [List.getElem_toArray, List.getElem_cons_succ, List.getElem_cons_zero, Act.put, List.setIfInBounds_toArray, List.set_cons_zero, List.set_cons_succ]
    refine wpAnyH_ready (rs := [6]) (by kernel_rfl) (by simp) ?_
    refine AllReadyH.cons rfl (fun K hK => ?_) AllReadyH.nil
    go_simp
    refine hK.out _ _ ?_ (fun hHeld1 => ?_)
    · ((try dsimp only); first | exact ⟨HRW.out.1.cell (i := 0) rfl, HRW.out.1.cell (i := 1) rfl⟩ | exact ⟨HRW.out.2.1.cell (i := 0) rfl, HRW.out.2.1.cell (i := 1) rfl⟩ | exact ⟨HRW.out.2.2.1.cell (i := 0) rfl, HRW.out.2.2.1.cell (i := 1) rfl⟩ | exact ⟨HRW.out.2.2.2.1.cell (i := 0) rfl, HRW.out.2.2.2.1.cell (i := 1) rfl⟩ | exact ⟨HRW.out.2.2.2.2.cell (i := 0) rfl, HRW.out.2.2.2.2.cell (i := 1) rfl⟩)
    clear hK K hHeld0
    refine wpAnyH_ready (rs := [7]) (by kernel_rfl) (by simp) ?_
    refine AllReadyH.cons rfl (fun K hK => ?_) AllReadyH.nil
    go_simp
    refine hK.out _ _ ?_ (fun hHeld2 => ?_)
    · ((try dsimp only); first | exact ⟨HRW.out.1.cell (i := 0) rfl, HRW.out.1.cell (i := 1) rfl⟩ | exact ⟨HRW.out.2.1.cell (i := 0) rfl, HRW.out.2.1.cell (i := 1) rfl⟩ | exact ⟨HRW.out.2.2.1.cell (i := 0) rfl, HRW.out.2.2.1.cell (i := 1) rfl⟩ | exact ⟨HRW.out.2.2.2.1.cell (i := 0) rfl, HRW.out.2.2.2.1.cell (i := 1) rfl⟩ | exact ⟨HRW.out.2.2.2.2.cell (i := 0) rfl, HRW.out.2.2.2.2.cell (i := 1) rfl⟩)
    clear hK K hHeld1
    refine wpAnyH_done (by kernel_rfl) ?_ _
    clear hHeld2
    clear p1 p2 r1 r2
    go_wp2
    go_roundw
    case rel => exact ⟨j + 1, by omega, by go_num, by first | exact HN1.out | exact HN2.out⟩
    case measure => simp [intOf]; omega
  case' false =>
  cases sb
  case' true =>
    obtain ⟨Ya, Yab, Yb, Yba, p1, p2, r1, r2, HN1, HN2, HRW⟩ := HMARK.out (.inr HSB.out.symm)
    go_upto_region 21 with fail
    refine wp_region_held_drew (S := (fun w' => w'.cell? ⟨xb2, 0, none⟩ = some (.int .i64 a) ∧ w'.cell? ⟨xb2, 1, none⟩ = some (.int .i64 b))) (by kernel_rfl) ?_ (fun hHeld0 => ?_)
    · ((try dsimp only); first | exact ⟨HRW.out.1.cell (i := 0) rfl, HRW.out.1.cell (i := 1) rfl⟩ | exact ⟨HRW.out.2.1.cell (i := 0) rfl, HRW.out.2.1.cell (i := 1) rfl⟩ | exact ⟨HRW.out.2.2.1.cell (i := 0) rfl, HRW.out.2.2.1.cell (i := 1) rfl⟩ | exact ⟨HRW.out.2.2.2.1.cell (i := 0) rfl, HRW.out.2.2.2.1.cell (i := 1) rfl⟩ | exact ⟨HRW.out.2.2.2.2.cell (i := 0) rfl, HRW.out.2.2.2.2.cell (i := 1) rfl⟩)
    refine wpAnyH_take (i := 0) (v := ?_) rfl (by kernel_rfl) (by kernel_rfl) (by kernel_rfl) (fun _ _ _ h => h) (Or.inl ⟨by rfl, ?_⟩) (by assumption) ?_
    rotate_left
    · (intro w hSw; (try dsimp only at hSw); go_simp; try with_reducible rfl)
    try simp only [List.getElem_toArray, List.getElem_cons_succ, List.getElem_cons_zero, Act.put, List.setIfInBounds_toArray, List.set_cons_zero, List.set_cons_succ]
    refine wpAnyH_take (i := 1) (v := ?_) rfl (by kernel_rfl) (by kernel_rfl) (by kernel_rfl) (fun _ _ _ h => h) (Or.inl ⟨by rfl, ?_⟩) (by assumption) ?_
    rotate_left
    · (intro w hSw; (try dsimp only at hSw); go_simp; try with_reducible rfl)
    try simp only [List.getElem_toArray, List.getElem_cons_succ, List.getElem_cons_zero, Act.put, List.setIfInBounds_toArray, List.set_cons_zero, List.set_cons_succ]
    refine wpAnyH_take (i := 2) (v := ?_) rfl (by kernel_rfl) (by kernel_rfl) (by kernel_rfl) (fun _ _ _ h => h) (Or.inl ⟨by rfl, ?_⟩) (by assumption) ?_
    rotate_left
    · (intro w hSw; (try dsimp only at hSw); go_simp; try with_reducible rfl)
    try simp only [List.getElem_toArray, List.getElem_cons_succ, List.getElem_cons_zero, Act.put, List.setIfInBounds_toArray, List.set_cons_zero, List.set_cons_succ]
    refine wpAnyH_take (i := 3) (v := ?_) rfl (by kernel_rfl) (by kernel_rfl) (by kernel_rfl) (fun _ _ _ h => h) (Or.inl ⟨by rfl, ?_⟩) (by assumption) ?_
    rotate_left
    · (intro w hSw; (try dsimp only at hSw); go_simp; try with_reducible rfl)
    try simp only [List.getElem_toArray, List.getElem_cons_succ, List.getElem_cons_zero, Act.put, List.setIfInBounds_toArray, List.set_cons_zero, List.set_cons_succ]
    refine wpAnyH_take (i := 4) (v := ?_) rfl (by kernel_rfl) (by kernel_rfl) (by kernel_rfl) (fun _ _ _ h => h) (Or.inl ⟨by rfl, ?_⟩) (by assumption) ?_
    rotate_left
    · (intro w hSw; (try dsimp only at hSw); go_simp; try with_reducible rfl)
    try simp only [List.getElem_toArray, List.getElem_cons_succ, List.getElem_cons_zero, Act.put, List.setIfInBounds_toArray, List.set_cons_zero, List.set_cons_succ]
    refine wpAnyH_take (i := 5) (v := ?_) rfl (by kernel_rfl) (by kernel_rfl) (by kernel_rfl) (fun _ _ _ h => h) (Or.inl ⟨by rfl, ?_⟩) (by assumption) ?_
    rotate_left
    · (intro w hSw; (try dsimp only at hSw); go_simp; try with_reducible rfl)
    try simp only [List.getElem_toArray, List.getElem_cons_succ, List.getElem_cons_zero, Act.put, List.setIfInBounds_toArray, List.set_cons_zero, List.set_cons_succ]
    refine wpAnyH_ready (rs := [6]) (by kernel_rfl) (by simp) ?_
    refine AllReadyH.cons rfl (fun K hK => ?_) AllReadyH.nil
    go_simp
    refine hK.out _ _ ?_ (fun hHeld1 => ?_)
    · ((try dsimp only); first | exact ⟨HRW.out.1.cell (i := 0) rfl, HRW.out.1.cell (i := 1) rfl⟩ | exact ⟨HRW.out.2.1.cell (i := 0) rfl, HRW.out.2.1.cell (i := 1) rfl⟩ | exact ⟨HRW.out.2.2.1.cell (i := 0) rfl, HRW.out.2.2.1.cell (i := 1) rfl⟩ | exact ⟨HRW.out.2.2.2.1.cell (i := 0) rfl, HRW.out.2.2.2.1.cell (i := 1) rfl⟩ | exact ⟨HRW.out.2.2.2.2.cell (i := 0) rfl, HRW.out.2.2.2.2.cell (i := 1) rfl⟩)
    clear hK K hHeld0
    refine wpAnyH_ready (rs := [7]) (by kernel_rfl) (by simp) ?_
    refine AllReadyH.cons rfl (fun K hK => ?_) AllReadyH.nil
    go_simp
    refine hK.out _ _ ?_ (fun hHeld2 => ?_)
    · ((try dsimp only); first | exact ⟨HRW.out.1.cell (i := 0) rfl, HRW.out.1.cell (i := 1) rfl⟩ | exact ⟨HRW.out.2.1.cell (i := 0) rfl, HRW.out.2.1.cell (i := 1) rfl⟩ | exact ⟨HRW.out.2.2.1.cell (i := 0) rfl, HRW.out.2.2.1.cell (i := 1) rfl⟩ | exact ⟨HRW.out.2.2.2.1.cell (i := 0) rfl, HRW.out.2.2.2.1.cell (i := 1) rfl⟩ | exact ⟨HRW.out.2.2.2.2.cell (i := 0) rfl, HRW.out.2.2.2.2.cell (i := 1) rfl⟩)
    clear hK K hHeld1
    refine wpAnyH_done (by kernel_rfl) ?_ _
    clear hHeld2
    clear p1 p2 r1 r2
    go_wp2
    go_roundw
    case rel => exact ⟨j + 1, by omega, by go_num, by first | exact HN1.out | exact HN2.out⟩
    case measure => simp [intOf]; omega
  case' false =>
    have HN := Lib.hid (show SeenAt Xs Y1 mm ((E.take (j + 1)).foldl markE (sweepsE E (fun v => decide (v = s0)) i)) from by
      rw [HNX.out]
      refine HS1.out.congr fun v => ?_
      unfold markE
      rw [if_neg (by simp only [← HSA.out, ← HSB.out]; decide)])
    go_wp2
    go_roundw
    case rel => exact ⟨j + 1, by omega, by go_num, HN.out⟩
    case measure => simp [intOf]; omega
end Go.Proofs.YtkjamheoihlekaaGreat

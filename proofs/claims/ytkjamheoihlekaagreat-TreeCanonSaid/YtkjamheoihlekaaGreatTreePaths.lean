/- tree.Paths. -/
import Derived.Test.YtkjamheoihlekaaGreatTreeNear
namespace Go.Proofs.YtkjamheoihlekaaGreat
set_option linter.unusedVariables false
set_option linter.unusedSimpArgs false
open Go.RowKit Go.Maps
set_option maxRecDepth 100000 in
set_option maxHeartbeats 8000000 in
theorem paths_ok (E : List (Int × Int)) (hI : EI64 E) (hlE : E.length ≤ 10000) (ao : Option Addr) (cap : Nat) (w : World) (hE : EdgesAt w ao E) :
    Calls Tryz.prog 23 #[.slice ao E.length cap] w (PathsP w E) := by
  obtain ⟨i0, hi0, hz0, hz1, hz2⟩ := info_parts info3
  have hmm := @run_makeMap Tryz.prog
  obtain ⟨n, hn⟩ : ∃ n, n = E.length := ⟨_, rfl⟩
  have HN := Lib.hid hn
  have HI := Lib.hid hI
  obtain ⟨nm, hnm⟩ : ∃ m, m = w.heap.size := ⟨_, rfl⟩
  have HNM := Lib.hid hnm
  have HE := Lib.hid hE
  rw [← hn]
  rw [← hn] at hlE
  obtain ⟨W4, hW4⟩ : ∃ W4, W4 = (((w.alloc (.map #[] 0)).alloc (.map #[] 0)).alloc (.cells #[.map (some w.heap.size), .map (some (w.heap.size + 1))] 90)).alloc (.map #[] 0) := ⟨_, rfl⟩
  have HS0 := Lib.hid (paths_init w W4 nm hnm hW4 E)
  have HW4 := Lib.hid hW4
  clear hI hE hn hW4 hnm
  go_enter Tryz.func23, Tryz.ntmps23
  go_upto_region 4 with fail
  rw [← HW4.out]
  simp only [← HNM.out]
  go_loopw [21] (fun v ws => ∃ k : Nat, k ≤ n ∧ v = .int .i64 k ∧ Hid (RightE (E.take k)) ∧ ∃ A, PS1 w ws nm A (fun e => e ∈ E.take k) (nbE (E.take k))) (fun v _ => n - (intOf v).toNat)
  case atStart => exact ⟨0, by omega, rfl, Lib.hid ⟨by simp, by simp⟩, HS0.out⟩
  case round =>
  clear HS0
  obtain ⟨k, hk, rfl, HR, A, hps⟩ := hrel
  obtain ⟨X, rfl⟩ : ∃ X : World, X = wr := ⟨_, rfl⟩
  have HPS := Lib.hid hps
  by_cases hlt : k < n
  case neg =>
    obtain rfl : k = n := by omega
    have HRE := Lib.hid (show RightE E from by have := HR.out; rw [HN.out, List.take_length] at this; exact this)
    have hpE : PS1 w X nm A (fun e => e ∈ E) (nbE E) := by have := hps; rw [HN.out, List.take_length] at this; exact this
    have HPE := Lib.hid hpE
    obtain ⟨cnt, hmp, hcnt⟩ := nb_bound hpE
    rw [← HN.out] at hcnt
    have hbx := hpE.box.cell (i := 0) rfl
    have HKM := Lib.hid (keys_mkI nm X)
    have HKS := Lib.hid (sorted_keysI X.heap.size nm cnt (by omega) _ (X.alloc (.cells #[.map (some nm)] 88)) (by simp) ((RowIs.made X 88 [.map (some nm)]).cell (i := 0) rfl) (hmp.below (Nat.le_refl _) ((Below.refl _ _).alloc (Nat.le_refl _) _)))
    clear hps hpE hmp HPS
    go_wp2_with fail
    refine HKM.out.mono ?_
    rintro e w1 ⟨rfl, rfl⟩
    go_wp2_with fail
    refine HKS.out.mono ?_
    rintro e w2 ⟨vV, D, ⟨hnd, hin⟩, rfl, hown, hb2⟩
    have HDL := Lib.hid (show D.length ≤ 2 * k from by
      have hn1 : D.length ≤ (E.map Prod.fst ++ E.map Prod.snd).length := hnd.length_le_of_subset fun v hv => nb_ends (by
        have := (hin v).1 hv
        unfold nC at this
        exact fun q => this (by rw [if_pos q]))
      simp at hn1
      have := HN.out
      omega)
    obtain ⟨W, hW⟩ : ∃ W, W = w2.alloc (.cells #[.bool false, .bool true] 4) := ⟨_, rfl⟩
    obtain ⟨av, capV, rfl, hvl, hmid⟩ := mid_ok (bx := .map (some nm)) HPE.out hnd hin (by simpa using hb2) (by simpa using hown) hW
    obtain ⟨V, hV⟩ : ∃ V, V = sortZ D := ⟨_, rfl⟩
    rw [← hV] at hvl hmid ⊢
    obtain ⟨vn, hvn⟩ : ∃ n, n = V.length := ⟨_, rfl⟩
    rw [← hvn] at hvl ⊢
    have hvb : vn ≤ 20000 := by have := HDL.out; omega
    obtain ⟨base, hbase⟩ : ∃ b, b = W.heap.size := ⟨_, rfl⟩
    rw [← hbase] at hmid
    obtain ⟨bb, hbb⟩ : ∃ b, b = w2.heap.size := ⟨_, rfl⟩
    rw [← hbb] at hmid
    have HM := Lib.hid hmid
    have HW := Lib.hid hW
    have HBB := Lib.hid hbb
    have HVN := Lib.hid hvn
    obtain ⟨iR, hiR, hr0, hr1, hr2⟩ := info_parts infoInts18
    have HIV := Lib.hid (show ∀ v, degE E v ≠ 0 → I64 v from fun v hv => ends_i64 HI.out hv)
    have hlk' := hlE
    clear hnd hin hown hb2 HPE HKM HKS HE HR hvl hmid hW hV hvn hbb hbx hbase hcnt HDL
    go_upto_region 15 with fail
    rw [← HW.out]
    simp only [← HBB.out]
    go_loopw [7, 70] (fun ov v ws => ∃ (r : Nat) (O : List (List Int)) (G : Int × Int → Prop), r ≤ 2 ∧ v = .int .i64 r ∧ PS3 W ws nm base ov O G ∧ PSt18 E O G ∧ Hid ((1 ≤ r → Opens18 E G) ∧ (r = 2 → ∀ e, e ∈ E → G e))) (fun _ v _ => 2 - (intOf v).toNat)
    case atStart => exact ⟨0, [], _, by omega, rfl, HM.out.st, PSt18.init E, Lib.hid ⟨fun h => by omega, fun h => by omega⟩⟩
    case round =>
    obtain ⟨r, O, G, hr, rfl, hs3, hst, HOP⟩ := hrel
    obtain ⟨X2, rfl⟩ : ∃ X2 : World, X2 = wr := ⟨_, rfl⟩
    obtain ⟨ov, rfl⟩ : ∃ ov, ov = u7 := ⟨_, rfl⟩
    by_cases hr2' : r < 2
    case neg =>
      have g0 : decide ((r : Int) < 2) = false := by simp; omega
      have HR2 := Lib.hid (show r = 2 by omega)
      have HSO := Lib.hid (sort_rows X2 base ov O hs3.rows (by have := hst.bound HRE.out; have := HN.out; omega))
      have HLW := Lib.hid (HM.out.low X2 hs3.but)
      have HBASE := Lib.hid (show nm ≤ base ∧ base ≤ X2.heap.size from ⟨by have := hs3.low; omega, hs3.sz⟩)
      have HFI := Lib.hid (hst.fin HRE.out (HOP.out.2 HR2.out))
      have HOB := Lib.hid (show ∀ q, ov.ownBlock = some q → base ≤ q from fun q hq => by obtain ⟨ds, h1, h2⟩ := hs3.rows; exact (h1.lt q hq).1)
      clear hs3 hst hr hr2'
      go_wp2_with fail
      refine HSO.out.mono ?_
      rintro e w3 ⟨rfl, S, so, sc, hp, hsrt, rfl, hrows, hg3⟩
      have HFIN := Lib.hid (show PathsP w E (.returned (.slice so S.length sc)) w3 from ⟨so, sc, S, rfl, hrows, by
        rw [HM.out.enm]
        exact HLW.out.grown hg3 (by have := HBASE.out; omega) (fun q hq => by have := HOB.out q hq; have := HBASE.out; omega), fun h => absurd HRE.out h, fun _ => ⟨hsrt, O, HFI.out, hp⟩⟩)
      clear hp hsrt hrows hg3 HSO
      go_wp2
      exact bodyPost_ret (v := .slice so S.length sc) (by simp [results, Tryz.results23, go_sem]) rfl HFIN.out
    case pos =>
    have g0 : decide ((r : Int) < 2) = true := by simp; omega
    obtain ⟨rd, hrd⟩ : ∃ b, b = decide (r = 1) := ⟨_, rfl⟩
    have HRD := Lib.hid hrd
    have hbl : X2.cell? ⟨bb, r, none⟩ = some (.bool rd) := by
      have h1 := HM.out.bool X2 hs3.but
      rcases (show r = 0 ∨ r = 1 by omega) with q | q
      · rw [hrd, q]; exact h1.1
      · rw [hrd, q]; exact h1.2
    have br : (0 : Int) ≤ (r : Int) ∧ (r : Int) < 2 := by omega
    have HS3 := Lib.hid hs3
    have HST := Lib.hid hst
    have HOP1 := Lib.hid (show rd = true → Opens18 E G from fun h => HOP.out.1 (by rw [hrd] at h; have := of_decide_eq_true h; omega))
    clear hs3 hst hrd HOP
    go_wp2
    go_loopw [7, 76] (fun ov v ws => ∃ (i : Nat) (O : List (List Int)) (G : Int × Int → Prop), i ≤ vn ∧ v = .int .i64 i ∧ PS3 W ws nm base ov O G ∧ PSt18 E O G ∧ Hid (Pass18 E V rd i 0 0 G)) (fun _ v _ => vn - (intOf v).toNat)
    case atStart => exact ⟨0, O, G, by omega, rfl, HS3.out, HST.out, Lib.hid (Pass18.start HOP1.out)⟩
    case round =>
    clear HS3 HST HOP1 hbl
    obtain ⟨i, O, G, hi, rfl, hs3, hst, HPA⟩ := hrel
    obtain ⟨X3, rfl⟩ : ∃ X3 : World, X3 = wr := ⟨_, rfl⟩
    obtain ⟨ov, rfl⟩ : ∃ ov, ov = u7 := ⟨_, rfl⟩
    have HS3 := Lib.hid hs3
    have HST := Lib.hid hst
    by_cases hiv : i < vn
    case neg =>
      obtain rfl : i = vn := by omega
      have HNX := Lib.hid (show (1 ≤ r + 1 → Opens18 E G) ∧ (r + 1 = 2 → ∀ e, e ∈ E → G e) from by
        have hp := HPA.out
        rw [HVN.out] at hp
        have hVm : ∀ u, nbE E u ≠ [] → u ∈ V := fun u hu => (HM.out.mem u).2 hu
        rcases (show r = 0 ∨ r = 1 by omega) with q | q
        · have e : rd = false := by rw [HRD.out, q]; rfl
          rw [e] at hp
          exact ⟨fun _ => hp.opens hVm, fun h => by omega⟩
        · have e : rd = true := by rw [HRD.out, q]; rfl
          rw [e] at hp
          exact ⟨fun _ => hp.op rfl, fun _ => hp.all HRE.out hVm⟩)
      clear hs3 hst
      go_wp2
      go_roundw
      case rel => exact ⟨r + 1, O, G, by omega, by go_num, HS3.out, HST.out, HNX⟩
      case measure => simp [intOf]; omega
    case pos =>
    obtain ⟨vb, voff, rfl, hvlt, hvc⟩ := HM.out.all X3 hs3.but (by intro e; have := HVN.out; rw [e] at this; simp at this; omega)
    have c1 := hvc i (by rw [← HVN.out]; exact hiv)
    have HVI := Lib.hid (show V[i]? = some (I! V i) from I!_get (by rw [← HVN.out]; exact hiv))
    have hvm : I! V i ∈ V := List.mem_of_getElem? HVI.out
    obtain ⟨v, hv⟩ : ∃ v, v = I! V i := ⟨_, rfl⟩
    rw [← hv] at c1 HVI hvm
    have hnv := (HM.out.mem v).1 hvm
    have hdl := nbE_len E v
    have hd0 : degE E v ≠ 0 := by rw [← hdl]; exact fun q => hnv (List.length_eq_zero_iff.1 q)
    have HV64 := Lib.hid (HIV.out v hd0)
    obtain ⟨nb, noff, ncap, hrow⟩ := HM.out.row v hnv HV64.out
    have hlk := (hrow X3 hs3.but).1
    obtain ⟨dl, hdl'⟩ : ∃ n, n = (nbE E v).length := ⟨_, rfl⟩
    rw [← hdl'] at hrow hlk
    have HDE := Lib.hid (show dl = degE E v from by rw [hdl', hdl])
    have HDN := Lib.hid hdl'
    have hdb : dl ≤ 40000 := by have := degE_le E v; have := HN.out; have := HDE.out; omega
    have HROW := Lib.hid hrow
    obtain ⟨gb, hgb⟩ : ∃ b, b = ((dl : Int) == 2) := ⟨_, rfl⟩
    have g1 : ((dl : Int) == 2) = gb := hgb.symm
    have HGB := Lib.hid (show gb = decide (degE E v = 2) from by
      rw [hgb, ← HDE.out]
      by_cases q : dl = 2
      · simp [q]
      · have : ¬ (dl : Int) = 2 := by omega
        simp [q, this])
    have kw := (HM.out.web X3 hs3.but).1
    have bi : (0 : Int) ≤ (i : Int) ∧ (i : Int) < (vn : Int) := by omega
    clear hvc hvm hv hnv hdl hd0 hrow hdl' hgb hs3 hst hvlt
    by_cases hgr : gb = rd
    case neg =>
      have g2 : (gb == rd) = false := by simpa using hgr
      have HNX := Lib.hid (show Pass18 E V rd (i + 1) 0 0 G from HPA.out.next' HVI.out (by rw [← HGB.out]; exact hgr))
      clear hgr
      go_wp2
      go_roundw
      case rel => exact ⟨i + 1, O, G, by omega, by go_num, HS3.out, HST.out, HNX⟩
      case measure => simp [intOf]; omega
    case pos =>
    have g2 : (gb == rd) = true := by simp [hgr]
    have HEQ := Lib.hid (show decide (degE E v = 2) = rd from by rw [← HGB.out]; exact hgr)
    clear hgr
    have HPA0 := Lib.hid (show Pass18 E V rd i v 0 G from ⟨HPA.out.op, HPA.out.at_, fun x hx => by simp at hx⟩)
    go_wp2
    go_loopw [7, 93] (fun ov u ws => ∃ (j : Nat) (O : List (List Int)) (G : Int × Int → Prop), j ≤ dl ∧ u = .int .i64 j ∧ PS3 W ws nm base ov O G ∧ PSt18 E O G ∧ Hid (Pass18 E V rd i v j G)) (fun _ u _ => dl - (intOf u).toNat)
    case atStart => exact ⟨0, O, G, by omega, rfl, HS3.out, HST.out, HPA0⟩
    case round =>
    clear HS3 HST HPA HPA0 hlk kw
    obtain ⟨j, O, G, hj, rfl, hs3, hst, HPA⟩ := hrel
    obtain ⟨X4, rfl⟩ : ∃ X4 : World, X4 = wr := ⟨_, rfl⟩
    obtain ⟨ov, rfl⟩ : ∃ ov, ov = u7 := ⟨_, rfl⟩
    have HS3 := Lib.hid hs3
    have HST := Lib.hid hst
    by_cases hjd : j < dl
    case neg =>
      obtain rfl : j = dl := by omega
      have HNX := Lib.hid (show Pass18 E V rd (i + 1) 0 0 G from HPA.out.next HVI.out (.inl HDN.out))
      clear hs3 hst
      go_wp2
      go_roundw
      case rel => exact ⟨i + 1, O, G, by omega, by go_num, HS3.out, HST.out, HNX⟩
      case measure => simp [intOf]; omega
    case pos =>
    have nc := (HROW.out X4 hs3.but).2 j hjd
    have HXJ := Lib.hid (show (nbE E v)[j]? = some (I! (nbE E v) j) from I!_get (by rw [← HDN.out]; exact hjd))
    obtain ⟨x, hx⟩ : ∃ x, x = I! (nbE E v) j := ⟨_, rfl⟩
    rw [← hx] at nc HXJ
    have HXM := Lib.hid (List.mem_of_getElem? HXJ.out)
    have HX64 := Lib.hid (show I64 x from HIV.out x (by
      have := nbE_symm HRE.out HXM.out
      rw [← nbE_len]
      intro q
      rw [List.length_eq_zero_iff.1 q] at this
      cases this))
    have HOK := Lib.hid (show I64 (min v x) ∧ I64 (max v x) from by have := HV64.out; have := HX64.out; unfold I64 at *; omega)
    have bj : (0 : Int) ≤ (j : Int) ∧ (j : Int) < (dl : Int) := by omega
    have HK4 := Lib.hid (show X4.drew.cell? ⟨nm + 2, 1, none⟩ = some (.map (some (nm + 1))) from (HM.out.web X4 hs3.but).2)
    have HSD := Lib.hid (show PS3 W X4.drew nm base ov O G from HS3.out.more (Below.refl _ _).drew)
    obtain ⟨gg, hgg⟩ : ∃ b, b = @decide (G (flatE v x)) (Classical.propDecidable _) := ⟨_, rfl⟩
    have HGG := Lib.hid (show gg = true ↔ G (flatE v x) from by rw [hgg]; exact @decide_eq_true_iff _ (Classical.propDecidable _))
    have HLG := Lib.hid (show ∀ Y, PS3 W Y nm base ov O G → (Instr.lookup 68 (.map (some (nm + 1))) (.agg #[.int .i64 (min v x), .int .i64 (max v x)]) false).run Tryz.prog Y = .ok (.bool gg) Y from fun Y hY => by
      obtain ⟨cg, mg⟩ := hY.gone
      have := mg.to.look 68 4 (by kernel_rfl) zeroBool (min v x, max v x) HOK.out false
      simp only [Bool.false_eq_true, if_false, edgeFam, mC_getD] at this
      rw [this, hgg]
      rfl)
    clear hs3 hst hx hgg
    cases gg
    case' true =>
      have HNX := Lib.hid (HPA.out.step HXJ.out (HGG.out.1 rfl))
      go_upto_region 24 with fail
      refine wp_region_held_drew (S := (fun w' => w'.cell? ⟨nm + 2, 1, none⟩ = some (.map (some (nm + 1))))) (by kernel_rfl) ?_ (fun hHeld0 => ?_)
      · ((try dsimp only); first | exact HK4.out | exact hk5)
      refine wpAnyH_take (i := 0) (v := ?_) rfl (by kernel_rfl) (by kernel_rfl) (by kernel_rfl) (fun _ _ _ h => h) (Or.inl ⟨by rfl, ?_⟩) (by assumption) ?_
      rotate_left
      · (intro w hSw; (try dsimp only at hSw); go_simp; try with_reducible rfl)
      try simp only [List.getElem_toArray, List.getElem_cons_succ, List.getElem_cons_zero, Act.put, List.setIfInBounds_toArray, List.set_cons_zero, List.set_cons_succ]
      refine wpAnyH_take (i := 1) (v := ?_) rfl (by kernel_rfl) (by kernel_rfl) (by kernel_rfl) (fun _ _ _ h => h) (Or.inl ⟨by rfl, ?_⟩) (by assumption) ?_
      rotate_left
      · (intro w hSw; (try dsimp only at hSw); go_simp; try with_reducible rfl)
      try simp only [List.getElem_toArray, List.getElem_cons_succ, List.getElem_cons_zero, Act.put, List.setIfInBounds_toArray, List.set_cons_zero, List.set_cons_succ]
      refine wpAnyH_take (i := 2) (v := ?_) rfl (by kernel_rfl) (by kernel_rfl) (by kernel_rfl) (fun _ _ _ h => h) (Or.inl ⟨by rfl, ?_⟩) (by assumption) ?_
      rotate_left
      · (intro w hSw; (try dsimp only at hSw); go_simp; try with_reducible rfl)
      try simp only [List.getElem_toArray, List.getElem_cons_succ, List.getElem_cons_zero, Act.put, List.setIfInBounds_toArray, List.set_cons_zero, List.set_cons_succ]
      refine wpAnyH_take (i := 3) (v := ?_) rfl (by kernel_rfl) (by kernel_rfl) (by kernel_rfl) (fun _ _ _ h => h) (Or.inl ⟨by rfl, ?_⟩) (by assumption) ?_
      rotate_left
      · (intro w hSw; (try dsimp only at hSw); go_simp; try with_reducible rfl)
      try simp only [List.getElem_toArray, List.getElem_cons_succ, List.getElem_cons_zero, Act.put, List.setIfInBounds_toArray, List.set_cons_zero, List.set_cons_succ]
      refine wpAnyH_take (i := 4) (v := ?_) rfl (by kernel_rfl) (by kernel_rfl) (by kernel_rfl) (fun _ _ _ h => h) (Or.inl ⟨by rfl, ?_⟩) (by assumption) ?_
      rotate_left
      · (intro w hSw; (try dsimp only at hSw); go_simp; try with_reducible rfl)
      try simp only [List.getElem_toArray, List.getElem_cons_succ, List.getElem_cons_zero, Act.put, List.setIfInBounds_toArray, List.set_cons_zero, List.set_cons_succ]
      refine wpAnyH_ready (rs := [5]) (by kernel_rfl) (by simp) ?_
      refine AllReadyH.cons rfl (fun K hK => ?_) AllReadyH.nil
      go_simp
      go_wp2_with ((go_at_call 44; (refine (plain_ok v x _).mono ?_); rintro e w5 ⟨rfl, hb5⟩; have hs5 := HSD.out.more hb5; have hk5 : w5.cell? ⟨nm + 2, 1, none⟩ = some (.map (some (nm + 1))) := (HM.out.web w5 hs5.but).2; have hl5 := HLG.out w5 hs5))
      refine hK.out _ _ ?_ (fun hHeld1 => ?_)
      · ((try dsimp only); first | exact HK4.out | exact hk5)
      clear hK K hHeld0
      refine wpAnyH_ready (rs := [6]) (by kernel_rfl) (by simp) ?_
      refine AllReadyH.cons rfl (fun K hK => ?_) AllReadyH.nil
      go_simp
      refine hK.out _ _ ?_ (fun hHeld2 => ?_)
      · ((try dsimp only); first | exact HK4.out | exact hk5)
      clear hK K hHeld1
      refine wpAnyH_ready (rs := [7]) (by kernel_rfl) (by simp) ?_
      refine AllReadyH.cons rfl (fun K hK => ?_) AllReadyH.nil
      go_simp
      refine hK.out _ _ ?_ (fun hHeld3 => ?_)
      · ((try dsimp only); first | exact HK4.out | exact hk5)
      clear hK K hHeld2
      refine wpAnyH_done (by kernel_rfl) ?_ _
      clear hHeld3
      have HS5 := Lib.hid hs5
      clear hs5 hb5 hk5 hl5 HSD HK4
      go_wp2
      go_roundw
      case rel => exact ⟨j + 1, O, G, by omega, by go_num, HS5.out, HST.out, HNX⟩
      case measure => simp [intOf]; omega
    case' false =>
      have HNG := Lib.hid (show ¬ G (flatE v x) from fun h => by have := HGG.out.2 h; cases this)
      obtain ⟨K, hK⟩ := HPA.out.path HRE.out (fun u hu => (HM.out.mem u).2 hu) HM.out.srt HST.out HVI.out HEQ.out HXM.out HNG.out
      have HKP := Lib.hid hK
      have HKB := Lib.hid (show K + 1 ≤ 2 * E.length from hK.w.tr.bound HRE.out)
      have HNST := Lib.hid (HST.out.add hK HNG.out)
      have HNP := Lib.hid ((HPA.out.mono (G' := fun e => G e ∨ e ∈ pedges (pathL E (v, x) K)) (fun e h => .inl h)).step HXJ.out (.inr flat_first))
      clear hK
      go_upto_region 24 with fail
      refine wp_region_held_drew (S := (fun w' => w'.cell? ⟨nm + 2, 1, none⟩ = some (.map (some (nm + 1))))) (by kernel_rfl) ?_ (fun hHeld0 => ?_)
      · ((try dsimp only); first | exact HK4.out | exact hk5)
      refine wpAnyH_take (i := 0) (v := ?_) rfl (by kernel_rfl) (by kernel_rfl) (by kernel_rfl) (fun _ _ _ h => h) (Or.inl ⟨by rfl, ?_⟩) (by assumption) ?_
      rotate_left
      · (intro w hSw; (try dsimp only at hSw); go_simp; try with_reducible rfl)
      try simp only [List.getElem_toArray, List.getElem_cons_succ, List.getElem_cons_zero, Act.put, List.setIfInBounds_toArray, List.set_cons_zero, List.set_cons_succ]
      refine wpAnyH_take (i := 1) (v := ?_) rfl (by kernel_rfl) (by kernel_rfl) (by kernel_rfl) (fun _ _ _ h => h) (Or.inl ⟨by rfl, ?_⟩) (by assumption) ?_
      rotate_left
      · (intro w hSw; (try dsimp only at hSw); go_simp; try with_reducible rfl)
      try simp only [List.getElem_toArray, List.getElem_cons_succ, List.getElem_cons_zero, Act.put, List.setIfInBounds_toArray, List.set_cons_zero, List.set_cons_succ]
      refine wpAnyH_take (i := 2) (v := ?_) rfl (by kernel_rfl) (by kernel_rfl) (by kernel_rfl) (fun _ _ _ h => h) (Or.inl ⟨by rfl, ?_⟩) (by assumption) ?_
      rotate_left
      · (intro w hSw; (try dsimp only at hSw); go_simp; try with_reducible rfl)
      try simp only [List.getElem_toArray, List.getElem_cons_succ, List.getElem_cons_zero, Act.put, List.setIfInBounds_toArray, List.set_cons_zero, List.set_cons_succ]
      refine wpAnyH_take (i := 3) (v := ?_) rfl (by kernel_rfl) (by kernel_rfl) (by kernel_rfl) (fun _ _ _ h => h) (Or.inl ⟨by rfl, ?_⟩) (by assumption) ?_
      rotate_left
      · (intro w hSw; (try dsimp only at hSw); go_simp; try with_reducible rfl)
      try simp only [List.getElem_toArray, List.getElem_cons_succ, List.getElem_cons_zero, Act.put, List.setIfInBounds_toArray, List.set_cons_zero, List.set_cons_succ]
      refine wpAnyH_take (i := 4) (v := ?_) rfl (by kernel_rfl) (by kernel_rfl) (by kernel_rfl) (fun _ _ _ h => h) (Or.inl ⟨by rfl, ?_⟩) (by assumption) ?_
      rotate_left
      · (intro w hSw; (try dsimp only at hSw); go_simp; try with_reducible rfl)
      try simp only [List.getElem_toArray, List.getElem_cons_succ, List.getElem_cons_zero, Act.put, List.setIfInBounds_toArray, List.set_cons_zero, List.set_cons_succ]
      refine wpAnyH_ready (rs := [5]) (by kernel_rfl) (by simp) ?_
      refine AllReadyH.cons rfl (fun K hK => ?_) AllReadyH.nil
      go_simp
      go_wp2_with ((go_at_call 44; (refine (plain_ok v x _).mono ?_); rintro e w5 ⟨rfl, hb5⟩; have hs5 := HSD.out.more hb5; have hk5 : w5.cell? ⟨nm + 2, 1, none⟩ = some (.map (some (nm + 1))) := (HM.out.web w5 hs5.but).2; have hl5 := HLG.out w5 hs5))
      refine hK.out _ _ ?_ (fun hHeld1 => ?_)
      · ((try dsimp only); first | exact HK4.out | exact hk5)
      clear hK K hHeld0
      refine wpAnyH_ready (rs := [6]) (by kernel_rfl) (by simp) ?_
      refine AllReadyH.cons rfl (fun K hK => ?_) AllReadyH.nil
      go_simp
      refine hK.out _ _ ?_ (fun hHeld2 => ?_)
      · ((try dsimp only); first | exact HK4.out | exact hk5)
      clear hK K hHeld1
      refine wpAnyH_ready (rs := [7]) (by kernel_rfl) (by simp) ?_
      refine AllReadyH.cons rfl (fun K hK => ?_) AllReadyH.nil
      go_simp
      refine hK.out _ _ ?_ (fun hHeld3 => ?_)
      · ((try dsimp only); first | exact HK4.out | exact hk5)
      clear hK K hHeld2
      refine wpAnyH_done (by kernel_rfl) ?_ _
      clear hHeld3
      have HS5 := Lib.hid hs5
      have HON := Lib.hid (show O.length ≤ 20000 from by have := HST.out.bound HRE.out; have := HN.out; omega)
      obtain ⟨cg, hcg⟩ := hs5.gone
      have HWK := Lib.hid (show Calls Tryz.prog 56 #[.agg #[.map (some nm), .map (some (nm + 1))], .int .i64 v, .int .i64 x] w5 (WalkP w5 nm (nm + 1) E (v, x) K G cg) from walk_ok E HRE.out HIV.out (by have := HN.out; omega) (v, x) K HKP.out.w.tr HKP.out.w.stop w5 nm (nm + 1) cg G (HM.out.near w5 hs5.but) (by omega) ⟨cg, hcg, Nat.le_refl _⟩)
      obtain ⟨kw0, kw1⟩ := HM.out.web w5 hs5.but
      clear hs5 hb5 hk5 hl5 HSD HK4 hcg
      go_wp2_with fail
      refine HWK.out.mono ?_
      rintro e w6 ⟨a, cp, rfl, hi6, ha6, hm6, hb6⟩
      obtain ⟨ds, hal, hbs, hnx⟩ := HS5.out.walked (c := cp) (by have := HKB.out; have := HN.out; omega) hi6 ha6 (by obtain ⟨q, q1, -⟩ := hm6; exact ⟨q, q1⟩) hb6
      have HAL := Lib.hid hal
      have HBS := Lib.hid hbs
      have HNXT := Lib.hid hnx
      have HQ1 := Lib.hid (show O.length + 1 ≤ maxLen by have := HON.out; unfold maxLen; omega)
      have HQ2 := Lib.hid (show (O.length + 1) * 24 ≤ 140737488355328 by have := HON.out; omega)
      obtain ⟨ova, ovc, rfl⟩ := owns_slice hal
      clear hal hbs hnx hi6 ha6 hm6 hb6 kw0 kw1
      go_wp2_with (at_builtin; refine wpList_append_lies _ rfl _ _ 44 rfl base 28 iR (.slice none 0 0) 1 24 (by kernel_rfl) hiR hr0 hr1 hr2 rfl (by decide) _ _ _ rfl HAL.out ⟨w6.heap.size, 0, none⟩ 1 1 [.slice a (K + 2) cp] rfl rfl (World.news_of_block (heap_alloc_new w6 _)) (by intro u hu; simp at hu; subst hu; rfl) (by decide) HQ1.out HQ2.out HBS.out _ rfl ?_)
      intro g2 cap2 Z hown2 hgr2 hat2 hlt2
      have HN3 := Lib.hid (HNXT.out g2 cap2 (O.length + 1) Z rfl hown2 hgr2 (by first | exact hat2 | simpa using hat2))
      clear hown2 hgr2 hat2 hlt2 HAL HBS HNXT HWK
      go_wp2
      go_roundw
      case rel => exact ⟨j + 1, _, _, by omega, by go_num, HN3.out, HNST.out, HNP⟩
      case measure => simp [intOf]; omega
  case pos =>
  obtain ⟨eb0, off, rfl, hlt', hc⟩ := (HE.out.mono (B := nm) (by rw [HNM.out]; exact Nat.le_refl _) hps.low) (by intro e; have := HN.out; rw [e] at this; simp at this; omega)
  obtain ⟨c1, c2⟩ := hc k (by rw [← HN.out]; exact hlt)
  have HMEM := Lib.hid (show E! E k ∈ E from E!_mem (by rw [← HN.out]; exact hlt))
  have HIN := Lib.hid (HI.out (E! E k) HMEM.out)
  obtain ⟨⟨a, b⟩, hab⟩ : ∃ e, e = E! E k := ⟨_, rfl⟩
  have HAB := Lib.hid hab
  rw [← hab] at c1 c2 HIN HMEM
  simp only at c1 c2 HIN
  have bk : (0 : Int) ≤ (k : Int) ∧ (k : Int) < (n : Int) := by omega
  have HTK := Lib.hid (show E.take (k + 1) = E.take k ++ [(a, b)] from by
    have hk' : k < E.length := by rw [← HN.out]; exact hlt
    rw [List.take_add_one, List.getElem?_eq_getElem hk', hab]
    simp [E!, hk'])
  -- the edge in its box
  obtain ⟨X1, hX1⟩ : ∃ X1, X1 = X.alloc (.cells #[.int .i64 a, .int .i64 b] 40) := ⟨_, rfl⟩
  have hba : Below X.heap.size X X1 := by rw [hX1]; exact (Below.refl _ _).alloc (Nat.le_refl _) _
  have hr1 : RowIs X1 X.heap.size 40 [.int .i64 a, .int .i64 b] := by rw [hX1]; exact RowIs.made X 40 [.int .i64 a, .int .i64 b]
  have hp1 := hps.more hba
  obtain ⟨eb, heb⟩ : ∃ eb, eb = X.heap.size := ⟨_, rfl⟩
  rw [← heb] at hr1
  have HEB := Lib.hid heb
  have q1 := hr1.cell (i := 0) rfl
  have q2 := hr1.cell (i := 1) rfl
  have hge : nm + 4 ≤ eb := by have := hps.sz; omega
  obtain ⟨cn1, hs1⟩ := hp1.seen
  have hlk := hs1.to.look 68 4 (by kernel_rfl) zeroBool (a, b) HIN.out false
  simp only [Bool.false_eq_true, if_false, edgeFam, mC_getD] at hlk
  have HP1 := Lib.hid hp1
  have HX1 := Lib.hid hX1
  by_cases hab2 : a < b
  case neg =>
    have g1 : decide (a ≥ b) = true := by simp; omega
    have HFIN := Lib.hid (show PathsP w E (.returned (.slice none 0 0)) X1 from paths_no (fun h => by have := h.lt _ HMEM.out; exact hab2 this) (HP1.out.low.mono (by rw [HP1.out.enm]; exact Nat.le_refl _)))
    clear hps hc hab hba hr1 hp1 hs1 hlk heb hX1 hab2
    go_upto_region 6 with fail
    rw [← HX1.out]
    simp only [← HEB.out]
    go_wp2
    exact bodyPost_ret (v := .slice none 0 0) (by simp [results, Tryz.results23, go_sem]) rfl HFIN.out
  case pos =>
  have g1 : decide (a ≥ b) = false := by simp; omega
  by_cases hsn : (a, b) ∈ E.take k
  case pos =>
    have hlk' : (Instr.lookup 68 (.map (some (nm + 3))) (.agg #[.int .i64 a, .int .i64 b]) false).run Tryz.prog X1 = .ok (.bool true) X1 := by
      rw [hlk]; simp [hsn]
    have HFIN := Lib.hid (show PathsP w E (.returned (.slice none 0 0)) X1 from paths_no (fun h => by
      have hnd := h.nd
      rw [← List.take_append_drop (k + 1) E, HTK.out] at hnd
      have := (List.nodup_append.1 (List.nodup_append.1 hnd).1).2.2 _ hsn (a, b) (by simp)
      exact this rfl) (HP1.out.low.mono (by rw [HP1.out.enm]; exact Nat.le_refl _)))
    clear hps hc hab hba hr1 hp1 hs1 hlk heb hX1 hab2 hsn
    go_upto_region 6 with fail
    rw [← HX1.out]
    simp only [← HEB.out]
    go_wp2
    exact bodyPost_ret (v := .slice none 0 0) (by simp [results, Tryz.results23, go_sem]) rfl HFIN.out
  case neg =>
  have hlk' : (Instr.lookup 68 (.map (some (nm + 3))) (.agg #[.int .i64 a, .int .i64 b]) false).run Tryz.prog X1 = .ok (.bool false) X1 := by
    rw [hlk]; simp [hsn]
  obtain ⟨X2, s1, hs2, hg2⟩ := hs1.store 68 4 (by kernel_rfl) (a, b) HIN.out (.bool true)
  rw [mC_store] at hs2
  simp only [edgeFam] at s1
  have hp2 := hp1.mark hs2 hg2
  have hr2 : RowIs X2 eb 40 [.int .i64 a, .int .i64 b] := hr1.grown hg2 (by simp; omega)
  obtain ⟨va, hva⟩ : ∃ v, v = A a := ⟨_, rfl⟩
  obtain ⟨na, hna⟩ : ∃ n, n = (nbE (E.take k) a).length := ⟨_, rfl⟩
  have HK2 := Lib.hid (show X2.cell? ⟨nm + 2, 0, none⟩ = some (.map (some nm)) ∧ X2.cell? ⟨eb, 0, none⟩ = some (.int .i64 a) ∧ X2.cell? ⟨eb, 1, none⟩ = some (.int .i64 b) from ⟨hp2.box.cell (i := 0) rfl, hr2.cell (i := 0) rfl, hr2.cell (i := 1) rfl⟩)
  have HP2 := Lib.hid hp2
  have HR2 := Lib.hid hr2
  have HVA := Lib.hid hva
  have HNA := Lib.hid hna
  have HGE := Lib.hid hge
  have HNB := Lib.hid (show na ≤ 2 * n + 1 from by
    have := nbH_len E k 0 a
    rw [nbH_zero] at this
    rw [hna, HN.out]; exact this)
  have HLA := Lib.hid (show ∀ Y, Below X2.heap.size X2 Y → (Instr.lookup 88 (.map (some nm)) (.int .i64 a) false).run Tryz.prog Y = .ok va Y from fun Y hY => by
    rw [HVA.out]; exact (HP2.out.more hY).look a HIN.out.1)
  have HOW := Lib.hid (show X2.ownsRow (nm + 4) 3 1 va na (ic (nbE (E.take k) a)) from by rw [HVA.out, HNA.out]; exact HP2.out.nb.fam.1 a)
  have HZ2 := Lib.hid (show nm + 4 ≤ X2.heap.size from HP2.out.sz)
  have HRN := Lib.hid (show RightE (E.take (k + 1)) from by
    rw [HTK.out]
    refine ⟨fun e he => ?_, ?_⟩
    · rcases List.mem_append.1 he with he | he
      · exact HR.out.lt e he
      · simp at he; subst he; exact hab2
    · refine List.nodup_append.2 ⟨HR.out.nd, by simp, fun x hx y hy q => ?_⟩
      simp at hy
      rw [q, hy] at hx
      exact hsn hx)
  clear hps hc hab hba hr1 hp1 hs1 hlk hX1 heb hs2 hg2 hp2 hr2 hva hna hge hsn
  go_upto_region 6 with fail
  rw [← HX1.out]
  simp only [← HEB.out]
  go_upto_region 9 with fail
  have hbK : Below X2.heap.size X2 (X2.alloc (.cells #[.int .i64 b] 3)) := (Below.refl _ _).alloc (Nat.le_refl _) _
  have HENA := Lib.hid (show na + 1 = (nbE (E.take k) a).length + 1 from by rw [HNA.out])
  have HGRA := Lib.hid (show ∀ Y Z : World, Y.grownBy Z va.ownBlock → Y.grownBy Z (A a).ownBlock from fun Y Z h => by rw [← HVA.out]; exact h)
  have HATA := Lib.hid (show ∀ g z : Nat, (va.ownBlock = some g ∨ g = z) → (A a).ownBlock = some g ∨ g = z from fun g z h => by rw [← HVA.out]; exact h)
  refine wp_region_held_drew (S := (fun w' => w'.cell? ⟨nm + 2, 0, none⟩ = some (.map (some nm)) ∧ w'.cell? ⟨eb, 0, none⟩ = some (.int .i64 a) ∧ w'.cell? ⟨eb, 1, none⟩ = some (.int .i64 b))) (by kernel_rfl) ?_ (fun hHeld0 => ?_)
  · ((try dsimp only); first | exact hkz | exact hkw | exact HK2.out | exact ⟨(HP2.out.more hbK).box.cell (i := 0) rfl, (HR2.out.after hbK).cell (i := 0) rfl, (HR2.out.after hbK).cell (i := 1) rfl⟩)
  refine wpAnyH_take (i := 0) (v := ?_) rfl (by kernel_rfl) (by kernel_rfl) (by kernel_rfl) (fun _ _ _ h => h) (Or.inl ⟨by rfl, ?_⟩) (by assumption) ?_
  rotate_left
  · (intro w hSw; (try dsimp only at hSw); go_simp; try with_reducible rfl)
  try simp only [List.getElem_toArray, List.getElem_cons_succ, List.getElem_cons_zero, Act.put, List.setIfInBounds_toArray, List.set_cons_zero, List.set_cons_succ]
  refine wpAnyH_take (i := 1) (v := ?_) rfl (by kernel_rfl) (by kernel_rfl) (by kernel_rfl) (fun _ _ _ h => h) (Or.inl ⟨by rfl, ?_⟩) (by assumption) ?_
  rotate_left
  · (intro w hSw; (try dsimp only at hSw); go_simp; try with_reducible rfl)
  try simp only [List.getElem_toArray, List.getElem_cons_succ, List.getElem_cons_zero, Act.put, List.setIfInBounds_toArray, List.set_cons_zero, List.set_cons_succ]
  refine wpAnyH_take (i := 2) (v := ?_) rfl (by kernel_rfl) (by kernel_rfl) (by kernel_rfl) (fun _ _ _ h => h) (Or.inl ⟨by rfl, ?_⟩) (by assumption) ?_
  rotate_left
  · (intro w hSw; (try dsimp only at hSw); go_simp; try with_reducible rfl)
  try simp only [List.getElem_toArray, List.getElem_cons_succ, List.getElem_cons_zero, Act.put, List.setIfInBounds_toArray, List.set_cons_zero, List.set_cons_succ]
  refine wpAnyH_take (i := 3) (v := ?_) rfl (by kernel_rfl) (by kernel_rfl) (by kernel_rfl) (fun _ _ _ h => h) (Or.inl ⟨by rfl, ?_⟩) (by assumption) ?_
  rotate_left
  · (intro w hSw; (try dsimp only at hSw); go_simp; try with_reducible rfl)
  try simp only [List.getElem_toArray, List.getElem_cons_succ, List.getElem_cons_zero, Act.put, List.setIfInBounds_toArray, List.set_cons_zero, List.set_cons_succ]
  refine wpAnyH_take (i := 4) (v := ?_) rfl (by kernel_rfl) (by kernel_rfl) (by kernel_rfl) (fun _ _ _ h => h) (Or.inl ⟨by rfl, ?_⟩) (by assumption) ?_
  rotate_left
  · (intro w hSw; (try dsimp only at hSw); go_simp; try with_reducible rfl)
  try simp only [List.getElem_toArray, List.getElem_cons_succ, List.getElem_cons_zero, Act.put, List.setIfInBounds_toArray, List.set_cons_zero, List.set_cons_succ]
  refine wpAnyH_take (i := 5) (v := ?_) rfl (by kernel_rfl) (by kernel_rfl) (by kernel_rfl) (fun _ _ _ h => h) (Or.inl ⟨by rfl, ?_⟩) (by assumption) ?_
  rotate_left
  · (intro w hSw; (try dsimp only at hSw); go_simp; try with_reducible rfl)
  try simp only [List.getElem_toArray, List.getElem_cons_succ, List.getElem_cons_zero, Act.put, List.setIfInBounds_toArray, List.set_cons_zero, List.set_cons_succ]
  refine wpAnyH_take (i := 6) (v := ?_) rfl (by kernel_rfl) (by kernel_rfl) (by kernel_rfl) (fun _ _ _ h => h) (Or.inl ⟨by rfl, ?_⟩) (by assumption) ?_
  rotate_left
  · (intro w hSw; (try dsimp only at hSw); go_simp; try with_reducible rfl)
  try simp only [List.getElem_toArray, List.getElem_cons_succ, List.getElem_cons_zero, Act.put, List.setIfInBounds_toArray, List.set_cons_zero, List.set_cons_succ]
  refine wpAnyH_take (i := 7) (v := ?_) rfl (by kernel_rfl) (by kernel_rfl) (by kernel_rfl) (fun _ _ _ h => h) (Or.inl ⟨by rfl, ?_⟩) (by assumption) ?_
  rotate_left
  · (intro w hSw; (try dsimp only at hSw); go_simp; try with_reducible rfl)
  try simp only [List.getElem_toArray, List.getElem_cons_succ, List.getElem_cons_zero, Act.put, List.setIfInBounds_toArray, List.set_cons_zero, List.set_cons_succ]
  refine wpAnyH_take (i := 9) (v := ?_) rfl (by kernel_rfl) (by kernel_rfl) (by kernel_rfl) (fun _ _ _ h => h) (Or.inl ⟨by rfl, ?_⟩) (by assumption) ?_
  rotate_left
  · (intro w hSw; (try dsimp only at hSw); go_simp; try with_reducible rfl)
  try simp only [List.getElem_toArray, List.getElem_cons_succ, List.getElem_cons_zero, Act.put, List.setIfInBounds_toArray, List.set_cons_zero, List.set_cons_succ]
  refine wpAnyH_take (i := 10) (v := ?_) rfl (by kernel_rfl) (by kernel_rfl) (by kernel_rfl) (fun _ _ _ h => h) (Or.inl ⟨by rfl, ?_⟩) (by assumption) ?_
  rotate_left
  · (intro w hSw; (try dsimp only at hSw); go_simp; try with_reducible rfl)
  try simp only [List.getElem_toArray, List.getElem_cons_succ, List.getElem_cons_zero, Act.put, List.setIfInBounds_toArray, List.set_cons_zero, List.set_cons_succ]
  refine wpAnyH_ready (rs := [8, 11]) (by kernel_rfl) (by simp) ?_
  refine AllReadyH.cons rfl (fun K hK => ?_) (AllReadyH.cons rfl (fun K hK => ?_) AllReadyH.nil)
  · skip
    have hlA := HLA.out X2 (Below.refl _ _)
    have hlB := HLA.out (X2.alloc (.cells #[.int .i64 b] 3)) ((Below.refl _ _).alloc (Nat.le_refl _) _)
    have hlC := HLA.out X2.drew (Below.refl _ _).drew
    have hlD := HLA.out (X2.alloc (.cells #[.int .i64 b] 3)).drew ((Below.refl _ _).alloc (Nat.le_refl _) _).drew
    go_simp
    refine hK.out _ _ ?_ (fun hHeld1 => ?_)
    · ((try dsimp only); first | exact hkz | exact hkw | exact HK2.out | exact ⟨(HP2.out.more hbK).box.cell (i := 0) rfl, (HR2.out.after hbK).cell (i := 0) rfl, (HR2.out.after hbK).cell (i := 1) rfl⟩)
    clear hK K hHeld0
    refine wpAnyH_ready (rs := [11]) (by kernel_rfl) (by simp) ?_
    refine AllReadyH.cons rfl (fun K hK => ?_) AllReadyH.nil
    go_simp
    refine hK.out _ _ ?_ (fun hHeld2 => ?_)
    · ((try dsimp only); first | exact hkz | exact hkw | exact HK2.out | exact ⟨(HP2.out.more hbK).box.cell (i := 0) rfl, (HR2.out.after hbK).cell (i := 0) rfl, (HR2.out.after hbK).cell (i := 1) rfl⟩)
    clear hK K hHeld1
    refine wpAnyH_ready (rs := [12]) (by kernel_rfl) (by simp) ?_
    refine AllReadyH.cons rfl (fun K hK => ?_) AllReadyH.nil
    have hbY : Below X2.heap.size X2 (X2.alloc (.cells #[.int .i64 b] 3)) := (Below.refl _ _).alloc (Nat.le_refl _) _
    refine step_append_lies _ (by rfl) _ _ _ (by rfl) (nm + 4) 3 i0 (.int .i64 0) 1 8 (by kernel_rfl) hi0 hz0 hz1 hz2 rfl (by decide) va na (ic (nbE (E.take k) a)) (by rfl) (owns_below HOW.out (by repeat (first | exact hbY | with_reducible exact Below.refl _ _ | with_reducible apply bel_drew | with_reducible apply bel_alloc))) ⟨X2.heap.size, 0, none⟩ 1 1 [.int .i64 b] (by rfl) rfl (World.news_of_block (heap_alloc_new _ _)) (by intro u hu; simp at hu; subst hu; rfl) (by decide) (by have := HNB.out; unfold maxLen; omega) (by have := HNB.out; omega) (Nat.le_trans HZ2.out (by simp)) (X2.heap.size + 1) (by simp) ?_
    intro g3 cap3 Z3 hown hgr hat hltg
    obtain ⟨hbx, hex, Z3', hst, hex', hps'⟩ := HP2.out.grow a b HIN.out.1 (by repeat (first | exact hbY | with_reducible exact Below.refl _ _ | with_reducible apply bel_drew | with_reducible apply bel_alloc)) (g := g3) (cap := cap3) (n := na + 1) HENA.out hown (HGRA.out _ _ hgr) (HATA.out _ _ (by first | exact hat | simpa using hat)) HR2.out HGE.out
    have hkz : Z3.cell? ⟨nm + 2, 0, none⟩ = some (.map (some nm)) ∧ Z3.cell? ⟨eb, 0, none⟩ = some (.int .i64 a) ∧ Z3.cell? ⟨eb, 1, none⟩ = some (.int .i64 b) := ⟨hbx.cell (i := 0) rfl, hex.cell (i := 0) rfl, hex.cell (i := 1) rfl⟩
    have hkw : Z3'.cell? ⟨nm + 2, 0, none⟩ = some (.map (some nm)) ∧ Z3'.cell? ⟨eb, 0, none⟩ = some (.int .i64 a) ∧ Z3'.cell? ⟨eb, 1, none⟩ = some (.int .i64 b) := ⟨hps'.box.cell (i := 0) rfl, hex'.cell (i := 0) rfl, hex'.cell (i := 1) rfl⟩
    refine hK.out _ _ ?_ (fun hHeld3 => ?_)
    · ((try dsimp only); first | exact hkz | exact hkw | exact HK2.out | exact ⟨(HP2.out.more hbK).box.cell (i := 0) rfl, (HR2.out.after hbK).cell (i := 0) rfl, (HR2.out.after hbK).cell (i := 1) rfl⟩)
    clear hK K hHeld2
    refine wpAnyH_ready (rs := [13]) (by kernel_rfl) (by simp) ?_
    refine AllReadyH.cons rfl (fun K hK => ?_) AllReadyH.nil
    go_simp
    refine hK.out _ _ ?_ (fun hHeld4 => ?_)
    · ((try dsimp only); first | exact hkz | exact hkw | exact HK2.out | exact ⟨(HP2.out.more hbK).box.cell (i := 0) rfl, (HR2.out.after hbK).cell (i := 0) rfl, (HR2.out.after hbK).cell (i := 1) rfl⟩)
    clear hK K hHeld3
    refine wpAnyH_done (by kernel_rfl) ?_ _
    clear hHeld4
    have hL : (fun j => if j = a then nbE (E.take k) a ++ [b] else nbE (E.take k) j) = nbH E k 1 := by
      have := nbH_one E k
      rw [← HAB.out, nbH_zero] at this
      exact this
    rw [hL] at hps'
    obtain ⟨A3, hA3⟩ : ∃ A3, A3 = (fun j => if j = a then Value.slice (some ⟨g3, 0, none⟩) (na + 1) cap3 else A j) := ⟨_, rfl⟩
    rw [← hA3] at hps'
    obtain ⟨vb, hvb⟩ : ∃ v, v = A3 b := ⟨_, rfl⟩
    obtain ⟨nb, hnb⟩ : ∃ n, n = (nbH E k 1 b).length := ⟨_, rfl⟩
    have HP3 := Lib.hid hps'
    have HR3 := Lib.hid hex'
    have HK3 := Lib.hid hkw
    have HVB := Lib.hid hvb
    have HNB2 := Lib.hid hnb
    have HNB3 := Lib.hid (show nb ≤ 2 * n + 1 from by
      have := nbH_len E k 1 b
      rw [hnb, HN.out]; exact this)
    have HLB := Lib.hid (show ∀ Y, Below Z3'.heap.size Z3' Y → (Instr.lookup 88 (.map (some nm)) (.int .i64 b) false).run Tryz.prog Y = .ok vb Y from fun Y hY => by
      rw [HVB.out]; exact (HP3.out.more hY).look b HIN.out.2)
    have HOW3 := Lib.hid (show Z3'.ownsRow (nm + 4) 3 1 vb nb (ic (nbH E k 1 b)) from by rw [HVB.out, HNB2.out]; exact HP3.out.nb.fam.1 b)
    have HZ3 := Lib.hid (show nm + 4 ≤ Z3'.heap.size from HP3.out.sz)
    clear hps' hL hA3 hvb hnb hkz hkw hbx hex hex' hst hown hgr hat hltg hbK
    go_upto_region 10 with fail
    have hbK : Below Z3'.heap.size Z3' (Z3'.alloc (.cells #[.int .i64 a] 3)) := (Below.refl _ _).alloc (Nat.le_refl _) _
    have HENB := Lib.hid (show nb + 1 = (nbH E k 1 b).length + 1 from by rw [HNB2.out])
    have HGRB := Lib.hid (show ∀ Y Z : World, Y.grownBy Z vb.ownBlock → Y.grownBy Z (A3 b).ownBlock from fun Y Z h => by rw [← HVB.out]; exact h)
    have HATB := Lib.hid (show ∀ g z : Nat, (vb.ownBlock = some g ∨ g = z) → (A3 b).ownBlock = some g ∨ g = z from fun g z h => by rw [← HVB.out]; exact h)
    refine wp_region_held_drew (S := (fun w' => w'.cell? ⟨nm + 2, 0, none⟩ = some (.map (some nm)) ∧ w'.cell? ⟨eb, 0, none⟩ = some (.int .i64 a) ∧ w'.cell? ⟨eb, 1, none⟩ = some (.int .i64 b))) (by kernel_rfl) ?_ (fun hHeld0 => ?_)
    · ((try dsimp only); first | exact hkz | exact hkw | exact HK3.out | exact ⟨(HP3.out.more hbK).box.cell (i := 0) rfl, (HR3.out.after hbK).cell (i := 0) rfl, (HR3.out.after hbK).cell (i := 1) rfl⟩)
    refine wpAnyH_take (i := 0) (v := ?_) rfl (by kernel_rfl) (by kernel_rfl) (by kernel_rfl) (fun _ _ _ h => h) (Or.inl ⟨by rfl, ?_⟩) (by assumption) ?_
    rotate_left
    · (intro w hSw; (try dsimp only at hSw); go_simp; try with_reducible rfl)
    try simp only [List.getElem_toArray, List.getElem_cons_succ, List.getElem_cons_zero, Act.put, List.setIfInBounds_toArray, List.set_cons_zero, List.set_cons_succ]
    refine wpAnyH_take (i := 1) (v := ?_) rfl (by kernel_rfl) (by kernel_rfl) (by kernel_rfl) (fun _ _ _ h => h) (Or.inl ⟨by rfl, ?_⟩) (by assumption) ?_
    rotate_left
    · (intro w hSw; (try dsimp only at hSw); go_simp; try with_reducible rfl)
    try simp only [List.getElem_toArray, List.getElem_cons_succ, List.getElem_cons_zero, Act.put, List.setIfInBounds_toArray, List.set_cons_zero, List.set_cons_succ]
    refine wpAnyH_take (i := 2) (v := ?_) rfl (by kernel_rfl) (by kernel_rfl) (by kernel_rfl) (fun _ _ _ h => h) (Or.inl ⟨by rfl, ?_⟩) (by assumption) ?_
    rotate_left
    · (intro w hSw; (try dsimp only at hSw); go_simp; try with_reducible rfl)
    try simp only [List.getElem_toArray, List.getElem_cons_succ, List.getElem_cons_zero, Act.put, List.setIfInBounds_toArray, List.set_cons_zero, List.set_cons_succ]
    refine wpAnyH_take (i := 3) (v := ?_) rfl (by kernel_rfl) (by kernel_rfl) (by kernel_rfl) (fun _ _ _ h => h) (Or.inl ⟨by rfl, ?_⟩) (by assumption) ?_
    rotate_left
    · (intro w hSw; (try dsimp only at hSw); go_simp; try with_reducible rfl)
    try simp only [List.getElem_toArray, List.getElem_cons_succ, List.getElem_cons_zero, Act.put, List.setIfInBounds_toArray, List.set_cons_zero, List.set_cons_succ]
    refine wpAnyH_take (i := 4) (v := ?_) rfl (by kernel_rfl) (by kernel_rfl) (by kernel_rfl) (fun _ _ _ h => h) (Or.inl ⟨by rfl, ?_⟩) (by assumption) ?_
    rotate_left
    · (intro w hSw; (try dsimp only at hSw); go_simp; try with_reducible rfl)
    try simp only [List.getElem_toArray, List.getElem_cons_succ, List.getElem_cons_zero, Act.put, List.setIfInBounds_toArray, List.set_cons_zero, List.set_cons_succ]
    refine wpAnyH_take (i := 5) (v := ?_) rfl (by kernel_rfl) (by kernel_rfl) (by kernel_rfl) (fun _ _ _ h => h) (Or.inl ⟨by rfl, ?_⟩) (by assumption) ?_
    rotate_left
    · (intro w hSw; (try dsimp only at hSw); go_simp; try with_reducible rfl)
    try simp only [List.getElem_toArray, List.getElem_cons_succ, List.getElem_cons_zero, Act.put, List.setIfInBounds_toArray, List.set_cons_zero, List.set_cons_succ]
    refine wpAnyH_take (i := 6) (v := ?_) rfl (by kernel_rfl) (by kernel_rfl) (by kernel_rfl) (fun _ _ _ h => h) (Or.inl ⟨by rfl, ?_⟩) (by assumption) ?_
    rotate_left
    · (intro w hSw; (try dsimp only at hSw); go_simp; try with_reducible rfl)
    try simp only [List.getElem_toArray, List.getElem_cons_succ, List.getElem_cons_zero, Act.put, List.setIfInBounds_toArray, List.set_cons_zero, List.set_cons_succ]
    refine wpAnyH_take (i := 7) (v := ?_) rfl (by kernel_rfl) (by kernel_rfl) (by kernel_rfl) (fun _ _ _ h => h) (Or.inl ⟨by rfl, ?_⟩) (by assumption) ?_
    rotate_left
    · (intro w hSw; (try dsimp only at hSw); go_simp; try with_reducible rfl)
    try simp only [List.getElem_toArray, List.getElem_cons_succ, List.getElem_cons_zero, Act.put, List.setIfInBounds_toArray, List.set_cons_zero, List.set_cons_succ]
    refine wpAnyH_take (i := 9) (v := ?_) rfl (by kernel_rfl) (by kernel_rfl) (by kernel_rfl) (fun _ _ _ h => h) (Or.inl ⟨by rfl, ?_⟩) (by assumption) ?_
    rotate_left
    · (intro w hSw; (try dsimp only at hSw); go_simp; try with_reducible rfl)
    try simp only [List.getElem_toArray, List.getElem_cons_succ, List.getElem_cons_zero, Act.put, List.setIfInBounds_toArray, List.set_cons_zero, List.set_cons_succ]
    refine wpAnyH_take (i := 10) (v := ?_) rfl (by kernel_rfl) (by kernel_rfl) (by kernel_rfl) (fun _ _ _ h => h) (Or.inl ⟨by rfl, ?_⟩) (by assumption) ?_
    rotate_left
    · (intro w hSw; (try dsimp only at hSw); go_simp; try with_reducible rfl)
    try simp only [List.getElem_toArray, List.getElem_cons_succ, List.getElem_cons_zero, Act.put, List.setIfInBounds_toArray, List.set_cons_zero, List.set_cons_succ]
    refine wpAnyH_ready (rs := [8, 11]) (by kernel_rfl) (by simp) ?_
    refine AllReadyH.cons rfl (fun K hK => ?_) (AllReadyH.cons rfl (fun K hK => ?_) AllReadyH.nil)
    · skip
      have hlA := HLB.out Z3' (Below.refl _ _)
      have hlB := HLB.out (Z3'.alloc (.cells #[.int .i64 a] 3)) ((Below.refl _ _).alloc (Nat.le_refl _) _)
      have hlC := HLB.out Z3'.drew (Below.refl _ _).drew
      have hlD := HLB.out (Z3'.alloc (.cells #[.int .i64 a] 3)).drew ((Below.refl _ _).alloc (Nat.le_refl _) _).drew
      go_simp
      refine hK.out _ _ ?_ (fun hHeld1 => ?_)
      · ((try dsimp only); first | exact hkz | exact hkw | exact HK3.out | exact ⟨(HP3.out.more hbK).box.cell (i := 0) rfl, (HR3.out.after hbK).cell (i := 0) rfl, (HR3.out.after hbK).cell (i := 1) rfl⟩)
      clear hK K hHeld0
      refine wpAnyH_ready (rs := [11]) (by kernel_rfl) (by simp) ?_
      refine AllReadyH.cons rfl (fun K hK => ?_) AllReadyH.nil
      go_simp
      refine hK.out _ _ ?_ (fun hHeld2 => ?_)
      · ((try dsimp only); first | exact hkz | exact hkw | exact HK3.out | exact ⟨(HP3.out.more hbK).box.cell (i := 0) rfl, (HR3.out.after hbK).cell (i := 0) rfl, (HR3.out.after hbK).cell (i := 1) rfl⟩)
      clear hK K hHeld1
      refine wpAnyH_ready (rs := [12]) (by kernel_rfl) (by simp) ?_
      refine AllReadyH.cons rfl (fun K hK => ?_) AllReadyH.nil
      have hbY : Below Z3'.heap.size Z3' (Z3'.alloc (.cells #[.int .i64 a] 3)) := (Below.refl _ _).alloc (Nat.le_refl _) _
      refine step_append_lies _ (by rfl) _ _ _ (by rfl) (nm + 4) 3 i0 (.int .i64 0) 1 8 (by kernel_rfl) hi0 hz0 hz1 hz2 rfl (by decide) vb nb (ic (nbH E k 1 b)) (by rfl) (owns_below HOW3.out (by repeat (first | exact hbY | with_reducible exact Below.refl _ _ | with_reducible apply bel_drew | with_reducible apply bel_alloc))) ⟨Z3'.heap.size, 0, none⟩ 1 1 [.int .i64 a] (by rfl) rfl (World.news_of_block (heap_alloc_new _ _)) (by intro u hu; simp at hu; subst hu; rfl) (by decide) (by have := HNB3.out; unfold maxLen; omega) (by have := HNB3.out; omega) (Nat.le_trans HZ3.out (by simp)) (Z3'.heap.size + 1) (by simp) ?_
      intro g5 cap5 Z5 hown hgr hat hltg
      obtain ⟨hbx, hex, Z5', hst, hex', hps'⟩ := HP3.out.grow b a HIN.out.2 (by repeat (first | exact hbY | with_reducible exact Below.refl _ _ | with_reducible apply bel_drew | with_reducible apply bel_alloc)) (g := g5) (cap := cap5) (n := nb + 1) HENB.out hown (HGRB.out _ _ hgr) (HATB.out _ _ (by first | exact hat | simpa using hat)) HR3.out HGE.out
      have hkz : Z5.cell? ⟨nm + 2, 0, none⟩ = some (.map (some nm)) ∧ Z5.cell? ⟨eb, 0, none⟩ = some (.int .i64 a) ∧ Z5.cell? ⟨eb, 1, none⟩ = some (.int .i64 b) := ⟨hbx.cell (i := 0) rfl, hex.cell (i := 0) rfl, hex.cell (i := 1) rfl⟩
      have hkw : Z5'.cell? ⟨nm + 2, 0, none⟩ = some (.map (some nm)) ∧ Z5'.cell? ⟨eb, 0, none⟩ = some (.int .i64 a) ∧ Z5'.cell? ⟨eb, 1, none⟩ = some (.int .i64 b) := ⟨hps'.box.cell (i := 0) rfl, hex'.cell (i := 0) rfl, hex'.cell (i := 1) rfl⟩
      refine hK.out _ _ ?_ (fun hHeld3 => ?_)
      · ((try dsimp only); first | exact hkz | exact hkw | exact HK3.out | exact ⟨(HP3.out.more hbK).box.cell (i := 0) rfl, (HR3.out.after hbK).cell (i := 0) rfl, (HR3.out.after hbK).cell (i := 1) rfl⟩)
      clear hK K hHeld2
      refine wpAnyH_ready (rs := [13]) (by kernel_rfl) (by simp) ?_
      refine AllReadyH.cons rfl (fun K hK => ?_) AllReadyH.nil
      go_simp
      refine hK.out _ _ ?_ (fun hHeld4 => ?_)
      · ((try dsimp only); first | exact hkz | exact hkw | exact HK3.out | exact ⟨(HP3.out.more hbK).box.cell (i := 0) rfl, (HR3.out.after hbK).cell (i := 0) rfl, (HR3.out.after hbK).cell (i := 1) rfl⟩)
      clear hK K hHeld3
      refine wpAnyH_done (by kernel_rfl) ?_ _
      clear hHeld4
      have hL : (fun j => if j = b then nbH E k 1 b ++ [a] else nbH E k 1 j) = nbE (E.take (k + 1)) := by
        have := nbH_two (E := E) (k := k) (by rw [← HN.out]; exact hlt) (by rw [← HAB.out]; exact hab2)
        rw [← HAB.out] at this
        exact this
      rw [hL] at hps'
      have HP5 := Lib.hid (hps'.congr (Sn' := fun e => e ∈ E.take (k + 1)) (fun e => by rw [HTK.out]; simp))
      clear hps' hL hkz hkw hbx hex hex' hst hown hgr hat hltg hbK
      go_wp2
      go_roundw
      case rel => exact ⟨k + 1, by omega, by go_num, HRN, _, HP5.out⟩
      case measure => simp [intOf]; omega
    · skip
      go_simp
      refine hK.out _ _ ?_ (fun hHeld5 => ?_)
      · ((try dsimp only); first | exact hkz | exact hkw | exact HK3.out | exact ⟨(HP3.out.more hbK).box.cell (i := 0) rfl, (HR3.out.after hbK).cell (i := 0) rfl, (HR3.out.after hbK).cell (i := 1) rfl⟩)
      clear hK K hHeld0
      refine wpAnyH_ready (rs := [8]) (by kernel_rfl) (by simp) ?_
      refine AllReadyH.cons rfl (fun K hK => ?_) AllReadyH.nil
      have hlA := HLB.out Z3' (Below.refl _ _)
      have hlB := HLB.out (Z3'.alloc (.cells #[.int .i64 a] 3)) ((Below.refl _ _).alloc (Nat.le_refl _) _)
      have hlC := HLB.out Z3'.drew (Below.refl _ _).drew
      have hlD := HLB.out (Z3'.alloc (.cells #[.int .i64 a] 3)).drew ((Below.refl _ _).alloc (Nat.le_refl _) _).drew
      go_simp
      refine hK.out _ _ ?_ (fun hHeld6 => ?_)
      · ((try dsimp only); first | exact hkz | exact hkw | exact HK3.out | exact ⟨(HP3.out.more hbK).box.cell (i := 0) rfl, (HR3.out.after hbK).cell (i := 0) rfl, (HR3.out.after hbK).cell (i := 1) rfl⟩)
      clear hK K hHeld5
      refine wpAnyH_ready (rs := [12]) (by kernel_rfl) (by simp) ?_
      refine AllReadyH.cons rfl (fun K hK => ?_) AllReadyH.nil
      have hbY : Below Z3'.heap.size Z3' (Z3'.alloc (.cells #[.int .i64 a] 3)) := (Below.refl _ _).alloc (Nat.le_refl _) _
      refine step_append_lies _ (by rfl) _ _ _ (by rfl) (nm + 4) 3 i0 (.int .i64 0) 1 8 (by kernel_rfl) hi0 hz0 hz1 hz2 rfl (by decide) vb nb (ic (nbH E k 1 b)) (by rfl) (owns_below HOW3.out (by repeat (first | exact hbY | with_reducible exact Below.refl _ _ | with_reducible apply bel_drew | with_reducible apply bel_alloc))) ⟨Z3'.heap.size, 0, none⟩ 1 1 [.int .i64 a] (by rfl) rfl (World.news_of_block (heap_alloc_new _ _)) (by intro u hu; simp at hu; subst hu; rfl) (by decide) (by have := HNB3.out; unfold maxLen; omega) (by have := HNB3.out; omega) (Nat.le_trans HZ3.out (by simp)) (Z3'.heap.size + 1) (by simp) ?_
      intro g5 cap5 Z5 hown hgr hat hltg
      obtain ⟨hbx, hex, Z5', hst, hex', hps'⟩ := HP3.out.grow b a HIN.out.2 (by repeat (first | exact hbY | with_reducible exact Below.refl _ _ | with_reducible apply bel_drew | with_reducible apply bel_alloc)) (g := g5) (cap := cap5) (n := nb + 1) HENB.out hown (HGRB.out _ _ hgr) (HATB.out _ _ (by first | exact hat | simpa using hat)) HR3.out HGE.out
      have hkz : Z5.cell? ⟨nm + 2, 0, none⟩ = some (.map (some nm)) ∧ Z5.cell? ⟨eb, 0, none⟩ = some (.int .i64 a) ∧ Z5.cell? ⟨eb, 1, none⟩ = some (.int .i64 b) := ⟨hbx.cell (i := 0) rfl, hex.cell (i := 0) rfl, hex.cell (i := 1) rfl⟩
      have hkw : Z5'.cell? ⟨nm + 2, 0, none⟩ = some (.map (some nm)) ∧ Z5'.cell? ⟨eb, 0, none⟩ = some (.int .i64 a) ∧ Z5'.cell? ⟨eb, 1, none⟩ = some (.int .i64 b) := ⟨hps'.box.cell (i := 0) rfl, hex'.cell (i := 0) rfl, hex'.cell (i := 1) rfl⟩
      refine hK.out _ _ ?_ (fun hHeld7 => ?_)
      · ((try dsimp only); first | exact hkz | exact hkw | exact HK3.out | exact ⟨(HP3.out.more hbK).box.cell (i := 0) rfl, (HR3.out.after hbK).cell (i := 0) rfl, (HR3.out.after hbK).cell (i := 1) rfl⟩)
      clear hK K hHeld6
      refine wpAnyH_ready (rs := [13]) (by kernel_rfl) (by simp) ?_
      refine AllReadyH.cons rfl (fun K hK => ?_) AllReadyH.nil
      go_simp
      refine hK.out _ _ ?_ (fun hHeld8 => ?_)
      · ((try dsimp only); first | exact hkz | exact hkw | exact HK3.out | exact ⟨(HP3.out.more hbK).box.cell (i := 0) rfl, (HR3.out.after hbK).cell (i := 0) rfl, (HR3.out.after hbK).cell (i := 1) rfl⟩)
      clear hK K hHeld7
      refine wpAnyH_done (by kernel_rfl) ?_ _
      clear hHeld8
      have hL : (fun j => if j = b then nbH E k 1 b ++ [a] else nbH E k 1 j) = nbE (E.take (k + 1)) := by
        have := nbH_two (E := E) (k := k) (by rw [← HN.out]; exact hlt) (by rw [← HAB.out]; exact hab2)
        rw [← HAB.out] at this
        exact this
      rw [hL] at hps'
      have HP5 := Lib.hid (hps'.congr (Sn' := fun e => e ∈ E.take (k + 1)) (fun e => by rw [HTK.out]; simp))
      clear hps' hL hkz hkw hbx hex hex' hst hown hgr hat hltg hbK
      go_wp2
      go_roundw
      case rel => exact ⟨k + 1, by omega, by go_num, HRN, _, HP5.out⟩
      case measure => simp [intOf]; omega
  · skip
    go_simp
    refine hK.out _ _ ?_ (fun hHeld5 => ?_)
    · ((try dsimp only); first | exact hkz | exact hkw | exact HK2.out | exact ⟨(HP2.out.more hbK).box.cell (i := 0) rfl, (HR2.out.after hbK).cell (i := 0) rfl, (HR2.out.after hbK).cell (i := 1) rfl⟩)
    clear hK K hHeld0
    refine wpAnyH_ready (rs := [8]) (by kernel_rfl) (by simp) ?_
    refine AllReadyH.cons rfl (fun K hK => ?_) AllReadyH.nil
    have hlA := HLA.out X2 (Below.refl _ _)
    have hlB := HLA.out (X2.alloc (.cells #[.int .i64 b] 3)) ((Below.refl _ _).alloc (Nat.le_refl _) _)
    have hlC := HLA.out X2.drew (Below.refl _ _).drew
    have hlD := HLA.out (X2.alloc (.cells #[.int .i64 b] 3)).drew ((Below.refl _ _).alloc (Nat.le_refl _) _).drew
    go_simp
    refine hK.out _ _ ?_ (fun hHeld6 => ?_)
    · ((try dsimp only); first | exact hkz | exact hkw | exact HK2.out | exact ⟨(HP2.out.more hbK).box.cell (i := 0) rfl, (HR2.out.after hbK).cell (i := 0) rfl, (HR2.out.after hbK).cell (i := 1) rfl⟩)
    clear hK K hHeld5
    refine wpAnyH_ready (rs := [12]) (by kernel_rfl) (by simp) ?_
    refine AllReadyH.cons rfl (fun K hK => ?_) AllReadyH.nil
    have hbY : Below X2.heap.size X2 (X2.alloc (.cells #[.int .i64 b] 3)) := (Below.refl _ _).alloc (Nat.le_refl _) _
    refine step_append_lies _ (by rfl) _ _ _ (by rfl) (nm + 4) 3 i0 (.int .i64 0) 1 8 (by kernel_rfl) hi0 hz0 hz1 hz2 rfl (by decide) va na (ic (nbE (E.take k) a)) (by rfl) (owns_below HOW.out (by repeat (first | exact hbY | with_reducible exact Below.refl _ _ | with_reducible apply bel_drew | with_reducible apply bel_alloc))) ⟨X2.heap.size, 0, none⟩ 1 1 [.int .i64 b] (by rfl) rfl (World.news_of_block (heap_alloc_new _ _)) (by intro u hu; simp at hu; subst hu; rfl) (by decide) (by have := HNB.out; unfold maxLen; omega) (by have := HNB.out; omega) (Nat.le_trans HZ2.out (by simp)) (X2.heap.size + 1) (by simp) ?_
    intro g3 cap3 Z3 hown hgr hat hltg
    obtain ⟨hbx, hex, Z3', hst, hex', hps'⟩ := HP2.out.grow a b HIN.out.1 (by repeat (first | exact hbY | with_reducible exact Below.refl _ _ | with_reducible apply bel_drew | with_reducible apply bel_alloc)) (g := g3) (cap := cap3) (n := na + 1) HENA.out hown (HGRA.out _ _ hgr) (HATA.out _ _ (by first | exact hat | simpa using hat)) HR2.out HGE.out
    have hkz : Z3.cell? ⟨nm + 2, 0, none⟩ = some (.map (some nm)) ∧ Z3.cell? ⟨eb, 0, none⟩ = some (.int .i64 a) ∧ Z3.cell? ⟨eb, 1, none⟩ = some (.int .i64 b) := ⟨hbx.cell (i := 0) rfl, hex.cell (i := 0) rfl, hex.cell (i := 1) rfl⟩
    have hkw : Z3'.cell? ⟨nm + 2, 0, none⟩ = some (.map (some nm)) ∧ Z3'.cell? ⟨eb, 0, none⟩ = some (.int .i64 a) ∧ Z3'.cell? ⟨eb, 1, none⟩ = some (.int .i64 b) := ⟨hps'.box.cell (i := 0) rfl, hex'.cell (i := 0) rfl, hex'.cell (i := 1) rfl⟩
    refine hK.out _ _ ?_ (fun hHeld7 => ?_)
    · ((try dsimp only); first | exact hkz | exact hkw | exact HK2.out | exact ⟨(HP2.out.more hbK).box.cell (i := 0) rfl, (HR2.out.after hbK).cell (i := 0) rfl, (HR2.out.after hbK).cell (i := 1) rfl⟩)
    clear hK K hHeld6
    refine wpAnyH_ready (rs := [13]) (by kernel_rfl) (by simp) ?_
    refine AllReadyH.cons rfl (fun K hK => ?_) AllReadyH.nil
    go_simp
    refine hK.out _ _ ?_ (fun hHeld8 => ?_)
    · ((try dsimp only); first | exact hkz | exact hkw | exact HK2.out | exact ⟨(HP2.out.more hbK).box.cell (i := 0) rfl, (HR2.out.after hbK).cell (i := 0) rfl, (HR2.out.after hbK).cell (i := 1) rfl⟩)
    clear hK K hHeld7
    refine wpAnyH_done (by kernel_rfl) ?_ _
    clear hHeld8
    have hL : (fun j => if j = a then nbE (E.take k) a ++ [b] else nbE (E.take k) j) = nbH E k 1 := by
      have := nbH_one E k
      rw [← HAB.out, nbH_zero] at this
      exact this
    rw [hL] at hps'
    obtain ⟨A3, hA3⟩ : ∃ A3, A3 = (fun j => if j = a then Value.slice (some ⟨g3, 0, none⟩) (na + 1) cap3 else A j) := ⟨_, rfl⟩
    rw [← hA3] at hps'
    obtain ⟨vb, hvb⟩ : ∃ v, v = A3 b := ⟨_, rfl⟩
    obtain ⟨nb, hnb⟩ : ∃ n, n = (nbH E k 1 b).length := ⟨_, rfl⟩
    have HP3 := Lib.hid hps'
    have HR3 := Lib.hid hex'
    have HK3 := Lib.hid hkw
    have HVB := Lib.hid hvb
    have HNB2 := Lib.hid hnb
    have HNB3 := Lib.hid (show nb ≤ 2 * n + 1 from by
      have := nbH_len E k 1 b
      rw [hnb, HN.out]; exact this)
    have HLB := Lib.hid (show ∀ Y, Below Z3'.heap.size Z3' Y → (Instr.lookup 88 (.map (some nm)) (.int .i64 b) false).run Tryz.prog Y = .ok vb Y from fun Y hY => by
      rw [HVB.out]; exact (HP3.out.more hY).look b HIN.out.2)
    have HOW3 := Lib.hid (show Z3'.ownsRow (nm + 4) 3 1 vb nb (ic (nbH E k 1 b)) from by rw [HVB.out, HNB2.out]; exact HP3.out.nb.fam.1 b)
    have HZ3 := Lib.hid (show nm + 4 ≤ Z3'.heap.size from HP3.out.sz)
    clear hps' hL hA3 hvb hnb hkz hkw hbx hex hex' hst hown hgr hat hltg hbK
    go_upto_region 10 with fail
    have hbK : Below Z3'.heap.size Z3' (Z3'.alloc (.cells #[.int .i64 a] 3)) := (Below.refl _ _).alloc (Nat.le_refl _) _
    have HENB := Lib.hid (show nb + 1 = (nbH E k 1 b).length + 1 from by rw [HNB2.out])
    have HGRB := Lib.hid (show ∀ Y Z : World, Y.grownBy Z vb.ownBlock → Y.grownBy Z (A3 b).ownBlock from fun Y Z h => by rw [← HVB.out]; exact h)
    have HATB := Lib.hid (show ∀ g z : Nat, (vb.ownBlock = some g ∨ g = z) → (A3 b).ownBlock = some g ∨ g = z from fun g z h => by rw [← HVB.out]; exact h)
    refine wp_region_held_drew (S := (fun w' => w'.cell? ⟨nm + 2, 0, none⟩ = some (.map (some nm)) ∧ w'.cell? ⟨eb, 0, none⟩ = some (.int .i64 a) ∧ w'.cell? ⟨eb, 1, none⟩ = some (.int .i64 b))) (by kernel_rfl) ?_ (fun hHeld0 => ?_)
    · ((try dsimp only); first | exact hkz | exact hkw | exact HK3.out | exact ⟨(HP3.out.more hbK).box.cell (i := 0) rfl, (HR3.out.after hbK).cell (i := 0) rfl, (HR3.out.after hbK).cell (i := 1) rfl⟩)
    refine wpAnyH_take (i := 0) (v := ?_) rfl (by kernel_rfl) (by kernel_rfl) (by kernel_rfl) (fun _ _ _ h => h) (Or.inl ⟨by rfl, ?_⟩) (by assumption) ?_
    rotate_left
    · (intro w hSw; (try dsimp only at hSw); go_simp; try with_reducible rfl)
    try simp only [List.getElem_toArray, List.getElem_cons_succ, List.getElem_cons_zero, Act.put, List.setIfInBounds_toArray, List.set_cons_zero, List.set_cons_succ]
    refine wpAnyH_take (i := 1) (v := ?_) rfl (by kernel_rfl) (by kernel_rfl) (by kernel_rfl) (fun _ _ _ h => h) (Or.inl ⟨by rfl, ?_⟩) (by assumption) ?_
    rotate_left
    · (intro w hSw; (try dsimp only at hSw); go_simp; try with_reducible rfl)
    try simp only [List.getElem_toArray, List.getElem_cons_succ, List.getElem_cons_zero, Act.put, List.setIfInBounds_toArray, List.set_cons_zero, List.set_cons_succ]
    refine wpAnyH_take (i := 2) (v := ?_) rfl (by kernel_rfl) (by kernel_rfl) (by kernel_rfl) (fun _ _ _ h => h) (Or.inl ⟨by rfl, ?_⟩) (by assumption) ?_
    rotate_left
    · (intro w hSw; (try dsimp only at hSw); go_simp; try with_reducible rfl)
    try simp only [List.getElem_toArray, List.getElem_cons_succ, List.getElem_cons_zero, Act.put, List.setIfInBounds_toArray, List.set_cons_zero, List.set_cons_succ]
    refine wpAnyH_take (i := 3) (v := ?_) rfl (by kernel_rfl) (by kernel_rfl) (by kernel_rfl) (fun _ _ _ h => h) (Or.inl ⟨by rfl, ?_⟩) (by assumption) ?_
    rotate_left
    · (intro w hSw; (try dsimp only at hSw); go_simp; try with_reducible rfl)
    try simp only [List.getElem_toArray, List.getElem_cons_succ, List.getElem_cons_zero, Act.put, List.setIfInBounds_toArray, List.set_cons_zero, List.set_cons_succ]
    refine wpAnyH_take (i := 4) (v := ?_) rfl (by kernel_rfl) (by kernel_rfl) (by kernel_rfl) (fun _ _ _ h => h) (Or.inl ⟨by rfl, ?_⟩) (by assumption) ?_
    rotate_left
    · (intro w hSw; (try dsimp only at hSw); go_simp; try with_reducible rfl)
    try simp only [List.getElem_toArray, List.getElem_cons_succ, List.getElem_cons_zero, Act.put, List.setIfInBounds_toArray, List.set_cons_zero, List.set_cons_succ]
    refine wpAnyH_take (i := 5) (v := ?_) rfl (by kernel_rfl) (by kernel_rfl) (by kernel_rfl) (fun _ _ _ h => h) (Or.inl ⟨by rfl, ?_⟩) (by assumption) ?_
    rotate_left
    · (intro w hSw; (try dsimp only at hSw); go_simp; try with_reducible rfl)
    try simp only [List.getElem_toArray, List.getElem_cons_succ, List.getElem_cons_zero, Act.put, List.setIfInBounds_toArray, List.set_cons_zero, List.set_cons_succ]
    refine wpAnyH_take (i := 6) (v := ?_) rfl (by kernel_rfl) (by kernel_rfl) (by kernel_rfl) (fun _ _ _ h => h) (Or.inl ⟨by rfl, ?_⟩) (by assumption) ?_
    rotate_left
    · (intro w hSw; (try dsimp only at hSw); go_simp; try with_reducible rfl)
    try simp only [List.getElem_toArray, List.getElem_cons_succ, List.getElem_cons_zero, Act.put, List.setIfInBounds_toArray, List.set_cons_zero, List.set_cons_succ]
    refine wpAnyH_take (i := 7) (v := ?_) rfl (by kernel_rfl) (by kernel_rfl) (by kernel_rfl) (fun _ _ _ h => h) (Or.inl ⟨by rfl, ?_⟩) (by assumption) ?_
    rotate_left
    · (intro w hSw; (try dsimp only at hSw); go_simp; try with_reducible rfl)
    try simp only [List.getElem_toArray, List.getElem_cons_succ, List.getElem_cons_zero, Act.put, List.setIfInBounds_toArray, List.set_cons_zero, List.set_cons_succ]
    refine wpAnyH_take (i := 9) (v := ?_) rfl (by kernel_rfl) (by kernel_rfl) (by kernel_rfl) (fun _ _ _ h => h) (Or.inl ⟨by rfl, ?_⟩) (by assumption) ?_
    rotate_left
    · (intro w hSw; (try dsimp only at hSw); go_simp; try with_reducible rfl)
    try simp only [List.getElem_toArray, List.getElem_cons_succ, List.getElem_cons_zero, Act.put, List.setIfInBounds_toArray, List.set_cons_zero, List.set_cons_succ]
    refine wpAnyH_take (i := 10) (v := ?_) rfl (by kernel_rfl) (by kernel_rfl) (by kernel_rfl) (fun _ _ _ h => h) (Or.inl ⟨by rfl, ?_⟩) (by assumption) ?_
    rotate_left
    · (intro w hSw; (try dsimp only at hSw); go_simp; try with_reducible rfl)
    try simp only [List.getElem_toArray, List.getElem_cons_succ, List.getElem_cons_zero, Act.put, List.setIfInBounds_toArray, List.set_cons_zero, List.set_cons_succ]
    refine wpAnyH_ready (rs := [8, 11]) (by kernel_rfl) (by simp) ?_
    refine AllReadyH.cons rfl (fun K hK => ?_) (AllReadyH.cons rfl (fun K hK => ?_) AllReadyH.nil)
    · skip
      have hlA := HLB.out Z3' (Below.refl _ _)
      have hlB := HLB.out (Z3'.alloc (.cells #[.int .i64 a] 3)) ((Below.refl _ _).alloc (Nat.le_refl _) _)
      have hlC := HLB.out Z3'.drew (Below.refl _ _).drew
      have hlD := HLB.out (Z3'.alloc (.cells #[.int .i64 a] 3)).drew ((Below.refl _ _).alloc (Nat.le_refl _) _).drew
      go_simp
      refine hK.out _ _ ?_ (fun hHeld1 => ?_)
      · ((try dsimp only); first | exact hkz | exact hkw | exact HK3.out | exact ⟨(HP3.out.more hbK).box.cell (i := 0) rfl, (HR3.out.after hbK).cell (i := 0) rfl, (HR3.out.after hbK).cell (i := 1) rfl⟩)
      clear hK K hHeld0
      refine wpAnyH_ready (rs := [11]) (by kernel_rfl) (by simp) ?_
      refine AllReadyH.cons rfl (fun K hK => ?_) AllReadyH.nil
      go_simp
      refine hK.out _ _ ?_ (fun hHeld2 => ?_)
      · ((try dsimp only); first | exact hkz | exact hkw | exact HK3.out | exact ⟨(HP3.out.more hbK).box.cell (i := 0) rfl, (HR3.out.after hbK).cell (i := 0) rfl, (HR3.out.after hbK).cell (i := 1) rfl⟩)
      clear hK K hHeld1
      refine wpAnyH_ready (rs := [12]) (by kernel_rfl) (by simp) ?_
      refine AllReadyH.cons rfl (fun K hK => ?_) AllReadyH.nil
      have hbY : Below Z3'.heap.size Z3' (Z3'.alloc (.cells #[.int .i64 a] 3)) := (Below.refl _ _).alloc (Nat.le_refl _) _
      refine step_append_lies _ (by rfl) _ _ _ (by rfl) (nm + 4) 3 i0 (.int .i64 0) 1 8 (by kernel_rfl) hi0 hz0 hz1 hz2 rfl (by decide) vb nb (ic (nbH E k 1 b)) (by rfl) (owns_below HOW3.out (by repeat (first | exact hbY | with_reducible exact Below.refl _ _ | with_reducible apply bel_drew | with_reducible apply bel_alloc))) ⟨Z3'.heap.size, 0, none⟩ 1 1 [.int .i64 a] (by rfl) rfl (World.news_of_block (heap_alloc_new _ _)) (by intro u hu; simp at hu; subst hu; rfl) (by decide) (by have := HNB3.out; unfold maxLen; omega) (by have := HNB3.out; omega) (Nat.le_trans HZ3.out (by simp)) (Z3'.heap.size + 1) (by simp) ?_
      intro g5 cap5 Z5 hown hgr hat hltg
      obtain ⟨hbx, hex, Z5', hst, hex', hps'⟩ := HP3.out.grow b a HIN.out.2 (by repeat (first | exact hbY | with_reducible exact Below.refl _ _ | with_reducible apply bel_drew | with_reducible apply bel_alloc)) (g := g5) (cap := cap5) (n := nb + 1) HENB.out hown (HGRB.out _ _ hgr) (HATB.out _ _ (by first | exact hat | simpa using hat)) HR3.out HGE.out
      have hkz : Z5.cell? ⟨nm + 2, 0, none⟩ = some (.map (some nm)) ∧ Z5.cell? ⟨eb, 0, none⟩ = some (.int .i64 a) ∧ Z5.cell? ⟨eb, 1, none⟩ = some (.int .i64 b) := ⟨hbx.cell (i := 0) rfl, hex.cell (i := 0) rfl, hex.cell (i := 1) rfl⟩
      have hkw : Z5'.cell? ⟨nm + 2, 0, none⟩ = some (.map (some nm)) ∧ Z5'.cell? ⟨eb, 0, none⟩ = some (.int .i64 a) ∧ Z5'.cell? ⟨eb, 1, none⟩ = some (.int .i64 b) := ⟨hps'.box.cell (i := 0) rfl, hex'.cell (i := 0) rfl, hex'.cell (i := 1) rfl⟩
      refine hK.out _ _ ?_ (fun hHeld3 => ?_)
      · ((try dsimp only); first | exact hkz | exact hkw | exact HK3.out | exact ⟨(HP3.out.more hbK).box.cell (i := 0) rfl, (HR3.out.after hbK).cell (i := 0) rfl, (HR3.out.after hbK).cell (i := 1) rfl⟩)
      clear hK K hHeld2
      refine wpAnyH_ready (rs := [13]) (by kernel_rfl) (by simp) ?_
      refine AllReadyH.cons rfl (fun K hK => ?_) AllReadyH.nil
      go_simp
      refine hK.out _ _ ?_ (fun hHeld4 => ?_)
      · ((try dsimp only); first | exact hkz | exact hkw | exact HK3.out | exact ⟨(HP3.out.more hbK).box.cell (i := 0) rfl, (HR3.out.after hbK).cell (i := 0) rfl, (HR3.out.after hbK).cell (i := 1) rfl⟩)
      clear hK K hHeld3
      refine wpAnyH_done (by kernel_rfl) ?_ _
      clear hHeld4
      have hL : (fun j => if j = b then nbH E k 1 b ++ [a] else nbH E k 1 j) = nbE (E.take (k + 1)) := by
        have := nbH_two (E := E) (k := k) (by rw [← HN.out]; exact hlt) (by rw [← HAB.out]; exact hab2)
        rw [← HAB.out] at this
        exact this
      rw [hL] at hps'
      have HP5 := Lib.hid (hps'.congr (Sn' := fun e => e ∈ E.take (k + 1)) (fun e => by rw [HTK.out]; simp))
      clear hps' hL hkz hkw hbx hex hex' hst hown hgr hat hltg hbK
      go_wp2
      go_roundw
      case rel => exact ⟨k + 1, by omega, by go_num, HRN, _, HP5.out⟩
      case measure => simp [intOf]; omega
    · skip
      go_simp
      refine hK.out _ _ ?_ (fun hHeld5 => ?_)
      · ((try dsimp only); first | exact hkz | exact hkw | exact HK3.out | exact ⟨(HP3.out.more hbK).box.cell (i := 0) rfl, (HR3.out.after hbK).cell (i := 0) rfl, (HR3.out.after hbK).cell (i := 1) rfl⟩)
      clear hK K hHeld0
      refine wpAnyH_ready (rs := [8]) (by kernel_rfl) (by simp) ?_
      refine AllReadyH.cons rfl (fun K hK => ?_) AllReadyH.nil
      have hlA := HLB.out Z3' (Below.refl _ _)
      have hlB := HLB.out (Z3'.alloc (.cells #[.int .i64 a] 3)) ((Below.refl _ _).alloc (Nat.le_refl _) _)
      have hlC := HLB.out Z3'.drew (Below.refl _ _).drew
      have hlD := HLB.out (Z3'.alloc (.cells #[.int .i64 a] 3)).drew ((Below.refl _ _).alloc (Nat.le_refl _) _).drew
      go_simp
      refine hK.out _ _ ?_ (fun hHeld6 => ?_)
      · ((try dsimp only); first | exact hkz | exact hkw | exact HK3.out | exact ⟨(HP3.out.more hbK).box.cell (i := 0) rfl, (HR3.out.after hbK).cell (i := 0) rfl, (HR3.out.after hbK).cell (i := 1) rfl⟩)
      clear hK K hHeld5
      refine wpAnyH_ready (rs := [12]) (by kernel_rfl) (by simp) ?_
      refine AllReadyH.cons rfl (fun K hK => ?_) AllReadyH.nil
      have hbY : Below Z3'.heap.size Z3' (Z3'.alloc (.cells #[.int .i64 a] 3)) := (Below.refl _ _).alloc (Nat.le_refl _) _
      refine step_append_lies _ (by rfl) _ _ _ (by rfl) (nm + 4) 3 i0 (.int .i64 0) 1 8 (by kernel_rfl) hi0 hz0 hz1 hz2 rfl (by decide) vb nb (ic (nbH E k 1 b)) (by rfl) (owns_below HOW3.out (by repeat (first | exact hbY | with_reducible exact Below.refl _ _ | with_reducible apply bel_drew | with_reducible apply bel_alloc))) ⟨Z3'.heap.size, 0, none⟩ 1 1 [.int .i64 a] (by rfl) rfl (World.news_of_block (heap_alloc_new _ _)) (by intro u hu; simp at hu; subst hu; rfl) (by decide) (by have := HNB3.out; unfold maxLen; omega) (by have := HNB3.out; omega) (Nat.le_trans HZ3.out (by simp)) (Z3'.heap.size + 1) (by simp) ?_
      intro g5 cap5 Z5 hown hgr hat hltg
      obtain ⟨hbx, hex, Z5', hst, hex', hps'⟩ := HP3.out.grow b a HIN.out.2 (by repeat (first | exact hbY | with_reducible exact Below.refl _ _ | with_reducible apply bel_drew | with_reducible apply bel_alloc)) (g := g5) (cap := cap5) (n := nb + 1) HENB.out hown (HGRB.out _ _ hgr) (HATB.out _ _ (by first | exact hat | simpa using hat)) HR3.out HGE.out
      have hkz : Z5.cell? ⟨nm + 2, 0, none⟩ = some (.map (some nm)) ∧ Z5.cell? ⟨eb, 0, none⟩ = some (.int .i64 a) ∧ Z5.cell? ⟨eb, 1, none⟩ = some (.int .i64 b) := ⟨hbx.cell (i := 0) rfl, hex.cell (i := 0) rfl, hex.cell (i := 1) rfl⟩
      have hkw : Z5'.cell? ⟨nm + 2, 0, none⟩ = some (.map (some nm)) ∧ Z5'.cell? ⟨eb, 0, none⟩ = some (.int .i64 a) ∧ Z5'.cell? ⟨eb, 1, none⟩ = some (.int .i64 b) := ⟨hps'.box.cell (i := 0) rfl, hex'.cell (i := 0) rfl, hex'.cell (i := 1) rfl⟩
      refine hK.out _ _ ?_ (fun hHeld7 => ?_)
      · ((try dsimp only); first | exact hkz | exact hkw | exact HK3.out | exact ⟨(HP3.out.more hbK).box.cell (i := 0) rfl, (HR3.out.after hbK).cell (i := 0) rfl, (HR3.out.after hbK).cell (i := 1) rfl⟩)
      clear hK K hHeld6
      refine wpAnyH_ready (rs := [13]) (by kernel_rfl) (by simp) ?_
      refine AllReadyH.cons rfl (fun K hK => ?_) AllReadyH.nil
      go_simp
      refine hK.out _ _ ?_ (fun hHeld8 => ?_)
      · ((try dsimp only); first | exact hkz | exact hkw | exact HK3.out | exact ⟨(HP3.out.more hbK).box.cell (i := 0) rfl, (HR3.out.after hbK).cell (i := 0) rfl, (HR3.out.after hbK).cell (i := 1) rfl⟩)
      clear hK K hHeld7
      refine wpAnyH_done (by kernel_rfl) ?_ _
      clear hHeld8
      have hL : (fun j => if j = b then nbH E k 1 b ++ [a] else nbH E k 1 j) = nbE (E.take (k + 1)) := by
        have := nbH_two (E := E) (k := k) (by rw [← HN.out]; exact hlt) (by rw [← HAB.out]; exact hab2)
        rw [← HAB.out] at this
        exact this
      rw [hL] at hps'
      have HP5 := Lib.hid (hps'.congr (Sn' := fun e => e ∈ E.take (k + 1)) (fun e => by rw [HTK.out]; simp))
      clear hps' hL hkz hkw hbx hex hex' hst hown hgr hat hltg hbK
      go_wp2
      go_roundw
      case rel => exact ⟨k + 1, by omega, by go_num, HRN, _, HP5.out⟩
      case measure => simp [intOf]; omega
end Go.Proofs.YtkjamheoihlekaaGreat

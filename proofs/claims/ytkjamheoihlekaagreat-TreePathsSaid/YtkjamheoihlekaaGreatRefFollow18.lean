/- gypsumref18.follow: contract. -/
import Derived.Test.YtkjamheoihlekaaGreatRefPut18
namespace Go.Proofs.YtkjamheoihlekaaGreat
set_option linter.unusedVariables false
set_option linter.unusedSimpArgs false
open Go.RowKit
/-- The first vertices of a way. -/
def wayL (E : List (Int × Int)) (d : Int × Int) (j : Nat) : List Int := d.1 :: (List.range j).map fun t => (dartE E d t).2
theorem wayL_succ (E : List (Int × Int)) (d : Int × Int) (j : Nat) : wayL E d (j + 1) = wayL E d j ++ [(dartE E d j).2] := by simp [wayL, List.range_succ]
theorem wayL_len (E : List (Int × Int)) (d : Int × Int) (j : Nat) : (wayL E d j).length = j + 1 := by simp [wayL]
theorem flat_sum (a b : Int) : (flatE a b).1 + (flatE a b).2 = a + b := by unfold flatE; simp only; omega
theorem wrap_two (a b v u : Int) (hu : I64 u) (h : a + b - v = u) : IntKind.i64.wrap (IntKind.i64.wrap (a + b) - v) = u := by
  unfold I64 at hu
  simp [IntKind.wrap, IntKind.bits, IntKind.signed]
  omega
theorem wrap_two64 (a b v u : Int) (hu : I64 u) (h : a + b - v = u) : RowKit.wrap64 (RowKit.wrap64 (a + b) - v) = u := by
  unfold I64 at hu
  simp only [RowKit.wrap64]
  omega
set_option maxRecDepth 100000 in
set_option maxHeartbeats 8000000 in
theorem follow18 (E : List (Int × Int)) (ao : Option Addr) (cap : Nat) (i : Nat) (d : Int × Int) (K : Nat) (w : World) (hE : EdgesAt w ao E) (hI : EI64 E) (hR : RightE E) (hl : E.length ≤ 10000) (hi : i < E.length) (hd : flatE d.1 d.2 = E! E i) (ht : Trail E d K) (hs : Stop18 E d K) :
    Calls Tryz.prog 59 #[.slice ao E.length cap, .int .i64 i, .int .i64 d.1] w fun e w' => ∃ a c, e = .returned (.slice a (K + 2) c) ∧ IntsAt w' a (pathL E d K) ∧ NewIf w.heap.size a (K + 2) ∧ Below w.heap.size w w' := by
  obtain ⟨i0, hi0, hz0, hz1, hz2⟩ := info_parts info3
  obtain ⟨n, hn⟩ : ∃ n, n = E.length := ⟨_, rfl⟩
  obtain ⟨fr, hfr⟩ : ∃ f, f = d.1 := ⟨_, rfl⟩
  obtain ⟨bl, hbl⟩ : ∃ b, b = w.heap.size := ⟨_, rfl⟩
  obtain ⟨W0, hW0⟩ : ∃ W0, W0 = w.alloc (.cells #[.int .i64 fr] 3) := ⟨_, rfl⟩
  have hb0 : Below bl w W0 := by rw [hW0, hbl]; exact (Below.refl _ _).alloc (Nat.le_refl _) _
  have HO0 := Lib.hid (show W0.ownsRow bl 3 1 (.slice (some ⟨bl, 0, none⟩) 1 1) 1 (ic (wayL E d 0)) from by
    rw [hW0, hbl]
    have : ic (wayL E d 0) = [.int .i64 fr] := by simp [wayL, ic, hfr]
    rw [this]
    exact RowIs.owns (size := 1) (n := 1) (base := w.heap.size) (RowIs.made w 3 [.int .i64 fr]) (Nat.le_refl _) (by simp) (by unfold maxLen; omega))
  have HB0 := Lib.hid (show Below bl w W0 ∧ bl ≤ W0.heap.size from ⟨hb0, by rw [hW0, hbl]; simp⟩)
  have HE := Lib.hid (show ∀ X, Below bl w X → EdgesAt X ao E from fun X h => hE.mono (B := bl) (by rw [hbl]; exact Nat.le_refl _) h)
  have HI := Lib.hid hI
  have HR := Lib.hid hR
  have HN := Lib.hid hn
  have HD := Lib.hid hd
  have HT := Lib.hid ht
  have HS := Lib.hid hs
  have HFR := Lib.hid hfr
  have HBL := Lib.hid hbl
  have HW0 := Lib.hid hW0
  have HKB := Lib.hid (show K + 1 ≤ 2 * n from by rw [hn]; exact ht.bound hR)
  rw [← hn] at hl hi ⊢
  rw [← hfr]
  clear hE hI hR hn hd ht hs hfr hbl hW0 hb0
  go_enter Tryz.func59, Tryz.ntmps59
  go_upto_region 2 with fail
  simp only [← HBL.out]
  rw [← HW0.out]
  go_wp2
  go_loopw [1, 7, 8] (fun iv' ov vv ws => ∃ (j i' : Nat), j ≤ K ∧ i' < n ∧ iv' = .int .i64 i' ∧ vv = .int .i64 (dartE E d j).1 ∧ Hid (flatE (dartE E d j).1 (dartE E d j).2 = E! E i') ∧ ws.ownsRow bl 3 1 ov (j + 1) (ic (wayL E d j)) ∧ Below bl w ws ∧ bl ≤ ws.heap.size) (fun _ ov _ _ => K + 3 - lenV ov)
  case atStart => exact ⟨0, i, by omega, hi, rfl, by rw [HFR.out]; rfl, HD, HO0.out, HB0.out.1, HB0.out.2⟩
  case round =>
  clear HO0 HB0
  obtain ⟨j, i', hj, hi', rfl, rfl, HF, hown, hb, hsz⟩ := hrel
  obtain ⟨X, rfl⟩ : ∃ X : World, X = wr := ⟨_, rfl⟩
  obtain ⟨og, oc, rfl, -⟩ := owns_block hown (by omega)
  have HOW := Lib.hid hown
  have HB := Lib.hid hb
  have hil : i' < E.length := by rw [← HN.out]; exact hi'
  obtain ⟨eb, eoff, rfl, -, hec⟩ := HE.out X hb (fun e => by rw [e] at hil; simp at hil)
  obtain ⟨k1, k2⟩ := hec i' hil
  have hm64 := HI.out _ (E!_mem hil)
  obtain ⟨⟨a, b⟩, hab⟩ : ∃ e, e = E! E i' := ⟨_, rfl⟩
  rw [← hab] at k1 k2 hm64
  obtain ⟨v, hv⟩ : ∃ v, v = (dartE E d j).1 := ⟨_, rfl⟩
  obtain ⟨u, hu⟩ : ∃ v, v = (dartE E d j).2 := ⟨_, rfl⟩
  have hflat := HF.out
  rw [← hv, ← hu, ← hab] at hflat
  have hsum : a + b - v = u := by
    have := flat_sum v u
    rw [hflat] at this
    simp only at this
    omega
  have hu64 : I64 u := by
    rcases (show u = (flatE v u).1 ∨ u = (flatE v u).2 from by unfold flatE; simp only; omega) with q | q
    · rw [q, hflat]; exact hm64.1
    · rw [q, hflat]; exact hm64.2
  have hw := wrap_two a b v u hu64 hsum
  have hw2 : wrap64 (wrap64 (a + b) - v) = u := wrap_two64 a b v u hu64 hsum
  have bi : (0 : Int) ≤ (i' : Int) ∧ (i' : Int) < (n : Int) := by omega
  have HAB := Lib.hid hab
  have HV := Lib.hid hv
  have HU := Lib.hid hu
  have HFL := Lib.hid hflat
  have HQN := Lib.hid (show ∀ q, (X.drewN q).ownsRow bl 3 1 (.slice (some ⟨og, 0, none⟩) (j + 1) oc) (j + 1) (ic (wayL E d j)) ∧ Below bl w (X.drewN q) ∧ bl ≤ (X.drewN q).heap.size from fun q => ⟨hown, below_drewN hb q, hsz⟩)
  rw [← hv]
  clear hown hb hsz hil hec hm64 hab hv hu hflat hsum hu64 HOW HB HF
  go_wp2
  go_quiet (fail)
  rename_i nq
  obtain ⟨X1, hX1⟩ : ∃ V, V = X.drewN nq := ⟨_, rfl⟩
  have HQ := HQN.out nq
  rw [← hX1] at HQ ⊢
  have HX := Lib.hid HQ
  have HAL := Lib.hid (HQ.1.alloc (.cells #[.int .i64 u] 3))
  have HQ1 := Lib.hid (show j + 1 + 1 ≤ maxLen by have := HKB.out; unfold maxLen; omega)
  have HQ2 := Lib.hid (show (j + 1 + 1) * 8 ≤ 140737488355328 by have := HKB.out; omega)
  have HQ3 := Lib.hid (show bl ≤ (X1.alloc (.cells #[.int .i64 u] 3)).heap.size by have := HQ.2.2; simp; omega)
  clear HQ hX1 HQN k1 k2
  go_wp2_with (at_builtin; refine wpList_append_lies _ rfl _ _ 28 rfl bl 3 i0 (.int .i64 0) 1 8 (by kernel_rfl) hi0 hz0 hz1 hz2 rfl (by decide) _ _ _ rfl HAL.out ⟨X1.heap.size, 0, none⟩ 1 1 [.int .i64 u] rfl rfl (World.news_of_block (heap_alloc_new X1 _)) (by intro u hu; simp at hu; subst hu; rfl) (by decide) HQ1.out HQ2.out HQ3.out _ rfl ?_)
  intro g2 cap2 X2 hown2 hgr2 hat2 hlt2
  have HN2 := Lib.hid (show X2.ownsRow bl 3 1 (.slice (some ⟨g2, 0, none⟩) (j + 1 + 1) cap2) (j + 1 + 1) (ic (wayL E d (j + 1))) from by rw [wayL_succ, ic_snoc, ← HU.out]; exact hown2)
  have HB2 := Lib.hid (show Below bl w X2 ∧ bl ≤ X2.heap.size from ⟨(HX.out.2.1.alloc HX.out.2.2 _).grown hgr2 (by have := HX.out.2.2; first | omega | (simp; omega)) (fun q hq => (HAL.out.lt q hq).1), by have := hgr2.size; have := HX.out.2.2; first | omega | (simp at *; omega)⟩)
  have HDG := Lib.hid (show Calls Tryz.prog 22 #[.slice (some ⟨eb, eoff, none⟩) n cap, .int .i64 u] X2 fun e w' => e = .returned (.int .i64 (degE E u : Nat)) ∧ X2 = w' from by
    rw [HN.out]
    exact degree18 E _ cap u X2 (HE.out X2 HB2.out.1) (by have := HN.out; omega))
  obtain ⟨dg, hdg⟩ : ∃ x, x = degE E u := ⟨_, rfl⟩
  rw [← hdg] at HDG
  have HDGE := Lib.hid hdg
  have HSTOP := Lib.hid (show (u = fr ∨ dg ≠ 2) ↔ j = K from by
    rw [hdg, HU.out, HFR.out]
    constructor
    · intro h
      apply Classical.byContradiction
      intro hne
      obtain ⟨h1, h2⟩ := HT.out.thru j (by omega)
      rcases h with h | h
      · exact h2 h
      · exact h h1
    · rintro rfl
      exact HS.out)
  clear hown2 hgr2 hat2 hlt2 HAL HX hdg hw
  have hpl : j = K → IntsAt X2 (some ⟨g2, 0, none⟩) (pathL E d K) := fun e => by
    subst e
    obtain ⟨a, c, q, hI⟩ := owns_ic HN2.out (by rw [wayL_len])
    cases q
    exact hI
  have HPL := Lib.hid hpl
  clear hpl
  go_wp2_with fail
  refine HDG.out.mono ?_
  rintro e X3 ⟨rfl, rfl⟩
  by_cases hst : j = K
  case pos =>
    have HFIN := Lib.hid (show IntsAt X2 (some ⟨g2, 0, none⟩) (pathL E d K) ∧ NewIf w.heap.size (some ⟨g2, 0, none⟩) (K + 2) ∧ Below w.heap.size w X2 from ⟨HPL.out hst, by have := owns_new HN2.out; rw [HBL.out] at this; rw [← hst]; exact this, by rw [← HBL.out]; exact HB2.out.1⟩)
    have hor := HSTOP.out.2 hst
    subst hst
    by_cases h2 : dg = 2
    · have g1 : ((dg : Int) != 2) = false := by rw [h2]; rfl
      have g2e : (u == fr) = true := by
        rcases hor with q | q
        · simpa using q
        · exact absurd h2 q
      clear hor h2
      go_wp2
      exact bodyPost_ret (v := .slice (some ⟨g2, 0, none⟩) (j + 2) cap2) (by simp [results, Tryz.results59, go_sem]) rfl ⟨some ⟨g2, 0, none⟩, cap2, rfl, HFIN.out.1, HFIN.out.2.1, HFIN.out.2.2⟩
    · have g1 : ((dg : Int) != 2) = true := by simp; omega
      clear hor h2
      go_wp2
      exact bodyPost_ret (v := .slice (some ⟨g2, 0, none⟩) (j + 2) cap2) (by simp [results, Tryz.results59, go_sem]) rfl ⟨some ⟨g2, 0, none⟩, cap2, rfl, HFIN.out.1, HFIN.out.2.1, HFIN.out.2.2⟩
  case neg =>
  have hno : ¬ (u = fr ∨ dg ≠ 2) := fun h => hst (HSTOP.out.1 h)
  have h2 : dg = 2 := by
    apply Classical.byContradiction
    intro q
    exact hno (.inr q)
  have g1 : ((dg : Int) != 2) = false := by rw [h2]; rfl
  have g2' : (u == fr) = false := by
    have : ¬ u = fr := fun q => hno (.inl q)
    simpa using this
  have HDT := Lib.hid (show IsD E (dartE E d j) ∧ degE E (dartE E d j).2 = 2 from ⟨HT.out.isDj HR.out j hj, by rw [← HU.out, ← HDGE.out]; exact h2⟩)
  have HEX := Lib.hid (next_is HR.out HDT.out.1 HDT.out.2)
  have HNE := Lib.hid (fun (e : Int × Int) (he : e ∈ E) (hv : e.1 = u ∨ e.2 = u) (hne : e ≠ (a, b)) => next_edge HR.out HDT.out.1 HDT.out.2 he (by rw [← HU.out]; exact hv) (by rw [← HV.out, ← HU.out, HFL.out]; exact hne))
  have HJK := Lib.hid (show j + 1 ≤ K by omega)
  clear hno h2 hst HPL
  go_wp2
  go_loopw [1, 9] (fun iv2 kv ws => ∃ k : Nat, k ≤ n ∧ iv2 = .int .i64 i' ∧ kv = .int .i64 k ∧ Hid (∀ k', k' < k → k' ≠ i' → (E! E k').1 ≠ u ∧ (E! E k').2 ≠ u) ∧ Hid (X2 = ws)) (fun _ kv _ => n - (intOf kv).toNat)
  case atStart => exact ⟨0, by omega, rfl, rfl, Lib.hid fun k' h => by omega, Lib.hid rfl⟩
  case round =>
  obtain ⟨k, hk, rfl, rfl, HNO, HW⟩ := hrel
  obtain rfl : X2 = wr := HW.out
  have hkn : k < n := by
    apply Classical.byContradiction
    intro hge
    obtain ⟨q1, q2, q3⟩ := HEX.out
    obtain ⟨k', hk', he⟩ := List.mem_iff_getElem.1 q1
    have e2 : E! E k' = E[k'] := by simp [E!, hk']
    have hne : k' ≠ i' := by
      rintro rfl
      rw [he] at e2
      rw [← e2, ← HAB.out, ← HFL.out, HV.out, HU.out] at q2
      exact q2 rfl
    have hkl : k' < n := by rw [HN.out]; exact hk'
    obtain ⟨r1, r2⟩ := HNO.out k' (by omega) hne
    rw [e2, he] at r1 r2
    rw [← HU.out] at q3
    rcases q3 with q | q
    · exact r1 q
    · exact r2 q
  have hkl : k < E.length := by rw [← HN.out]; exact hkn
  obtain ⟨eb', eoff', ee, -, hec⟩ := HE.out X2 HB2.out.1 (fun e => by rw [e] at hkl; simp at hkl)
  cases ee
  obtain ⟨k1, k2⟩ := hec k hkl
  have hmem := E!_mem hkl
  obtain ⟨⟨x, y⟩, hxy⟩ : ∃ e, e = E! E k := ⟨_, rfl⟩
  rw [← hxy] at k1 k2 hmem
  have bk : (0 : Int) ≤ (k : Int) ∧ (k : Int) < (n : Int) := by omega
  have hxn : k ≠ i' → (x, y) ≠ (a, b) := fun hne e => by
    have hil : i' < E.length := by rw [← HN.out]; exact hi'
    rw [hxy, HAB.out] at e
    have h1 : E! E k = E[k] := by simp [E!, hkl]
    have h2 : E! E i' = E[i'] := by simp [E!, hil]
    rw [h1, h2] at e
    have hnd := List.pairwise_iff_getElem.1 (List.nodup_iff_pairwise_ne.1 HR.out.nd)
    rcases Nat.lt_trichotomy k i' with q | q | q
    · exact hnd k i' hkl hil q e
    · exact hne q
    · exact hnd i' k hil hkl q e.symm
  have HXN := Lib.hid hxn
  have HXY := Lib.hid hxy
  have HMEM := Lib.hid hmem
  clear hkl hec hmem hxy hxn
  have HSKIP := Lib.hid (show (k = i' ∨ (x ≠ u ∧ y ≠ u)) → ∀ k', k' < k + 1 → k' ≠ i' → (E! E k').1 ≠ u ∧ (E! E k').2 ≠ u from fun h k' hk' hne => by
    by_cases q : k' = k
    · subst q
      rcases h with h | h
      · exact absurd h hne
      · rw [← HXY.out]; exact h
    · exact HNO.out k' (by omega) hne)
  have HTAKE := Lib.hid (show k ≠ i' → (x = u ∨ y = u) → flatE (dartE E d (j + 1)).1 (dartE E d (j + 1)).2 = E! E k ∧ u = (dartE E d (j + 1)).1 from fun hne hv => by
    have := HNE.out (x, y) HMEM.out hv (HXN.out hne)
    refine ⟨by rw [← HXY.out, this]; rfl, by rw [dart_fst, HU.out]⟩)
  by_cases h1 : k = i'
  case pos =>
    have g3 : ((k : Int) != (i' : Int)) = false := by rw [h1]; simp
    have HNX := Lib.hid (HSKIP.out (.inl h1))
    clear h1
    go_wp2
    go_roundw
    case rel => exact ⟨k + 1, by omega, rfl, by go_num, HNX, by first | exact Lib.hid rfl | trivial⟩
    case measure => simp [intOf]; omega
  case neg =>
  have g3 : ((k : Int) != (i' : Int)) = true := by simp; omega
  by_cases hx : x = u
  case pos =>
    have g4 : (x == u) = true := by simpa using hx
    obtain ⟨t1, t2⟩ := HTAKE.out h1 (.inl hx)
    have HT1 := Lib.hid t1
    have HT2 := Lib.hid t2
    clear hx t1 t2 h1
    go_wp2
    go_roundw
    case rel => exact ⟨j + 1, k, HJK.out, hkn, rfl, by rw [HT2.out], HT1, HN2.out, HB2.out.1, HB2.out.2⟩
    case measure => simp [lenV]; have := HJK.out; omega
  case neg =>
  have g4 : (x == u) = false := by simpa using hx
  by_cases hy : y = u
  case pos =>
    have g5 : (y == u) = true := by simpa using hy
    obtain ⟨t1, t2⟩ := HTAKE.out h1 (.inr hy)
    have HT1 := Lib.hid t1
    have HT2 := Lib.hid t2
    clear hx hy t1 t2 h1
    go_wp2
    go_roundw
    case rel => exact ⟨j + 1, k, HJK.out, hkn, rfl, by rw [HT2.out], HT1, HN2.out, HB2.out.1, HB2.out.2⟩
    case measure => simp [lenV]; have := HJK.out; omega
  case neg =>
    have g5 : (y == u) = false := by simpa using hy
    have HNX := Lib.hid (HSKIP.out (.inr ⟨hx, hy⟩))
    clear hx hy h1
    go_wp2
    go_roundw
    case rel => exact ⟨k + 1, by omega, rfl, by go_num, HNX, by first | exact Lib.hid rfl | trivial⟩
    case measure => simp [intOf]; omega
end Go.Proofs.YtkjamheoihlekaaGreat

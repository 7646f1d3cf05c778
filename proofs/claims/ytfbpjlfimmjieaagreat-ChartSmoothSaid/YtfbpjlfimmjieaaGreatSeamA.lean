/- seam.right, seam.parts, seam.Edges: the seams of a surface's values. seam.Edges: the seams of a surface's values, sorted. Which edges are seams: none on the border, each between two charts. Plain. -/
import Derived.Test.YtfbpjlfimmjieaaGreatGroups
import Derived.Test.YtfbpjlfimmjieaaGreatSortEdges
import Derived.Test.YtfbpjlfimmjieaaGreatQuad32
import Derived.Test.YtfbpjlfimmjieaaGreatChartPick
namespace Go.Proofs.YtfbpjlfimmjieaaGreat
set_option linter.unusedVariables false
set_option linter.unusedSimpArgs false
open Go.RowKit
/-- Do values part at the edge that a corner faces? -/
def partsB (T : List Tr) (K : List Int) (c : Nat) : Bool := decide (0 ≤ opp T (c : Int)) && (I! K (nxn c) != I! K (pvn (opp T (c : Int)).toNat) || I! K (pvn c) != I! K (nxn (opp T (c : Int)).toNat))
set_option maxRecDepth 100000 in
set_option maxHeartbeats 2000000 in
theorem parts_any (c p : Nat) (N : Int) (T : List Tr) (ko : Option Addr) (kc : Nat) (K : List Int) (X : World) (h : Tab X p N T) (hs : Surf N T) (hK : IntsAt X ko K) (hl : K.length = 3 * T.length) (hc : c < 3 * T.length) :
    Calls Tryz.prog 68 #[.pointer (some ⟨p, 0, none⟩), .slice ko K.length kc, .int .i64 (c : Int)] X fun e w' => e = .returned (.bool (partsB T K c)) ∧ Below X.heap.size X w' := by
  obtain ⟨kb, koff, rfl, hkb, hkc⟩ := hK (by intro e; rw [e] at hl; simp at hl; omega)
  have ht1 := hs.t1
  have HOP := Lib.hid (opp_any (c : Int) _ _ _ _ h (by omega) (by omega))
  have HT := Lib.hid h
  have HS := Lib.hid hs
  have HKC := Lib.hid (show ∀ i, i < K.length → X.cell? ⟨kb, koff + i, none⟩ = some (.int .i64 (I! K i)) from hkc)
  have HL := Lib.hid hl
  obtain ⟨len, hlen⟩ : ∃ n, n = K.length := ⟨_, rfl⟩
  have HLEN := Lib.hid hlen
  have hlen3 : len = 3 * T.length := by rw [hlen]; exact hl
  have hcl : c < len := by omega
  have hl3 : len ≤ 30000 := by omega
  have HC := Lib.hid hc
  rw [← hlen]
  obtain ⟨A, hA⟩ : ∃ A, A = opp T (c : Int) := ⟨_, rfl⟩
  rw [← hA] at HOP
  have HA := Lib.hid hA
  obtain ⟨ob, hob⟩ : ∃ ob, ob = partsB T K c := ⟨_, rfl⟩
  rw [← hob]
  have HQ := Lib.hid hob
  have hlp : decide ((len : Int) > 0) = true := by simp; omega
  have hlp2 : decide (0 < len) = true := by simp; omega
  clear hob h hs hkc hl hlen hlen3 hc hA ht1
  go_enter Tryz.func68, Tryz.ntmps68
  go_wp2_with fail
  refine HOP.out.mono ?_
  rintro e w1 ⟨rfl, hb1⟩
  have HB1 := Lib.hid hb1
  clear hb1
  by_cases h0 : A < 0
  case pos =>
    have d0 : decide (A ≥ 0) = false := by simp; omega
    have d1 : decide (0 ≤ A) = false := by simp; omega
    have HO := Lib.hid (show ob = false from by rw [HQ.out]; unfold partsB; rw [← HA.out]; simp; omega)
    clear h0
    go_upto_region 2 with fail
    go_quiet (fail)
    rename_i nq
    have HB2 := Lib.hid (show Below X.heap.size X (w1.drewN nq) from HB1.out.trans ⟨rfl, rfl, rfl, Nat.le_refl _, fun _ _ => rfl⟩)
    go_wp2
    exact bodyPost_ret (v := .bool false) (by simp [results, Tryz.results68, go_sem]) rfl ⟨by rw [HO.out], HB2.out⟩
  case neg =>
  obtain ⟨o, ho, hol, -, -, -⟩ := HS.out.opp_opp HC.out (by rw [← HA.out]; omega)
  have hAo : A = (o : Int) := by rw [HA.out]; exact ho
  subst hAo
  have d0 : decide ((o : Int) ≥ 0) = true := by simp
  have d1 : decide ((0 : Int) ≤ (o : Int)) = true := by simp
  have HNC := Lib.hid (show ∀ q, Calls Tryz.prog 49 #[.pointer (some ⟨p, 0, none⟩), .int .i64 (c : Int)] (w1.drewN q) fun e w' => e = .returned (.int .i64 (nxn c : Int)) ∧ ∃ r, w' = w1.drewN r from fun q => (nextN ((HT.out.mono (Nat.le_refl _) HB1.out).mono (Nat.le_refl _) (show Below w1.heap.size w1 (w1.drewN q) from ⟨rfl, rfl, rfl, Nat.le_refl _, fun _ _ => rfl⟩)) c HC.out).mono fun e w' ⟨h1, h2⟩ => ⟨h1, q, h2.symm⟩)
  have HPC := Lib.hid (show ∀ q, Calls Tryz.prog 50 #[.pointer (some ⟨p, 0, none⟩), .int .i64 (c : Int)] (w1.drewN q) fun e w' => e = .returned (.int .i64 (pvn c : Int)) ∧ ∃ r, w' = w1.drewN r from fun q => (prevN ((HT.out.mono (Nat.le_refl _) HB1.out).mono (Nat.le_refl _) (show Below w1.heap.size w1 (w1.drewN q) from ⟨rfl, rfl, rfl, Nat.le_refl _, fun _ _ => rfl⟩)) c HC.out).mono fun e w' ⟨h1, h2⟩ => ⟨h1, q, h2.symm⟩)
  have HNO := Lib.hid (show ∀ q, Calls Tryz.prog 49 #[.pointer (some ⟨p, 0, none⟩), .int .i64 (o : Int)] (w1.drewN q) fun e w' => e = .returned (.int .i64 (nxn o : Int)) ∧ ∃ r, w' = w1.drewN r from fun q => (nextN ((HT.out.mono (Nat.le_refl _) HB1.out).mono (Nat.le_refl _) (show Below w1.heap.size w1 (w1.drewN q) from ⟨rfl, rfl, rfl, Nat.le_refl _, fun _ _ => rfl⟩)) o hol).mono fun e w' ⟨h1, h2⟩ => ⟨h1, q, h2.symm⟩)
  have HPO := Lib.hid (show ∀ q, Calls Tryz.prog 50 #[.pointer (some ⟨p, 0, none⟩), .int .i64 (o : Int)] (w1.drewN q) fun e w' => e = .returned (.int .i64 (pvn o : Int)) ∧ ∃ r, w' = w1.drewN r from fun q => (prevN ((HT.out.mono (Nat.le_refl _) HB1.out).mono (Nat.le_refl _) (show Below w1.heap.size w1 (w1.drewN q) from ⟨rfl, rfl, rfl, Nat.le_refl _, fun _ _ => rfl⟩)) o hol).mono fun e w' ⟨h1, h2⟩ => ⟨h1, q, h2.symm⟩)
  have hnc := nxn_lt HC.out
  have hpc := pvn_lt HC.out
  have hno := nxn_lt hol
  have hpo := pvn_lt hol
  have y1 := HKC.out (nxn c) (by rw [HL.out]; exact hnc)
  have y2 := HKC.out (pvn o) (by rw [HL.out]; exact hpo)
  have y3 := HKC.out (pvn c) (by rw [HL.out]; exact hpc)
  have y4 := HKC.out (nxn o) (by rw [HL.out]; exact hno)
  have hlT : 3 * T.length = len := by rw [HLEN.out, HL.out]
  have HOB := Lib.hid (show ob = (I! K (nxn c) != I! K (pvn o) || I! K (pvn c) != I! K (nxn o)) from by
    rw [HQ.out]
    unfold partsB
    rw [ho, Int.toNat_natCast]
    simp)
  rw [hlT] at hnc hpc hno hpo
  generalize nxn c = nc at HNC hnc y1 HOB
  generalize pvn c = pc at HPC hpc y3 HOB
  generalize nxn o = no at HNO hno y4 HOB
  generalize pvn o = po at HPO hpo y2 HOB
  generalize I! K nc = a1 at y1 HOB
  generalize I! K po = b1 at y2 HOB
  generalize I! K pc = a2 at y3 HOB
  generalize I! K no = b2 at y4 HOB
  have y1 := (HB1.out.cell (p := ⟨kb, koff + nc, none⟩) hkb).trans y1
  have y2 := (HB1.out.cell (p := ⟨kb, koff + po, none⟩) hkb).trans y2
  have y3 := (HB1.out.cell (p := ⟨kb, koff + pc, none⟩) hkb).trans y3
  have y4 := (HB1.out.cell (p := ⟨kb, koff + no, none⟩) hkb).trans y4
  have i1 : (0 : Int) ≤ (nc : Int) ∧ (nc : Int) < (len : Int) := by omega
  have i2 : (0 : Int) ≤ (po : Int) ∧ (po : Int) < (len : Int) := by omega
  have i3 : (0 : Int) ≤ (pc : Int) ∧ (pc : Int) < (len : Int) := by omega
  have i4 : (0 : Int) ≤ (no : Int) ∧ (no : Int) < (len : Int) := by omega
  have HBX := Lib.hid (show ∀ q, Below X.heap.size X (w1.drewN q) from fun q => HB1.out.trans ⟨rfl, rfl, rfl, Nat.le_refl _, fun _ _ => rfl⟩)
  clear hlT h0 ho hol
  obtain ⟨g1, hg1⟩ : ∃ g, (a1 != b1) = g := ⟨_, rfl⟩
  obtain ⟨g2, hg2⟩ : ∃ g, (a2 != b2) = g := ⟨_, rfl⟩
  have HO := Lib.hid (show ob = (g1 || g2) from by rw [HOB.out, hg1, hg2])
  clear HOB
  cases g1
  all_goals cases g2
  all_goals
    go_upto_region 2 with fail
    go_quiet ((first | (go_at_call 49; first | with_reducible exact HNC.out _ | with_reducible exact HNO.out _) | (go_at_call 50; first | with_reducible exact HPC.out _ | with_reducible exact HPO.out _)))
    all_goals
      go_wp2
      first
        | exact bodyPost_ret (v := .bool false) (by simp [results, Tryz.results68, go_sem]) rfl ⟨by rw [HO.out]; rfl, HBX.out _⟩
        | exact bodyPost_ret (v := .bool true) (by simp [results, Tryz.results68, go_sem]) rfl ⟨by rw [HO.out]; rfl, HBX.out _⟩
def badKey (b : Int) : Bool := decide (b < 0) || decide (65535 < b)
theorem keys_any {K : List Int} : K.any badKey = false ↔ Told K := by
  unfold Told
  rw [List.any_eq_false]
  constructor
  · intro h i hi
    have hm : I! K i ∈ K := by unfold I!; rw [List.getD_eq_getElem?_getD, List.getElem?_eq_getElem hi]; exact List.getElem_mem hi
    have := h _ hm
    simp [badKey] at this
    omega
  · intro h b hb
    obtain ⟨i, hi, rfl⟩ := List.mem_iff_getElem.1 hb
    have := h i hi
    unfold I! at this
    rw [List.getD_eq_getElem?_getD, List.getElem?_eq_getElem hi] at this
    simp at this
    simp [badKey]
    omega
theorem badkey_any (b : Int) (W : World) : Calls Tryz.prog 93 #[.int .i64 b] W fun e w' => e = .returned (.bool (badKey b)) ∧ ∃ q, w' = W.drewN q := by
  obtain ⟨r, hr⟩ : ∃ r, r = badKey b := ⟨_, rfl⟩
  rw [← hr]
  unfold badKey at hr
  cases h1 : decide (b < 0) <;> cases h2 : decide (65535 < b) <;> simp only [h1, h2, Bool.or_false, Bool.or_true] at hr <;> subst hr
  all_goals
    have h3 : decide (b > 65535) = _ := h2
    go_enter Tryz.func93, Tryz.ntmps93
    go_wp2
    go_ret
    exact ⟨rfl, 0, rfl⟩
theorem contains_key (bo : Option Addr) (cap : Nat) (bays : List Int) (w : World) (hB : IntsAt w bo bays) (hl : bays.length ≤ 100000) :
    Calls Tryz.prog 92 #[.slice bo bays.length cap, .func (.func 93) #[] #[]] w fun e w' => e = .returned (.bool (bays.any badKey)) ∧ Below w.heap.size w w' := by
  by_cases h0 : bays = []
  · subst h0
    exact (AnyE.slices_ContainsFunc_empty Tryz.laysContainsF bo cap _ w).mono fun e w' ⟨h1, h2⟩ => ⟨h1, by rw [h2]; exact Below.refl _ _⟩
  · obtain ⟨b, off, rfl, hlt, hc⟩ := hB h0
    have h := AnyE.slices_ContainsFunc Tryz.laysContainsF (Value.int .i64) badKey 93 #[] (enters_of Tryz.func93 (by kernel_rfl) rfl) b off bays.length cap bays w (fun W x _ => badkey_any x W) (Nat.le_refl _) (by omega) (fun j hj => by
      rw [hc j hj]
      unfold I!
      simp [List.getD_eq_getElem?_getD, hj])
    change Calls Tryz.prog 92 _ _ _ at h
    refine h.mono fun e w' ⟨h1, q, h2⟩ => ⟨by rw [h1, List.take_length], ?_⟩
    rw [h2]
    exact ⟨rfl, rfl, rfl, Nat.le_refl _, fun _ _ => rfl⟩
open Classical in
set_option maxRecDepth 100000 in
set_option maxHeartbeats 1000000 in
theorem sright_any (p : Nat) (N : Int) (T : List Tr) (ko : Option Addr) (kc : Nat) (K : List Int) (X : World) (h : Tab X p N T) (hK : IntsAt X ko K) (hl : K.length = 3 * T.length) :
    Calls Tryz.prog 67 #[.pointer (some ⟨p, 0, none⟩), .slice ko K.length kc] X fun e w' => ∃ r : Int, e = .returned (.int .i64 r) ∧ Hid ((r = 0 ∧ Told K) ∨ (r = 2 ∧ ¬ Told K)) ∧ Below X.heap.size X w' := by
  have hT10 := h.len
  have HT := Lib.hid (triangles_any _ _ _ _ h.s)
  have HC := Lib.hid (fun (Y : World) (h : IntsAt Y ko K) => contains_key ko kc K Y h (by omega))
  have HK := Lib.hid hK
  have HE := Lib.hid (show K.length = 0 → Told K from fun h i hi => by omega)
  obtain ⟨len, hlen⟩ : ∃ l, l = T.length := ⟨_, rfl⟩
  obtain ⟨kl, hkle⟩ : ∃ l, l = K.length := ⟨_, rfl⟩
  rw [← hlen, ← hkle] at hl
  rw [← hlen] at HT hT10
  simp only [← hkle] at HC HE
  rw [← hkle]
  clear h hK hlen hkle
  go_enter Tryz.func67, Tryz.ntmps67
  by_cases h0 : kl = 0
  · have d0 : ((kl : Int) == 0) = true := by simp; omega
    have HF := Lib.hid (HE.out h0)
    go_wp2
    exact bodyPost_ret (v := .int .i64 0) (by simp [results, Tryz.results67, go_sem]) rfl ⟨0, rfl, Lib.hid (.inl ⟨rfl, HF.out⟩), Below.refl _ _⟩
  · have d0 : ((kl : Int) == 0) = false := by simp; omega
    have d1 : (kl == 0) = false := by simp; omega
    have e3 : IntKind.i64.wrap (3 * (len : Int)) = 3 * (len : Int) := IntWalk.i64_in _ (by omega)
    have d2 : ((kl : Int) != 3 * (len : Int)) = false := by simp; omega
    have HCX := Lib.hid (HC.out X HK.out)
    clear h0 hl
    cases hany : K.any badKey
    · rw [hany] at HCX
      have HF := Lib.hid (keys_any.1 hany)
      clear hany
      go_wp2_with fail
      refine HT.out.mono ?_
      rintro e w1 ⟨rfl, rfl⟩
      go_wp2_with fail
      refine HCX.out.mono ?_
      rintro e w2 ⟨rfl, hb2⟩
      have HB2 := Lib.hid hb2
      clear hb2
      go_wp2
      exact bodyPost_ret (v := .int .i64 0) (by simp [results, Tryz.results67, go_sem]) rfl ⟨0, rfl, Lib.hid (.inl ⟨rfl, HF.out⟩), HB2.out⟩
    · rw [hany] at HCX
      have HF := Lib.hid (show ¬ Told K from fun h => by rw [keys_any.2 h] at hany; cases hany)
      clear hany
      go_wp2_with fail
      refine HT.out.mono ?_
      rintro e w1 ⟨rfl, rfl⟩
      go_wp2_with fail
      refine HCX.out.mono ?_
      rintro e w2 ⟨rfl, hb2⟩
      have HB2 := Lib.hid hb2
      clear hb2
      go_wp2
      exact bodyPost_ret (v := .int .i64 2) (by simp [results, Tryz.results67, go_sem]) rfl ⟨2, rfl, Lib.hid (.inr ⟨rfl, HF.out⟩), HB2.out⟩
set_option maxRecDepth 100000 in
set_option maxHeartbeats 1000000 in
theorem scmp_any (a0 a1 b0 b1 : Int) (w : World) :
    Calls Tryz.prog 70 #[.agg #[.int .i64 a0, .int .i64 a1], .agg #[.int .i64 b0, .int .i64 b1]] w fun e w' => e = .returned (.int .i64 (cmpP (a0, a1) (b0, b1))) ∧ Gr w w' := by
  have hor := or_cmpP (a0, a1) (b0, b1)
  rw [← hor]
  clear hor
  try dsimp only
  obtain ⟨c1, hc1⟩ : ∃ c, c = Lib.compareInt a0 b0 := ⟨_, rfl⟩
  obtain ⟨c2, hc2⟩ : ∃ c, c = Lib.compareInt a1 b1 := ⟨_, rfl⟩
  rw [← hc1, ← hc2]
  have HC1 := Lib.hid (show ∀ X, Calls Tryz.prog 60 #[.int .i64 a0, .int .i64 b0] X fun e w' => e = .returned (.int .i64 c1) ∧ w' = X from fun X => by rw [hc1]; exact Tryz.cmp_Compare_int a0 b0 X)
  have HC2 := Lib.hid (show ∀ X, Calls Tryz.prog 60 #[.int .i64 a1, .int .i64 b1] X fun e w' => e = .returned (.int .i64 c2) ∧ w' = X from fun X => by rw [hc2]; exact Tryz.cmp_Compare_int a1 b1 X)
  clear hc1 hc2
  go_enter Tryz.func70, Tryz.ntmps70
  go_upto_region 1 with fail
  obtain ⟨W0, hW0⟩ : ∃ W0, W0 = (w.alloc (.cells #[.int .i64 a0, .int .i64 a1] 57)).alloc (.cells #[.int .i64 b0, .int .i64 b1] 57) := ⟨_, rfl⟩
  have hb0 : Below w.heap.size w W0 := by rw [hW0]; exact ((Below.refl _ _).alloc (Nat.le_refl _) _).alloc (by simp) _
  have hr0 : RowIs W0 w.heap.size 57 [.int .i64 a0, .int .i64 a1] := by rw [hW0]; exact (RowIs.made w 57 [.int .i64 a0, .int .i64 a1]).alloc _
  have hr1 : RowIs W0 (w.heap.size + 1) 57 [.int .i64 b0, .int .i64 b1] := by rw [hW0]; exact RowIs.made' _ _ [.int .i64 b0, .int .i64 b1] _ (by simp)
  have HKS := Lib.hid (show ∀ X, Below W0.heap.size W0 X → X.cell? ⟨w.heap.size, 0, none⟩ = some (.int .i64 a0) ∧ X.cell? ⟨w.heap.size + 1, 0, none⟩ = some (.int .i64 b0) ∧ X.cell? ⟨w.heap.size, 1, none⟩ = some (.int .i64 a1) ∧ X.cell? ⟨w.heap.size + 1, 1, none⟩ = some (.int .i64 b1) from fun X hX =>
    ⟨(hr0.below hX hr0.lt).cell rfl, (hr1.below hX hr1.lt).cell rfl, (hr0.below hX hr0.lt).cell rfl, (hr1.below hX hr1.lt).cell rfl⟩)
  have HG0 := Lib.hid (show Gr w W0 from by rw [hW0]; exact ((Gr.refl w).alloc _).alloc _)
  have hgr := HG0.out
  have hbel : Below W0.heap.size W0 W0 := Below.refl _ _
  rw [← hW0]
  clear hW0 hb0 hr0 hr1
  go_region_held3 (fun w' => w'.cell? ⟨w.heap.size, 0, none⟩ = some (.int .i64 a0) ∧ w'.cell? ⟨w.heap.size + 1, 0, none⟩ = some (.int .i64 b0) ∧ w'.cell? ⟨w.heap.size, 1, none⟩ = some (.int .i64 a1) ∧ w'.cell? ⟨w.heap.size + 1, 1, none⟩ = some (.int .i64 b1))
    (exact HKS.out _ (by repeat (first | exact hbel | with_reducible apply bel_alloc | with_reducible apply bel_drew)))
    (first | (go_at_call 60; (with_reducible refine (HC1.out _).mono ?_); rintro e w2 ⟨rfl, rfl⟩) | (go_at_call 60; (with_reducible refine (HC2.out _).mono ?_); rintro e w2 ⟨rfl, rfl⟩) | (go_at_call 59; (with_reducible refine (or_two c1 c2 _ _ (by repeat (first | with_reducible exact RowIs.made _ _ _ | with_reducible apply RowIs.drew1))).mono ?_); rintro e w2 ⟨rfl, rfl⟩))
  all_goals
    go_wp2
    exact bodyPost_ret (v := .int .i64 (orI c1 c2)) (by simp [results, Tryz.results70, go_sem]) rfl ⟨rfl, by repeat (first | exact hgr | with_reducible apply Gr.alloc | with_reducible apply Gr.drew)⟩
/-- The seams at the first k corners. -/
def seamE (T : List Tr) (K : List Int) (k : Nat) : List (Int × Int) := ((List.range k).filter fun (c : Nat) => decide ((edgeAt T (c : Int)).1 < (edgeAt T (c : Int)).2) && partsB T K c).map fun (c : Nat) => edgeAt T (c : Int)
theorem seamE_yes {T : List Tr} {K : List Int} {k : Nat} (h : (edgeAt T (k : Int)).1 < (edgeAt T (k : Int)).2) (h2 : partsB T K k = true) : seamE T K (k + 1) = seamE T K k ++ [edgeAt T (k : Int)] := by simp [seamE, List.range_succ, h, h2]
theorem seamE_no {T : List Tr} {K : List Int} {k : Nat} (h : ¬ ((edgeAt T (k : Int)).1 < (edgeAt T (k : Int)).2 ∧ partsB T K k = true)) : seamE T K (k + 1) = seamE T K k := by simp [seamE, List.range_succ, h]
theorem seamE_mem {T : List Tr} {K : List Int} {k : Nat} {e : Int × Int} : e ∈ seamE T K k ↔ ∃ c : Nat, c < k ∧ (edgeAt T (c : Int)).1 < (edgeAt T (c : Int)).2 ∧ partsB T K c = true ∧ edgeAt T (c : Int) = e := by
  simp only [seamE, List.mem_map, List.mem_filter, List.mem_range, Bool.and_eq_true, decide_eq_true_eq]
  constructor
  · rintro ⟨c, ⟨h1, h2, h3⟩, h4⟩; exact ⟨c, h1, h2, h3, h4⟩
  · rintro ⟨c, h1, h2, h3, h4⟩; exact ⟨c, ⟨h1, h2, h3⟩, h4⟩
theorem seamE_le (T : List Tr) (K : List Int) (k : Nat) : (seamE T K k).length ≤ k := by
  have := List.length_filter_le (fun (c : Nat) => decide ((edgeAt T (c : Int)).1 < (edgeAt T (c : Int)).2) && partsB T K c) (List.range k)
  simp [seamE] at *; omega
set_option maxRecDepth 100000 in
set_option maxHeartbeats 1000000 in
theorem sedges_bad (p : Nat) (N : Int) (T : List Tr) (ko : Option Addr) (kc : Nat) (K : List Int) (w : World) (h : Tab w p N T) (hK : IntsAt w ko K) (hl : K.length = 3 * T.length) (ht : ¬ Told K) :
    Calls Tryz.prog 30 #[.pointer (some ⟨p, 0, none⟩), .slice ko K.length kc] w fun e w' => e = .returned (.tuple #[.slice none 0 0, .int .i64 2]) ∧ Below w.heap.size w w' := by
  have HR := Lib.hid (sright_any p N T ko kc K w h hK hl)
  have HT := Lib.hid ht
  obtain ⟨kl, hkle⟩ : ∃ l, l = K.length := ⟨_, rfl⟩
  rw [← hkle] at HR ⊢
  clear h hK hl ht hkle
  go_enter Tryz.func30, Tryz.ntmps30
  go_wp2_with fail
  refine HR.out.mono ?_
  rintro e w1 ⟨r, rfl, hr, hb1⟩
  obtain rfl : r = 2 := by
    rcases hr.out with ⟨-, h⟩ | ⟨h, -⟩
    · exact absurd h HT.out
    · exact h
  have HB1 := Lib.hid hb1
  clear hr hb1
  go_wp2
  exact bodyPost_ret (v := .tuple #[.slice none 0 0, .int .i64 2]) (by simp [results, Tryz.results30, go_sem]) rfl ⟨rfl, HB1.out⟩
set_option maxRecDepth 100000 in
set_option maxHeartbeats 2000000 in
theorem sedges_ok (p : Nat) (N : Int) (T : List Tr) (ko : Option Addr) (kc : Nat) (K : List Int) (w : World) (h : Tab w p N T) (hs : Surf N T) (hK : IntsAt w ko K) (hl : K.length = 3 * T.length) (ht : Told K) :
    Calls Tryz.prog 30 #[.pointer (some ⟨p, 0, none⟩), .slice ko K.length kc] w fun e w' => ∃ ao cap, e = .returned (.tuple #[.slice ao (seamE T K (3 * T.length)).length cap, .int .i64 0]) ∧ EdgesAt w' ao (sortP (seamE T K (3 * T.length))) ∧ Below w.heap.size w w' := by
  obtain ⟨i0, hi, hz0, hz1, hz2⟩ := info_parts infoEdge
  have HR := Lib.hid (sright_any p N T ko kc K w h hK hl)
  have HTO := Lib.hid ht
  have H := Lib.hid h
  have hlen := h.len
  have HTC := Lib.hid (fun (X : World) (h : Tab X p N T) => triangles_any _ _ _ _ h.s)
  have HPA := Lib.hid (fun (X : World) (c : Nat) (h : Tab X p N T) (hk : IntsAt X ko K) (hc : c < 3 * T.length) => parts_any c p N T ko kc K X h hs hk hl hc)
  have HED := Lib.hid (fun (X : World) (c : Nat) (h : Tab X p N T) (hc : c < 3 * T.length) => edge_any (c : Int) X p N T h.len h.s (by omega) (by omega))
  have HK := Lib.hid hK
  obtain ⟨len, hle⟩ : ∃ n, n = T.length := ⟨_, rfl⟩
  obtain ⟨l3, hl3⟩ : ∃ n, n = 3 * len := ⟨_, rfl⟩
  obtain ⟨kl, hkle⟩ : ∃ l, l = K.length := ⟨_, rfl⟩
  rw [← hle] at hlen
  have h3 : (3 : Int) * (len : Int) = (l3 : Int) := by omega
  have h3l : l3 ≤ 30000 := by omega
  have hT3 : 3 * T.length = l3 := by omega
  rw [hT3]
  simp only [← hkle] at HR HPA
  simp only [hT3] at HPA HED
  simp only [← hle] at HTC
  rw [← hkle]
  have HT3 := Lib.hid hT3
  clear h hs hK hl ht hle hl3 hkle hT3
  go_enter Tryz.func30, Tryz.ntmps30
  go_wp2_with fail
  refine HR.out.mono ?_
  rintro e w0 ⟨r, rfl, hr, hb0⟩
  obtain rfl : r = 0 := by
    rcases hr.out with ⟨h, -⟩ | ⟨-, h⟩
    · exact h
    · exact absurd HTO.out h
  have HB0 := Lib.hid hb0
  have HTB := Lib.hid (H.out.mono (Nat.le_refl _) hb0)
  have HK0 := Lib.hid (HK.out.mono (Nat.le_refl _) hb0)
  clear hr hb0
  go_wp2_with fail
  refine (HTC.out w0 HTB.out).mono ?_
  rintro e w1 ⟨rfl, rfl⟩
  obtain ⟨W, rfl⟩ : ∃ x : World, x = w0 := ⟨_, rfl⟩
  go_wp2
  go_loopw [19, 7] (fun c u ws => ∃ k : Nat, k ≤ l3 ∧ c = .int .i64 k ∧ ws.ownsRow W.heap.size 57 2 u (seamE T K k).length (ecells (seamE T K k)) ∧ Below W.heap.size W ws) (fun c _ _ => l3 - (intOf c).toNat)
  case atStart => exact ⟨0, by omega, rfl, by exact World.ownsRow_nil _ _ _ _, Below.refl _ _⟩
  case round =>
  obtain ⟨k, hk, rfl, hown, hb⟩ := hrel
  obtain ⟨X, rfl⟩ : ∃ X : World, X = wr := ⟨_, rfl⟩
  by_cases hlt : k < l3
  case neg =>
    obtain rfl : k = l3 := by omega
    have hsr := sort_edges 70 scmp_any (enters_of Tryz.func70 (by kernel_rfl) rfl) X W.heap.size _ (seamE T K k) (by have := seamE_le T K k; omega) hown
    obtain ⟨a, c, e, he⟩ := owns_edges hown
    subst e
    have HSR := Lib.hid hsr
    have HB := Lib.hid (below_more HB0.out hb HB0.out.size)
    clear hown hb he hsr
    go_wp2_with fail
    refine HSR.out.mono ?_
    rintro e w2 ⟨rfl, ao, cap, hv, hE, hb2⟩
    simp only [Value.slice.injEq, true_and] at hv
    obtain ⟨rfl, rfl⟩ := hv
    have HE := Lib.hid hE
    have HB2 := Lib.hid (show Below w.heap.size w w2 from HB.out.trans (hb2.mono HB0.out.size))
    clear hE hb2
    go_wp2
    exact bodyPost_ret (v := .tuple #[.slice a (seamE T K k).length c, .int .i64 0]) (by simp [results, Tryz.results30, go_sem]) rfl ⟨a, c, rfl, HE.out, HB2.out⟩
  case pos =>
  have hED := HED.out X k (HTB.out.mono (Nat.le_refl _) hb) hlt
  obtain ⟨x, hx⟩ : ∃ p, p = vt T (nx (k : Int)) := ⟨_, rfl⟩
  obtain ⟨y, hy⟩ : ∃ q, q = vt T (pv (k : Int)) := ⟨_, rfl⟩
  rw [← hx, ← hy] at hED
  have HEQ := Lib.hid (show edgeAt T (k : Int) = (x, y) from by rw [hx, hy]; rfl)
  have HEX := Lib.hid hED
  have HW := Lib.hid hown
  have HB := Lib.hid hb
  have hle := seamE_le T K k
  have HLT := Lib.hid hlt
  clear hown hb hED hx hy
  go_wp2_with fail
  refine HEX.out.mono ?_
  rintro e w3 ⟨rfl, hb3⟩
  obtain ⟨eb, heb⟩ : ∃ q, q = w3.heap.size := ⟨_, rfl⟩
  obtain ⟨Y, hY⟩ : ∃ Y, Y = w3.alloc (.cells #[.int .i64 x, .int .i64 y] 57) := ⟨_, rfl⟩
  have hb4 : Below w3.heap.size w3 Y := by rw [hY]; exact (Below.refl _ _).alloc (Nat.le_refl _) _
  have hry : RowIs Y eb 57 [.int .i64 x, .int .i64 y] := by rw [hY, heb]; exact RowIs.made w3 57 [.int .i64 x, .int .i64 y]
  have HBY := Lib.hid (below_more HB.out (below_more hb3 hb4 hb3.size) HB.out.size)
  have HWY := Lib.hid (owns_below HW.out (below_more hb3 hb4 hb3.size))
  have HRY := Lib.hid hry
  have hPA := HPA.out Y k (HTB.out.mono (Nat.le_refl _) HBY.out) (HK0.out.mono (Nat.le_refl _) HBY.out) hlt
  obtain ⟨g, hg⟩ : ∃ g, g = partsB T K k := ⟨_, rfl⟩
  rw [← hg] at hPA
  have HG := Lib.hid hg
  have HPX := Lib.hid hPA
  have HY := Lib.hid hY
  have HEB := Lib.hid heb
  have y0 := hry.cell (i := 0) rfl
  have y1 := hry.cell (i := 1) rfl
  clear hb3 hb4 hry hY heb hPA hg
  go_upto_region 9 with fail
  rw [← HY.out, ← HEB.out]
  by_cases hxy : x < y
  case neg =>
    have d0 : decide (x < y) = false := by simpa using hxy
    have HE := Lib.hid (show seamE T K (k + 1) = seamE T K k from seamE_no (by rw [HEQ.out]; exact fun h => hxy h.1))
    clear hxy
    go_wp2
    go_roundw
    case rel => exact ⟨k + 1, by omega, by go_num, by rw [HE.out]; exact HWY.out, HBY.out⟩
    case measure => simp [intOf]; omega
  case pos =>
  have d0 : decide (x < y) = true := by simpa using hxy
  cases g
  case false =>
    have HE := Lib.hid (show seamE T K (k + 1) = seamE T K k from seamE_no (by rw [← HG.out]; exact fun h => by cases h.2))
    clear hxy
    go_wp2_with fail
    refine HPX.out.mono ?_
    rintro e w5 ⟨rfl, hb5⟩
    have HW5 := Lib.hid (owns_below HWY.out hb5)
    have HB5 := Lib.hid (below_more HBY.out hb5 HBY.out.size)
    clear hb5
    go_wp2
    go_roundw
    case rel => exact ⟨k + 1, by omega, by go_num, by rw [HE.out]; exact HW5.out, HB5.out⟩
    case measure => simp [intOf]; omega
  case true =>
    have HE := Lib.hid (show seamE T K (k + 1) = seamE T K k ++ [edgeAt T (k : Int)] from seamE_yes (by rw [HEQ.out]; exact hxy) HG.out.symm)
    clear hxy
    go_wp2_with fail
    refine HPX.out.mono ?_
    rintro e w5 ⟨rfl, hb5⟩
    have HW5 := Lib.hid (owns_below HWY.out hb5)
    have HB5 := Lib.hid (below_more HBY.out hb5 HBY.out.size)
    have hr5 := HRY.out.after hb5
    have y0 := hr5.cell (i := 0) rfl
    have y1 := hr5.cell (i := 1) rfl
    clear hb5 hr5
    go_wp2_with (at_builtin; refine wpList_append_new _ rfl _ _ 50 rfl W.heap.size 57 i0 _ 2 16 (by kernel_rfl) hi hz0 hz1 hz2 rfl (by decide) _ _ _ rfl HW5.out _ _ _ rfl (by first | rfl | simp) rfl ?_ ?_ ?_ ?_ ?_)
    all_goals first | rfl | omega | (unfold maxLen; omega) | exact ⟨rfl, rfl⟩ | exact ⟨rfl, rfl, rfl⟩ | exact HB5.out.size | skip
    · intro v' w6 hown6 hbel hgr
      have HW6 := Lib.hid hown6
      have HB6 := Lib.hid (hbel W.heap.size _ (Nat.le_refl _) HB5.out)
      clear hown6 hbel hgr
      go_wp2
      go_roundw
      case rel => exact ⟨k + 1, by omega, by go_num, by
        rw [HE.out, HEQ.out, ecells_snoc, List.length_append]
        exact HW6.out, HB6.out⟩
      case measure => simp [intOf]; omega
section
variable {N : Int} {n : Nat} {T : List Tr} {K : List Int} {M : Nat → Int}
theorem edge_ends (hs : Surf n T) {c : Nat} (hc : c < 3 * T.length) {x y : Int} (he : edgeAt T (c : Int) = (x, y)) : x ≠ y ∧ I64 x ∧ I64 y := by
  rw [edgeAt_nat] at he
  simp only [Prod.mk.injEq] at he
  obtain ⟨rfl, rfl⟩ := he
  have h1 := nxn_lt hc
  have h2 := pvn_lt hc
  have hn := hs.n1
  exact ⟨nev_corner hs h2 (by rw [nxn_div, pvn_div]) (by unfold nxn pvn; omega), I64.of_in (hs.vin.vt (by omega) (by omega)) (by omega), I64.of_in (hs.vin.vt (by omega) (by omega)) (by omega)⟩
theorem seam_ok (hs : Surf n T) {e : Int × Int} (h : e ∈ seamE T K (3 * T.length)) : I64 e.1 ∧ I64 e.2 := by
  obtain ⟨c, hc, -, -, he⟩ := seamE_mem.1 h
  obtain ⟨x, y⟩ := e
  exact (edge_ends hs hc he).2
theorem seam_border (hs : Surf n T) {c : Nat} (hc : c < 3 * T.length) {x y : Int} (he : edgeAt T (c : Int) = (x, y)) (ho : opp T (c : Int) < 0) : (min x y, max x y) ∉ seamE T K (3 * T.length) := fun h => by
  obtain ⟨d, hd, hlt, hp, hde⟩ := seamE_mem.1 h
  have hne := (edge_ends hs hc he).1
  by_cases hxy : x < y
  · have e1 : min x y = x := by omega
    have e2 : max x y = y := by omega
    rw [e1, e2] at hde
    have hdc := hs.edge_c hd hc (hde.trans he.symm)
    subst hdc
    unfold partsB at hp
    simp only [Bool.and_eq_true, decide_eq_true_eq] at hp
    omega
  · have e1 : min x y = y := by omega
    have e2 : max x y = x := by omega
    rw [e1, e2] at hde
    rw [edgeAt_nat] at he
    simp only [Prod.mk.injEq] at he
    rw [opp_nat, he.1, he.2] at ho
    have := facing_of hd hde
    omega
theorem seam_between (hs : Surf n T) (hM : IsShells (KAdj T K) T.length M) {c o : Nat} (hc : c < 3 * T.length) {x y : Int} (he : edgeAt T (c : Int) = (x, y)) (ho : opp T (c : Int) = (o : Int)) (hne : M (c / 3) ≠ M (o / 3)) : (min x y, max x y) ∈ seamE T K (3 * T.length) := by
  obtain ⟨o', e, hol, hoc, h1, h2⟩ := hs.opp_opp hc (by omega)
  obtain rfl : o' = o := by omega
  have hxy0 := (edge_ends hs hc he).1
  have hop : ¬ OpenK T K c o' := fun h => hne ((hM.clo _ _ (by omega) (by omega) ⟨c, o', hc, hol, h, rfl, rfl⟩).symm)
  have hop2 : ¬ (I! K (nxn c) = I! K (pvn o') ∧ I! K (pvn c) = I! K (nxn o')) := fun h => hop ⟨ho, h.1, h.2⟩
  rw [edgeAt_nat] at he
  simp only [Prod.mk.injEq] at he
  by_cases hxy : x < y
  · have e1 : min x y = x := by omega
    have e2 : max x y = y := by omega
    rw [e1, e2]
    refine seamE_mem.2 ⟨c, hc, ?_, ?_, ?_⟩
    · rw [edgeAt_nat, he.1, he.2]; exact hxy
    · unfold partsB
      rw [ho, Int.toNat_natCast]
      by_cases q : I! K (nxn c) = I! K (pvn o')
      · have q2 : I! K (pvn c) ≠ I! K (nxn o') := fun h => hop2 ⟨q, h⟩
        simp [q2]
      · simp [q]
    · rw [edgeAt_nat, he.1, he.2]
  · have e1 : min x y = y := by omega
    have e2 : max x y = x := by omega
    rw [e1, e2]
    refine seamE_mem.2 ⟨o', hol, ?_, ?_, ?_⟩
    · rw [edgeAt_nat, h1, h2, he.1, he.2]; show y < x; omega
    · unfold partsB
      rw [hoc, Int.toNat_natCast]
      by_cases q : I! K (nxn c) = I! K (pvn o')
      · have q2 : I! K (nxn o') ≠ I! K (pvn c) := fun h => hop2 ⟨q, h.symm⟩
        simp [q2]
      · have q2 : I! K (pvn o') ≠ I! K (nxn c) := fun h => q h.symm
        simp [q2]
    · rw [edgeAt_nat, h1, h2, he.1, he.2]
end
/-- The first i edges of a list, as a map. -/
def inM (E : List (Int × Int)) (i : Nat) : Int × Int → Option Value := fun b => if b ∈ E.take i then some (.bool true) else none
theorem inM_zero (E : List (Int × Int)) : inM E 0 = fun _ => none := by funext b; simp [inM]
theorem inM_succ {E : List (Int × Int)} {i : Nat} (h : i < E.length) : (fun b => if b = E! E i then some (Value.bool true) else inM E i b) = inM E (i + 1) := by
  funext b
  have e : E.take (i + 1) = E.take i ++ [E! E i] := by rw [List.take_add_one, List.getElem?_eq_getElem h]; simp [E!, List.getD_eq_getElem?_getD, h]
  unfold inM
  rw [e]
  by_cases hb : b = E! E i
  · subst hb; simp
  · simp [hb]
theorem inM_all (E : List (Int × Int)) (b : Int × Int) : (inM E E.length b).getD (.bool false) = .bool (decide (b ∈ E)) := by
  unfold inM
  rw [List.take_length]
  by_cases h : b ∈ E <;> simp [h]
end Go.Proofs.YtfbpjlfimmjieaaGreat

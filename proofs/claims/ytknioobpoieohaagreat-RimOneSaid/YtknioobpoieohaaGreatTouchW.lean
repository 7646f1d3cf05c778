/- rim.Touch of a surface with right bays. -/
import Derived.Test.YtknioobpoieohaaGreatTouchLaw
import Derived.Test.YtknioobpoieohaaGreatRowsLaw
import Derived.Test.YtknioobpoieohaaGreatRimTab
import Derived.Test.YtknioobpoieohaaGreatCertPinch
import Derived.Deep.RegionHeldLaw
import Derived.Deep.AppendLies
namespace Go.Proofs.YtknioobpoieohaaGreat
set_option linter.unusedVariables false
set_option linter.unusedSimpArgs false
open Go.RowKit
theorem foldl_max (l : List Int) : ∀ a, a ≤ l.foldl max a ∧ (∀ x ∈ l, x ≤ l.foldl max a) ∧ (l.foldl max a = a ∨ l.foldl max a ∈ l) := by
  induction l with
  | nil => intro a; simp
  | cons y l ih =>
    intro a
    obtain ⟨h1, h2, h3⟩ := ih (max a y)
    simp only [List.foldl_cons]
    refine ⟨by omega, fun x hx => ?_, ?_⟩
    · rcases List.mem_cons.1 hx with rfl | hx
      · omega
      · exact h2 x hx
    · rcases h3 with h3 | h3
      · rw [h3]
        rcases Int.le_total a y with h | h
        · right; rw [Int.max_eq_right h]; exact List.mem_cons_self ..
        · left; exact Int.max_eq_left h
      · right; exact List.mem_cons_of_mem _ h3
theorem maxOf_law {bays : List Int} (h : bays ≠ []) : Lib.maxOf bays ∈ bays ∧ ∀ x ∈ bays, x ≤ Lib.maxOf bays := by
  obtain ⟨a, l, rfl⟩ := List.exists_cons_of_ne_nil h
  unfold Lib.maxOf
  obtain ⟨h1, h2, h3⟩ := foldl_max (a :: l) a
  refine ⟨?_, h2⟩
  rcases h3 with h3 | h3
  · have : List.headD (a :: l) 0 = a := rfl
    rw [this, h3]; exact List.mem_cons_self ..
  · exact h3
/-- One more than the greatest bay. -/
def mostN (bays : List Int) : Nat := if bays = [] then 0 else (Lib.maxOf bays + 1).toNat
def TouchPost (W : World) (T : List Tr) (bays : List Int) (e : Ending) (w' : World) : Prop :=
  ∃ ao cap, e = .returned (.tuple #[.slice ao (mostN bays) cap, .int .i64 0]) ∧ MatAt w' ao (mostN bays) (touchL T bays (mostN bays)) ∧ Below W.heap.size W w'
theorem I!_mem {xs : List Int} {i : Nat} (h : i < xs.length) : I! xs i ∈ xs := by
  unfold I!
  rw [List.getD_eq_getElem?_getD, List.getElem?_eq_getElem h]
  exact List.getElem_mem h
theorem info34' : (Tryz.prog.info? 26).map (fun i => (i.zero, i.size, i.bytes)) = some (some (.slice none 0 0), 1, 24) := by kernel_rfl
theorem nv_ic (E : List Nat) : nv E = ic (E.map fun (x : Nat) => (x : Int)) := by simp [nv, ic]
theorem touch_end {w1 W9 Y w10 : World} {B hd x y nE m g cap : Nat} {vs : Nat → Value} {E : Nat → List Nat} {v : Value} (hY : Below W9.heap.size W9 Y) (hF : Fam W9 (hd + 1) vs E) (hn : nE = (E x).length) (hv : vs x = v)
    (hown : w10.ownsRow (hd + 1) 3 1 (.slice (some ⟨g, 0, none⟩) (nE + 1) cap) (nE + 1) (nv (E x) ++ [.int .i64 (y : Int)])) (hg : Y.grownBy w10 v.ownBlock) (hat : v.ownBlock = some g ∨ g = Y.heap.size) (hR : RowIs w10 hd 26 (vv vs m))
    (hB : Below B w1 W9) (hBd : B ≤ hd) (hs : hd < W9.heap.size) :
    RowIs (w10.setCell ⟨hd, x, none⟩ (.slice (some ⟨g, 0, none⟩) (nE + 1) cap)) hd 26 (vv (fun j => if j = x then .slice (some ⟨g, 0, none⟩) (nE + 1) cap else vs j) m) ∧
    Fam (w10.setCell ⟨hd, x, none⟩ (.slice (some ⟨g, 0, none⟩) (nE + 1) cap)) (hd + 1) (fun j => if j = x then .slice (some ⟨g, 0, none⟩) (nE + 1) cap else vs j) (fun j => if j = x then E x ++ [y] else E j) ∧
    Below B w1 (w10.setCell ⟨hd, x, none⟩ (.slice (some ⟨g, 0, none⟩) (nE + 1) cap)) := by
  subst hn
  subst hv
  have hFY := hF.more hY
  have hf := hFY.push x y _ hown hg (by
    rcases hat with h | h
    · exact .inl (by rw [h]; rfl)
    · exact .inr ⟨g, by omega, rfl⟩)
  have h1 := hR.set x (.slice (some ⟨g, 0, none⟩) ((E x).length + 1) cap)
  rw [vv_set] at h1
  have hBY : Below B w1 Y := hB.trans (hY.mono (by omega))
  have hb10 := hBY.grown hg (by have := hY.size; omega) (fun q hq => by have := ((hFY.1 x).lt q hq).1; omega)
  exact ⟨h1, hf.other (grown_set _ _ _ _) (Nat.lt_succ_self _), hb10.setCell (p := ⟨hd, x, none⟩) hBd _⟩
set_option maxRecDepth 100000 in
set_option maxHeartbeats 4000000 in
theorem touch_ok (n : Nat) (ao : Option Addr) (cap : Nat) (T : List Tr) (bo : Option Addr) (bcap : Nat) (bays : List Int) (w : World) (hT : TrisAt w ao T) (hB : IntsAt w bo bays) (hs : Surf n T) (hok : BaysOK T.length bays) (hl : T.length ≤ 1000) :
    Calls Tryz.prog 23 #[.agg #[.int .i64 (n : Int), .slice ao T.length cap], .slice bo bays.length bcap] w (TouchPost w T bays) := by
  obtain ⟨W0, hW0⟩ : ∃ W0, W0 = w.alloc (.cells #[.int .i64 (n : Int), .slice ao T.length cap] 24) := ⟨_, rfl⟩
  have hb0 : Below w.heap.size w W0 := by rw [hW0]; exact (Below.refl _ _).alloc (Nat.le_refl _) _
  have hr0 : RowIs W0 w.heap.size 24 [.int .i64 (n : Int), .slice ao T.length cap] := by rw [hW0]; exact RowIs.made w 24 [.int .i64 (n : Int), .slice ao T.length cap]
  have hbl : bays.length ≤ 100000 := by have := hok.1; have := hs.t1; omega
  have HC := Lib.hid (table_ok n ao cap T bo bcap bays W0 (hT.mono (Nat.le_refl _) hb0) (hB.mono (Nat.le_refl _) hb0) hs hbl)
  have HB := Lib.hid (hB.mono (Nat.le_refl _) hb0)
  have HOK := Lib.hid hok
  have HS := Lib.hid hs
  have HB0 := Lib.hid hb0
  have HR0 := Lib.hid hr0
  obtain ⟨len, hlen⟩ : ∃ l, l = T.length := ⟨_, rfl⟩
  have hbe : bays.length = T.length := hok.1
  rw [hbe] at HC hbl ⊢
  rw [← hlen] at hW0 HC HR0 hl hbl ⊢
  have HBL := Lib.hid (show bays.length = len from by rw [hlen]; exact hbe)
  have HL := Lib.hid hlen
  have HW0 := Lib.hid hW0
  obtain ⟨xb, hxb⟩ : ∃ x, x = w.heap.size := ⟨_, rfl⟩
  rw [← hxb] at HR0
  have HXB := Lib.hid hxb
  clear hT hB hb0 hr0 hW0 hlen hs hok hbe hxb
  go_enter Tryz.func23, Tryz.ntmps23
  go_upto_region 1 with fail
  rw [← HW0.out, ← HXB.out]
  have c0 := HR0.out.cell (i := 0) rfl
  have c1 := HR0.out.cell (i := 1) rfl
  go_wp2_with fail
  refine HC.out.mono ?_
  rintro e w1 ⟨hcase, hb1⟩
  obtain ⟨p, rfl, hp, htab⟩ := (hcase.resolve_right (fun h => h.1 HOK.out)).2
  have HB1 := Lib.hid (below_more HB0.out hb1 HB0.out.size)
  have HR1 := Lib.hid (HR0.out.after hb1)
  have HBY1 := Lib.hid (HB.out.mono (Nat.le_refl _) hb1)
  have HTB := Lib.hid htab
  clear hcase hb1 hp htab c0 c1
  by_cases h0 : len = 0
  · have HF := Lib.hid (show TouchPost w T bays (.returned (.tuple #[.slice none 0 0, .int .i64 0])) w1 from by
      have hb : bays = [] := List.length_eq_zero_iff.1 (by rw [HBL.out]; exact h0)
      refine ⟨none, 0, by simp [mostN, hb], fun h => ?_, HB1.out⟩
      simp [mostN, hb] at h)
    subst h0
    go_wp2
    exact bodyPost_ret (v := .tuple #[.slice none 0 0, .int .i64 0]) (by simp [results, Tryz.results23, go_sem]) rfl HF.out
  have hne : bays ≠ [] := fun h => h0 (by rw [← HBL.out, h]; rfl)
  obtain ⟨bb, boff, rfl, hbb, hbc⟩ := HBY1.out hne
  obtain ⟨hmx1, hmx2⟩ := maxOf_law hne
  obtain ⟨mx, hmx⟩ : ∃ q : Nat, Lib.maxOf bays = q := ⟨(Lib.maxOf bays).toNat, by have := (HOK.out.2 _ hmx1).1; omega⟩
  have hmx256 : mx < 256 := by have := (HOK.out.2 _ hmx1).2; omega
  obtain ⟨m, hm⟩ : ∃ m, m = mx + 1 := ⟨_, rfl⟩
  have HMN := Lib.hid (show mostN bays = m from by unfold mostN; rw [if_neg hne, hmx]; omega)
  have HRG := Lib.hid (show ∀ i, i < T.length → 0 ≤ I! bays i ∧ I! bays i < m from fun i hi => by
    have h1 := I!_mem (xs := bays) (i := i) (by rw [HBL.out, HL.out]; exact hi)
    have h2 := hmx2 _ h1
    have h3 := (HOK.out.2 _ h1).1
    omega)
  have HMX := Lib.hid (show Calls Tryz.prog 54 #[.slice (some ⟨bb, boff, none⟩) len bcap] w1 fun e w' => e = .returned (.int .i64 (mx : Int)) ∧ w1 = w' from by
    have := Tryz.slices_Max_int bb boff len bcap bays w1 (by omega) (by rw [HBL.out]; omega) (by omega) (fun j hj => hbc j hj)
    refine this.mono fun e w' ⟨h1, h2⟩ => ⟨?_, h2.symm⟩
    rw [h1, ← HBL.out, List.take_length, hmx])
  have hm1 : (mx : Int) + 1 = (m : Int) := by omega
  have hm256 : m ≤ 256 := by omega
  have hm0 : 0 < m := by omega
  have hlne : (len == 0) = false := by simpa using h0
  have hlne2 : ((len : Int) == 0) = false := by simp; omega
  obtain ⟨i0, hi, hz0, hz1, hz2⟩ := info_parts info34'
  have HNE := Lib.hid hne
  clear hmx1 hmx2 hmx h0 hne hbc HC hm
  go_wp2_with fail
  refine HMX.out.mono ?_
  rintro e w2 ⟨rfl, rfl⟩
  go_wp2_with (at_make; refine wpList_make_full _ rfl _ _ _ rfl w1.heap.size 26 i0 (.slice none 0 0) 1 (by kernel_rfl) hi hz0 hz1 _ _ _ _ m rfl rfl rfl rfl (by rw [hz2]; omega) (by unfold maxLen; omega) (by simp) ?_)
  intro w3 hown hgr
  rw [madeCells_vv] at hown
  have hrow := RowIs.of_owns hown
  have hb3 : Below w1.heap.size w1 w3 := (Below.refl _ _).grown hgr (Nat.le_refl _) (by simp)
  have HB3 := Lib.hid (below_more HB1.out hb3 HB1.out.size)
  have HR3 := Lib.hid (HR1.out.after hb3)
  have HBY3 := Lib.hid (HBY1.out.mono (Nat.le_refl _) hb3)
  have HH3 := Lib.hid hrow
  obtain ⟨hd, hhd⟩ : ∃ q, q = w1.heap.size := ⟨_, rfl⟩
  rw [← hhd] at HH3
  have HHD := Lib.hid hhd
  have HXH := Lib.hid (show xb < hd from by rw [hhd]; exact HR1.out.lt)
  have hbbh : bb < hd := by rw [hhd]; exact hbb
  have HB31 := Lib.hid (show Below w1.heap.size w1 w3 from hb3)
  have c0 := HR3.out.cell (i := 0) rfl
  have c1 := HR3.out.cell (i := 1) rfl
  obtain ⟨l3, hl3⟩ : ∃ q, q = 3 * len := ⟨_, rfl⟩
  have h3l : (3 : Int) * (len : Int) = (l3 : Int) := by omega
  have HL3 := Lib.hid (show l3 = 3 * T.length from by rw [hl3, HL.out])
  have hl3b : l3 ≤ 3000 := by omega
  have HK1 := Lib.hid (show ∀ X : World, Below w1.heap.size w1 X → ∀ i, i < T.length → X.cell? ⟨bb, boff + i, none⟩ = some (.int .i64 (I! bays i)) from fun X hX i hi => by
    obtain ⟨b', o', he, -, hc⟩ := (HBY1.out.mono (Nat.le_refl _) hX) HNE.out
    cases he
    exact hc i (by rw [HBL.out, HL.out]; exact hi))
  clear hown hgr hrow hb3 hi hz0 hz1 hz2 i0 hl3 hbb HR3 HBY3
  obtain ⟨i0, hi, hz0, hz1, hz2⟩ := info_parts info3
  rw [← hhd]
  clear hhd
  go_wp2
  go_loopw [35] (fun c ws => ∃ (k : Nat) (vs : Nat → Value), k ≤ l3 ∧ c = .int .i64 k ∧ RowIs ws hd 26 (vv vs m) ∧ Fam ws (hd + 1) vs (tch T bays k) ∧ Below w1.heap.size w1 ws) (fun c _ => l3 - (intOf c).toNat)
  case atStart => exact ⟨0, _, by omega, rfl, HH3.out, by rw [tch_zero]; exact Fam.nil _ _, HB31.out⟩
  case round =>
  clear HH3 c0 c1
  obtain ⟨k, vs, hk, rfl, hrow, hfam, hb⟩ := hrel
  obtain ⟨X, rfl⟩ : ∃ X : World, X = wr := ⟨_, rfl⟩
  have HB := Lib.hid hb
  have HRW := Lib.hid hrow
  have HF := Lib.hid hfam
  have hXs : hd < X.heap.size := hrow.lt
  by_cases hlt : k < l3
  case neg =>
    obtain rfl : k = l3 := by omega
    have HFI := Lib.hid (FamI.of hfam)
    have HRES := Lib.hid (show ∀ u, uniq ((tch T bays k u).map fun (x : Nat) => (x : Int)) = touchL T bays m u from fun u => by
      rw [HL3.out]
      exact uniq_tch HRG.out (fun c hc => opp_lt (c : Int) (by omega) (by omega)) u)
    have HLE := Lib.hid (show ∀ u, ((tch T bays k u).map fun (x : Nat) => (x : Int)).length ≤ 100000 from fun u => by have := tch_le T bays k u; rw [List.length_map]; omega)
    obtain ⟨R, hR⟩ : ∃ R : Nat → List Int, R = fun u => (tch T bays k u).map fun (x : Nat) => (x : Int) := ⟨_, rfl⟩
    rw [← hR] at HFI
    have HRES := Lib.hid (show ∀ u, uniq (R u) = touchL T bays m u from fun u => by rw [hR]; exact HRES.out u)
    have HLE := Lib.hid (show ∀ u, (R u).length ≤ 100000 from fun u => by rw [hR]; exact HLE.out u)
    clear hrow hfam hb hR
    go_wp2
    go_loopw [81] (fun c ws => ∃ (i : Nat) (vs : Nat → Value), i ≤ m ∧ c = .int .i64 i ∧ RowIs ws hd 26 (vv vs m) ∧ FamI ws (hd + 1) vs (fun u => if u < i then touchL T bays m u else R u) ∧ Below w1.heap.size w1 ws) (fun c _ => m - (intOf c).toNat)
    case atStart => exact ⟨0, vs, by omega, rfl, HRW.out, by simpa using HFI.out, HB.out⟩
    case round =>
    clear HRW HFI HF HB
    obtain ⟨i, us, him, rfl, hrow, hfam, hb⟩ := hrel
    obtain ⟨Y, rfl⟩ : ∃ X : World, X = wr := ⟨_, rfl⟩
    have HB := Lib.hid hb
    have HRW := Lib.hid hrow
    have HF := Lib.hid hfam
    have hYs : hd < Y.heap.size := hrow.lt
    by_cases hil : i < m
    case neg =>
      obtain rfl : i = m := by omega
      have HE := Lib.hid (show TouchPost w T bays (.returned (.tuple #[.slice (some ⟨hd, 0, none⟩) i i, .int .i64 0])) Y from by
        refine ⟨some ⟨hd, 0, none⟩, i, by rw [HMN.out], ?_, below_more HB1.out hb HB1.out.size⟩
        rw [HMN.out]
        exact mat_of hrow fun u hu => by have := hfam.1 u; simpa [hu] using this)
      clear hrow hfam hb
      go_wp2
      exact bodyPost_ret (v := .tuple #[.slice (some ⟨hd, 0, none⟩) i i, .int .i64 0]) (by simp [results, Tryz.results23, go_sem]) rfl HE.out
    case pos =>
    have hown := hfam.1 i
    simp only [Nat.lt_irrefl, if_false] at hown
    obtain ⟨v, hv⟩ : ∃ v, us i = v := ⟨_, rfl⟩
    have hcv := hrow.cell (vv_get us hil)
    rw [hv] at hcv hown
    have HV := Lib.hid hv
    have HSO := Lib.hid (sort_zs hown (HLE.out i))
    have HN1 := Lib.hid (show some hd ≠ v.ownBlock from fun e => by have := (hown.lt hd e.symm).1; omega)
    have HLT := Lib.hid (show ∀ q, v.ownBlock = some q → hd + 1 ≤ q from fun q hq => (hown.lt q hq).1)
    clear hrow hfam hb hown hv
    go_wp2_with fail
    refine HSO.out.mono ?_
    rintro e w6 ⟨rfl, hown6, hg6⟩
    have h6l : ((R i).mergeSort fun x y => decide (x ≤ y)).length = (R i).length := List.length_mergeSort _
    rw [← h6l] at hown6
    have HCO := Lib.hid (compact_zs hown6)
    have HG6 := Lib.hid hg6
    have HUQ := Lib.hid (show Lib.compact ((R i).mergeSort fun x y => decide (x ≤ y)) = touchL T bays m i from HRES.out i)
    have HY6 := Lib.hid hg6.size
    clear hown6 hg6 HSO h6l hcv
    go_wp2_with fail
    refine HCO.out.mono ?_
    rintro e w7 ⟨v7, rfl, hown7, hg7, hb7⟩
    rw [HUQ.out] at hown7
    obtain ⟨a7, c7, hv7⟩ := owns_slice hown7
    subst hv7
    have hg67 := grown_trans HG6.out hg7
    have hr7 := HRW.out.grown hg67 HN1.out
    have c7' := hr7.cell (vv_get us hil)
    have f7 := hr7.free i
    have hf7 := HF.out.put i (.slice a7 (touchL T bays m i).length c7) (touchL T bays m i) (by rw [HV.out]; exact hg67) hown7 (by rw [HV.out]; exact hb7)
    have hr8 := hr7.set i (.slice a7 (touchL T bays m i).length c7)
    rw [vv_set] at hr8
    have HR8 := Lib.hid hr8
    have HF8 := Lib.hid (hf7.other (grown_set w7 hd i (.slice a7 (touchL T bays m i).length c7)) (Nat.lt_succ_self _))
    have HB8 := Lib.hid ((HB.out.grown hg67 (by have := HHD.out; omega) (fun q hq => by have := HLT.out q hq; have := HHD.out; omega)).setCell (p := ⟨hd, i, none⟩) (Nat.le_of_eq HHD.out.symm) (.slice a7 (touchL T bays m i).length c7))
    have HFE := Lib.hid (show (fun u => if u = i then touchL T bays m i else if u < i then touchL T bays m u else R u) = fun u => if u < i + 1 then touchL T bays m u else R u from by
      funext u
      by_cases e : u = i
      · subst e; simp
      · by_cases e2 : u < i
        · have : u < i + 1 := by omega
          simp [e, e2, this]
        · have : ¬ u < i + 1 := by omega
          simp [e, e2, this])
    obtain ⟨tl, htl⟩ : ∃ q, q = (touchL T bays m i).length := ⟨_, rfl⟩
    rw [← htl] at HR8 HF8 HB8 ⊢
    clear hown7 hg7 hb7 hg67 hr7 hf7 hr8 htl HCO
    go_wp2
    go_roundw
    case rel => exact ⟨i + 1, _, by omega, by go_num, HR8.out, by rw [← HFE.out]; exact HF8.out, HB8.out⟩
    case measure => simp [intOf]; omega
  case pos =>
  have hkT : k < 3 * T.length := by rw [← HL3.out]; exact hlt
  have hOP := opp_any (k : Int) X p n T (HTB.out.mono (Nat.le_refl _) hb) (by omega) (by omega)
  have hol := opp_lt (T := T) (k : Int) (by omega) (by omega)
  obtain ⟨o, ho⟩ : ∃ o, o = opp T (k : Int) := ⟨_, rfl⟩
  rw [← ho] at hOP hol
  have HOP := Lib.hid hOP
  have HO := Lib.hid ho
  clear hrow hfam hb hOP ho
  go_wp2_with fail
  refine HOP.out.mono ?_
  rintro e w5 ⟨rfl, hb5⟩
  have HB5 := Lib.hid (below_more HB.out hb5 HB.out.size)
  have HRW5 := Lib.hid (HRW.out.after hb5)
  have HF5 := Lib.hid (HF.out.more hb5)
  clear hb5 HOP
  by_cases hneg : o < 0
  case pos =>
    have d0 : decide (o ≥ 0) = false := by simp; omega
    have d1 : decide (0 ≤ o) = false := by simp; omega
    have HN := Lib.hid (show tch T bays (k + 1) = tch T bays k from tch_no (by unfold crossB; rw [← HO.out, d1]; rfl))
    clear hneg
    go_wp2
    go_quiet (fail)
    go_wp2
    go_roundw
    case rel => exact ⟨k + 1, vs, by omega, by go_num, HRW5.out, by rw [HN.out]; exact HF5.out.more ⟨rfl, rfl, rfl, Nat.le_refl _, fun _ _ => rfl⟩, HB5.out.trans ⟨rfl, rfl, rfl, Nat.le_refl _, fun _ _ => rfl⟩⟩
    case measure => simp [intOf]; omega
  case neg =>
  obtain ⟨oc, rfl⟩ := Int.eq_ofNat_of_zero_le (show 0 ≤ o by omega)
  have d0 : decide ((oc : Int) ≥ 0) = true := by simp
  have d1 : decide (0 ≤ (oc : Int)) = true := by simp
  obtain ⟨o3, ho3⟩ : ∃ y, y = oc / 3 := ⟨_, rfl⟩
  obtain ⟨k3, hk3⟩ : ∃ y, y = k / 3 := ⟨_, rfl⟩
  have ho3l : o3 < len := by have := HL.out; omega
  have hk3l : k3 < len := by have := HL.out; omega
  have hdo : (oc : Int) / 3 = (o3 : Int) := by omega
  have hdk : (k : Int) / 3 = (k3 : Int) := by omega
  have hcy := HK1.out w5 HB5.out o3 (by rw [← HL.out]; exact ho3l)
  have hcx := HK1.out w5 HB5.out k3 (by rw [← HL.out]; exact hk3l)
  obtain ⟨y, hy⟩ : ∃ y : Nat, I! bays o3 = y := ⟨(I! bays o3).toNat, by have := HRG.out o3 (by rw [← HL.out]; exact ho3l); omega⟩
  obtain ⟨x, hx⟩ : ∃ y : Nat, I! bays k3 = y := ⟨(I! bays k3).toNat, by have := HRG.out k3 (by rw [← HL.out]; exact hk3l); omega⟩
  have hxm : x < m := by have := HRG.out k3 (by rw [← HL.out]; exact hk3l); omega
  have hym : y < m := by have := HRG.out o3 (by rw [← HL.out]; exact ho3l); omega
  rw [hy] at hcy
  rw [hx] at hcx
  have HOB := Lib.hid (show obay T bays k = (y : Int) from by
    unfold obay
    rw [← HO.out, ← hy, ho3]
    rfl)
  have HCB := Lib.hid (show cbay bays k = (x : Int) from by unfold cbay; rw [← hx, hk3])
  clear ho3 hk3 hy hx hneg
  by_cases hxy : y = x
  · subst hxy
    have d2 : ((y : Int) != (y : Int)) = false := by simp
    have HN := Lib.hid (show tch T bays (k + 1) = tch T bays k from tch_no (by
      unfold crossB
      rw [HOB.out, HCB.out]
      simp))
    go_wp2
    go_quiet (fail)
    go_wp2
    go_roundw
    case rel => exact ⟨k + 1, vs, by omega, by go_num, HRW5.out, by rw [HN.out]; exact HF5.out.more ⟨rfl, rfl, rfl, Nat.le_refl _, fun _ _ => rfl⟩, HB5.out.trans ⟨rfl, rfl, rfl, Nat.le_refl _, fun _ _ => rfl⟩⟩
    case measure => simp [intOf]; omega
  · have d2 : ((y : Int) != (x : Int)) = true := by simp; omega
    have HY := Lib.hid (show (fun q => if q = x then tch T bays k x ++ [y] else tch T bays k q) = tch T bays (k + 1) from tch_yes (by
      unfold crossB
      rw [HOB.out, HCB.out, ← HO.out]
      simp
      omega) HCB.out HOB.out)
    have hlE := tch_le T bays k x
    clear hxy
    go_wp2
    go_quiet (fail)
    go_upto_region 10 with fail
    generalize hW9 : w5.drewN _ = W9
    have hb9 : Below w5.heap.size w5 W9 := by rw [← hW9]; exact ⟨rfl, rfl, rfl, Nat.le_refl _, fun _ _ => rfl⟩
    have HB9 := Lib.hid (below_more HB5.out hb9 HB5.out.size)
    have HRW9 := Lib.hid (HRW5.out.after hb9)
    have HF9 := Lib.hid (HF5.out.more hb9)
    have hown := HF9.out.1 x
    obtain ⟨v, hv⟩ : ∃ v, vs x = v := ⟨_, rfl⟩
    have hcv := HRW9.out.cell (vv_get vs hxm)
    rw [hv] at hcv hown
    have HV := Lib.hid hv
    obtain ⟨nE, hnE⟩ : ∃ q, q = (tch T bays k x).length := ⟨_, rfl⟩
    rw [← hnE] at hown hlE
    have HNE2 := Lib.hid hnE
    have HOW := Lib.hid hown
    have hcx9 := HK1.out W9 HB9.out k3 (by rw [← HL.out]; exact hk3l)
    have hcy9 := HK1.out W9 HB9.out o3 (by rw [← HL.out]; exact ho3l)
    have hbx : I! bays k3 = x := by have := hcx9.symm.trans ((hb9.cell (p := ⟨bb, boff + k3, none⟩) (show bb < _ by have := HB5.out.size; have := HHD.out; omega)).trans hcx); simpa using this
    have hby : I! bays o3 = y := by have := hcy9.symm.trans ((hb9.cell (p := ⟨bb, boff + o3, none⟩) (show bb < _ by have := HB5.out.size; have := HHD.out; omega)).trans hcy); simpa using this
    rw [hbx] at hcx9
    rw [hby] at hcy9
    have hW9s : hd < W9.heap.size := HRW9.out.lt
    have hbb9 : bb < W9.heap.size := by omega
    have hcxo : ∀ o, (W9.alloc o).cell? ⟨bb, boff + k3, none⟩ = some (.int .i64 (x : Int)) := fun o => (((Below.refl _ _).alloc (Nat.le_refl W9.heap.size) o).cell (p := ⟨bb, boff + k3, none⟩) hbb9).trans hcx9
    have hcvo : ∀ o, (W9.alloc o).cell? ⟨hd, x, none⟩ = some v := fun o => (((Below.refl _ _).alloc (Nat.le_refl W9.heap.size) o).cell (p := ⟨hd, x, none⟩) hW9s).trans hcv
    have HN1 := Lib.hid (show some hd ≠ v.ownBlock from fun e => by have := (HOW.out.lt hd e.symm).1; omega)
    have HN2 := Lib.hid (show some bb ≠ v.ownBlock from fun e => by have := (HOW.out.lt bb e.symm).1; omega)
    have hkl : k < 3000 := by omega
    have hx0 : (0 : Int) ≤ (x : Int) := by omega
    have hx1 : (x : Int) < (m : Int) := by omega
    clear hW9 hb9 hcx hcy hown hv hnE hbx hby HRW5 HF5 HB5 HRW HF HB
    have hwk : IntKind.i64.wrap (k3 : Int) = (k3 : Int) := wrapT _ (by omega)
    have hwo : IntKind.i64.wrap (o3 : Int) = (o3 : Int) := wrapT _ (by omega)
    go_region_law ((refine step_append_lies _ (by rfl) _ _ _ (by rfl) (hd + 1) 3 i0 (.int .i64 0) 1 8 (by kernel_rfl) hi hz0 hz1 hz2 rfl (by decide) v nE (nv (tch T bays k x)) (by rfl) (HOW.out.alloc _) ⟨W9.heap.size, 0, none⟩ 1 1 [.int .i64 (y : Int)] (by rfl) rfl (World.news_of_block (heap_alloc_new W9 _)) (by intro u hu; simp at hu; subst hu; rfl) (by omega) (by unfold maxLen; omega) (by omega) (by first | (simp; done) | (simp; omega)) (W9.heap.size + 1) (by simp) ?_; intro g cap w10 hown hgrow hat hlt10; have HR10 := Lib.hid (show RowIs w10 hd 26 (vv vs m) from RowIs.grown (by first | exact HRW9.out.alloc _ | exact RowIs.drew1 (HRW9.out.alloc _)) hgrow HN1.out); have d3 := HR10.out.cell (vv_get vs hxm); have d4 := HR10.out.free x; have d5 : w10.cell? ⟨bb, boff + k3, none⟩ = some (.int .i64 (x : Int)) := (hgrow.cell_far ⟨bb, boff + k3, none⟩ (by first | (simp; done) | (simp; omega)) HN2.out).trans (by exact hcxo _)))
    all_goals
      obtain ⟨r1, r2, r3⟩ := touch_end (Y := _) (by first | exact (Below.refl _ _).alloc (Nat.le_refl _) _ | exact ((Below.refl _ _).alloc (Nat.le_refl _) _).drew) HF9.out HNE2.out HV.out hown hgrow (by simpa using hat) HR10.out HB9.out (Nat.le_of_eq HHD.out.symm) hW9s
      have R1 := Lib.hid r1
      have R2 := Lib.hid r2
      have R3 := Lib.hid r3
      clear r1 r2 r3 hown hgrow hat hlt10 d3 d4 d5 HR10 hcx9 hcy9 hcv hcxo hcvo hwk hwo
      go_wp2
      go_roundw
      case rel => exact ⟨k + 1, _, by omega, by go_num, by first | exact R1.out | exact RowIs.drew1 R1.out, by rw [← HY.out]; first | exact R2.out | exact Fam.more R2.out (Below.refl _ _).drew, by first | exact R3.out | exact R3.out.drew⟩
      case measure => simp [intOf]; omega
end Go.Proofs.YtknioobpoieohaaGreat

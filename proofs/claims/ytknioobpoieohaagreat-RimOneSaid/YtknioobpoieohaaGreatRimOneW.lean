/- gypsumlaw40.RimOne: the walk. -/
import Derived.Test.YtknioobpoieohaaGreatOneLaw40
import Derived.Test.YtknioobpoieohaaGreatSame08
import Derived.Test.YtknioobpoieohaaGreatTouchW
import Derived.Test.YtknioobpoieohaaGreatBordE
import Derived.Test.YtknioobpoieohaaGreatAwake40
import Derived.BigQuiet
namespace Go.Proofs.YtknioobpoieohaaGreat
set_option linter.unusedVariables false
set_option linter.unusedSimpArgs false
open Go.RowKit
theorem rimL_at {T : List Tr} {bays : List Int} {v : Nat} (h : manyB T bays v = true) : ∀ n, v < n → (rimL T bays n)[(rimL T bays v).length]? = some v := by
  intro n
  induction n with
  | zero => intro h; omega
  | succ n ih =>
    intro hv
    rw [rimL_succ]
    by_cases e : v = n
    · subst e
      rw [if_pos h]
      simp
    · have := ih (by omega)
      have hl := (List.getElem?_eq_some_iff.1 this).1
      split
      · rw [List.getElem?_append_left hl]; exact this
      · exact this
theorem mostN_le' {bays : List Int} {n : Nat} (h : BaysOK n bays) : mostN bays ≤ 256 := by
  unfold mostN
  split
  · omega
  · rename_i h0
    have := (h.2 _ (maxOf_law h0).1).2
    omega
theorem touchL_len' (T : List Tr) (bays : List Int) (m a : Nat) : (touchL T bays m a).length ≤ m := by
  unfold touchL
  rw [List.length_map]
  have := List.length_filter_le (fun (b : Nat) => touchB T bays (a : Int) (b : Int)) (List.range m)
  simpa using this
set_option maxRecDepth 100000 in
set_option maxHeartbeats 60000000 in
theorem rimone_any (N : Int) (ao : Option Addr) (cap : Nat) (T : List Tr) (bo : Option Addr) (bcap : Nat) (bays : List Int) (x : Int) (w : World) (hT : TrisAt w ao T) (hTl : T.length ≤ 9223372036854775807) (hB : IntsAt w bo bays) (hBl : bays.length ≤ 9223372036854775807) (hBc : bays.length ≤ bcap) (hx : 0 ≤ x ∧ x < 256) :
    Calls Tryz.prog 6 #[.agg #[.int .i64 N, .slice ao T.length cap], .slice bo bays.length bcap, .int .u8 x] w fun e w' => e = .returned (.bool true) ∧ Below w.heap.size w w' := by
  obtain ⟨i0, hi, hz0, hz1, hz2⟩ := info_parts info3
  obtain ⟨W0, hW0⟩ : ∃ W0, W0 = w.alloc (.cells #[.int .i64 N, .slice ao T.length cap] 24) := ⟨_, rfl⟩
  have hb0 : Below w.heap.size w W0 := by rw [hW0]; exact (Below.refl _ _).alloc (Nat.le_refl _) _
  have hr0 : RowIs W0 w.heap.size 24 [.int .i64 N, .slice ao T.length cap] := by rw [hW0]; exact RowIs.made w 24 [.int .i64 N, .slice ao T.length cap]
  have HT := Lib.hid (hT.mono (Nat.le_refl _) hb0)
  have HB := Lib.hid (hB.mono (Nat.le_refl _) hb0)
  have HRI := Lib.hid (fun (X : World) (h1 : TrisAt X ao T) (h2 : IntsAt X bo bays) => right40 N ao cap T bo bcap bays X h1 h2)
  have HOF := Lib.hid (fun (n : Nat) (b : Option Addr) (bs : List Int) (X : World) (h1 : TrisAt X ao T) (h2 : IntsAt X b bs) (hs : Surf n T) (hok : BaysOK T.length bs) => of40_ok n ao cap T b bs.length bs X h1 h2 hs hok)
  have HTO := Lib.hid (fun (n : Nat) (X : World) (h1 : TrisAt X ao T) (h2 : IntsAt X bo bays) (hs : Surf n T) (hok : BaysOK T.length bays) (hl : T.length ≤ 1000) => touch_ok n ao cap T bo bcap bays X h1 h2 hs hok hl)
  have HCU := Lib.hid (fun (n : Nat) (g : Option Addr) (bs : List Int) (po : Option Addr) (pc : Nat) (X : World) (h1 : TrisAt X ao T) (h2 : TrisAt X po (ptsL n)) (h4 : IntsAt X g bs) (hs : Surf n T) (hok : BaysOK T.length bs) => (cut_ok n ao cap T po pc (ptsL n) none 0 [] g bs.length bs x X h1 h2 (fun e => absurd rfl e) h4 hs hok (ptsL_len n) (.inl rfl) (Nat.le_refl _)).mono fun e w' h => cut_u hs hok h)
  simp only [ptsL_len, List.length_nil] at HCU
  have HSA := Lib.hid (fun (n : Nat) (b : Option Addr) (c : Nat) (X : World) (h1 : TrisAt X b T) (h2 : TrisAt X ao T) (hl : T.length ≤ 100000) => same08 (n : Int) b ao c cap T X hl h1 h2)
  obtain ⟨xb, hxb⟩ : ∃ x, x = w.heap.size := ⟨_, rfl⟩
  obtain ⟨len, hlen⟩ : ∃ l, l = T.length := ⟨_, rfl⟩
  obtain ⟨bl, hbl⟩ : ∃ l, l = bays.length := ⟨_, rfl⟩
  have HOKL := Lib.hid (show BaysOK T.length bays → BaysOK len bays from fun h => by rw [hlen]; exact h)
  rw [← hlen] at hW0 hr0 hTl ⊢
  simp only [← hlen] at HRI HOF HTO HCU HSA
  rw [← hbl] at hBl hBc ⊢
  simp only [← hbl] at HRI HTO
  rw [← hxb] at hr0
  have HL := Lib.hid hlen
  have HBL := Lib.hid hbl
  have HXB := Lib.hid hxb
  have HW0 := Lib.hid hW0
  have HB0 := Lib.hid hb0
  have HR0 := Lib.hid hr0
  obtain ⟨x, rfl⟩ := Int.eq_ofNat_of_zero_le hx.1
  have hx256 : x < 256 := by omega
  clear hT hB hb0 hr0 hW0 hlen hbl hxb hx
  go_enter Tryz.func6, Tryz.ntmps6
  go_upto_region 1 with fail
  rw [← HW0.out, ← HXB.out]
  go_wp2_with fail
  refine (awake40 _).mono ?_
  rintro e w1 ⟨rfl, hb1⟩
  have HB1 := Lib.hid (below_more HB0.out hb1 HB0.out.size)
  have HR1 := Lib.hid (HR0.out.after hb1)
  have HT1 := Lib.hid (HT.out.mono (Nat.le_refl _) hb1)
  have HBY1 := Lib.hid (HB.out.mono (Nat.le_refl _) hb1)
  have c0 := HR1.out.cell (i := 0) rfl
  have c1 := HR1.out.cell (i := 1) rfl
  clear hb1 HR0 HT HB HB0 HW0
  go_wp2_with fail
  refine (HRI.out w1 HT1.out HBY1.out).mono ?_
  rintro e w2 ⟨r, rfl, hsay, hb2⟩
  have HB2 := Lib.hid (below_more HB1.out hb2 HB1.out.size)
  have HR2 := Lib.hid (HR1.out.after hb2)
  have HT2 := Lib.hid (HT1.out.mono (Nat.le_refl _) hb2)
  have HBY2 := Lib.hid (HBY1.out.mono (Nat.le_refl _) hb2)
  have HS := Lib.hid hsay
  clear c0 c1 hb2 hsay HR1 HT1 HBY1 HB1 HRI
  have c0 := HR2.out.cell (i := 0) rfl
  have c1 := HR2.out.cell (i := 1) rfl
  cases r
  · go_wp2
    exact bodyPost_ret (v := .bool true) (by simp [results, Tryz.results6, go_sem]) rfl ⟨rfl, HB2.out⟩
  have hright := HS.out.1 rfl
  obtain ⟨hg, hs, hok⟩ := hright
  have hlen30 : len ≤ 30 := by have := HL.out; unfold grB at hg; simp at hg; omega
  have HSURF0 := Lib.hid hs
  have HOK := Lib.hid hok
  clear hg hs hok HS
  obtain ⟨n, rfl⟩ := Int.eq_ofNat_of_zero_le HSURF0.out.n0
  have HSURF := HSURF0
  clear HSURF0
  have hn : n ≤ 4096 := by have := HSURF.out.n1; omega
  -- one, each
  go_wp2_with (at_make; refine wpList_make_full _ rfl _ _ _ rfl w2.heap.size 3 i0 (.int .i64 0) 1 (by kernel_rfl) hi hz0 hz1 _ _ _ _ len rfl rfl rfl rfl (by rw [hz2]; omega) (by unfold maxLen; omega) (by simp) ?_)
  intro w3 hown hgr
  rw [madeCells_iv] at hown
  have hrow := RowIs.of_owns hown
  have hb3 : Below w2.heap.size w2 w3 := (Below.refl _ _).grown hgr (Nat.le_refl _) (by simp)
  obtain ⟨g1, hg1⟩ : ∃ q, q = w2.heap.size := ⟨_, rfl⟩
  rw [← hg1] at hrow
  have HR3 := Lib.hid (HR2.out.after hb3)
  have HG1 := Lib.hid hrow
  have HB3 := Lib.hid hb3
  have HE1 := Lib.hid hg1
  have hg1s : g1 < w3.heap.size := hrow.lt
  clear hown hgr hrow hb3 c0 c1
  have c0 := HR3.out.cell (i := 0) rfl
  have c1 := HR3.out.cell (i := 1) rfl
  rw [← hg1]
  clear hg1
  go_wp2_with (at_make; refine wpList_make_full _ rfl _ _ _ rfl w3.heap.size 3 i0 (.int .i64 0) 1 (by kernel_rfl) hi hz0 hz1 _ _ _ _ len rfl rfl rfl rfl (by rw [hz2]; omega) (by unfold maxLen; omega) (by simp) ?_)
  intro w4 hown hgr
  rw [madeCells_iv] at hown
  have hrow := RowIs.of_owns hown
  have hb4 : Below w3.heap.size w3 w4 := (Below.refl _ _).grown hgr (Nat.le_refl _) (by simp)
  obtain ⟨g2, hg2⟩ : ∃ q, q = w3.heap.size := ⟨_, rfl⟩
  rw [← hg2] at hrow
  have HG2 := Lib.hid hrow
  have HG14 := Lib.hid (HG1.out.after hb4)
  have HB4 := Lib.hid (show Below w2.heap.size w2 w4 from below_more HB3.out hb4 HB3.out.size)
  have hg12 : g1 < g2 := by omega
  have HE2 := Lib.hid (show w2.heap.size ≤ g2 from by have := HB3.out.size; omega)
  clear hown hgr hrow hb4 c0 c1
  rw [← hg2]
  clear hg2 hg1s HG1 HR3
  go_wp2
  go_loopw [9] (fun i ws => ∃ t : Nat, t ≤ len ∧ i = .int .i64 t ∧ RowIs ws g1 3 (iv (fun k => if k < t then (x : Int) else 0) len) ∧ RowIs ws g2 3 (iv (fun k => if k < t then (k : Int) else 0) len) ∧ Below w2.heap.size w2 ws) (fun i _ => len - (intOf i).toNat)
  case atStart => exact ⟨0, by omega, rfl, by simpa using HG14.out, by simpa using HG2.out, HB4.out⟩
  case round =>
  clear HG14 HG2 HB4 HB3
  obtain ⟨t, ht, rfl, hrow1, hrow2, hb⟩ := hrel
  obtain ⟨X, rfl⟩ : ∃ X : World, X = wr := ⟨_, rfl⟩
  have hbox := HR2.out.after hb
  have c0 := hbox.cell (i := 0) rfl
  have c1 := hbox.cell (i := 1) rfl
  by_cases hlt : t < len
  case pos =>
    have f1 := hrow1.free t
    have f2 := hrow2.free t
    have r1 := hrow1.cell (iv_get (fun k => if k < t then (x : Int) else 0) hlt)
    have r2 := hrow2.cell (iv_get (fun k => if k < t then (k : Int) else 0) hlt)
    have hne : g2 ≠ g1 := by omega
    have hne' : g1 ≠ g2 := by omega
    have s1 := (hrow1.set t (.int .i64 (x : Int))).other (p := ⟨g2, t, none⟩) (by exact hne) (.int .i64 (t : Int))
    have s2 := (hrow2.other (p := ⟨g1, t, none⟩) (by exact hne') (.int .i64 (x : Int))).set t (.int .i64 (t : Int))
    rw [iv_set] at s1 s2
    have e1 : upd (fun k => if k < t then (x : Int) else 0) t (x : Int) = fun k => if k < t + 1 then (x : Int) else 0 := by
      funext k; unfold upd
      by_cases e : k = t
      · subst e; simp
      · by_cases h : k < t
        · have : k < t + 1 := by omega
          simp [e, h, this]
        · have : ¬ k < t + 1 := by omega
          simp [e, h, this]
    have e2 : upd (fun k => if k < t then (k : Int) else 0) t (t : Int) = fun k => if k < t + 1 then (k : Int) else 0 := by
      funext k; unfold upd
      by_cases e : k = t
      · subst e; simp
      · by_cases h : k < t
        · have : k < t + 1 := by omega
          simp [e, h, this]
        · have : ¬ k < t + 1 := by omega
          simp [e, h, this]
    rw [e1] at s1
    rw [e2] at s2
    have S1 := Lib.hid s1
    have S2 := Lib.hid s2
    have HBS := Lib.hid ((hb.setCell (p := ⟨g1, t, none⟩) (by have := HE1.out; show w2.heap.size ≤ g1; omega) (.int .i64 (x : Int))).setCell (p := ⟨g2, t, none⟩) (by have := HE2.out; show w2.heap.size ≤ g2; omega) (.int .i64 (t : Int)))
    have hcv : (x : Int) % 18446744073709551616 = (x : Int) := by omega
    have hwx : IntKind.i64.wrap (x : Int) = (x : Int) := wrapN _ (by omega)
    generalize hq1 : (if t < t then (x : Int) else 0) = q1 at r1
    generalize hq2 : (if t < t then (t : Int) else 0) = q2 at r2
    clear hrow1 hrow2 hb s1 s2 e1 e2 hbox hq1 hq2
    go_wp2
    go_roundw
    case rel => exact ⟨t + 1, by omega, by go_num, S1.out, S2.out, HBS.out⟩
    case measure => simp [intOf]; omega
  case neg =>
  obtain rfl : t = len := by omega
  obtain ⟨bs1, hbs1⟩ : ∃ l, l = il (fun _ => (x : Int)) t := ⟨_, rfl⟩
  obtain ⟨bs2, hbs2⟩ : ∃ l, l = il (fun k => (k : Int)) t := ⟨_, rfl⟩
  have l1 : bs1.length = t := by rw [hbs1]; simp [il]
  have l2 : bs2.length = t := by rw [hbs2]; simp [il]
  have HI1 := Lib.hid (show IntsAt X (some ⟨g1, 0, none⟩) bs1 from by
    have h := hrow1
    rw [iv_congr (h := fun _ => (x : Int)) (fun i hi => by simp [hi])] at h
    rw [hbs1]
    exact h.ints)
  have HI2 := Lib.hid (show IntsAt X (some ⟨g2, 0, none⟩) bs2 from by
    have h := hrow2
    rw [iv_congr (h := fun k => (k : Int)) (fun i hi => by simp [hi])] at h
    rw [hbs2]
    exact h.ints)
  have HA1 := Lib.hid (show ∀ i, i < T.length → I! bs1 i = (x : Int) from fun i hi => by rw [hbs1, il_get _ (by have := HL.out; omega)])
  have HA2 := Lib.hid (show ∀ i, i < T.length → I! bs2 i = (i : Int) from fun i hi => by rw [hbs2, il_get _ (by have := HL.out; omega)])
  have HK1 := Lib.hid (show BaysOK t bs1 from ⟨l1, fun b hb => by rw [hbs1] at hb; simp [il] at hb; obtain ⟨_, -, rfl⟩ := hb; omega⟩)
  have HK2 := Lib.hid (show BaysOK t bs2 from ⟨l2, fun b hb => by
    rw [hbs2] at hb
    unfold il at hb
    obtain ⟨i, hi, rfl⟩ := List.mem_map.1 hb
    have := List.mem_range.1 hi
    omega⟩)
  have HIN := Lib.hid (show (x : Int) ∉ bs1 → t = 0 from fun h => by
    by_cases e : t = 0
    · exact e
    · exact absurd (by rw [hbs1]; exact List.mem_map.2 ⟨0, List.mem_range.2 (by omega), rfl⟩) h)
  have HIN0 := Lib.hid (show (x : Int) ∈ bs1 → 0 < t from fun h => by
    rw [hbs1] at h
    unfold il at h
    obtain ⟨i, hi, -⟩ := List.mem_map.1 h
    have := List.mem_range.1 hi
    omega)
  have HBX := Lib.hid (below_more HB2.out hb HB2.out.size)
  have HRX := Lib.hid (HR2.out.after hb)
  have HTX := Lib.hid (HT2.out.mono (Nat.le_refl _) hb)
  have HYX := Lib.hid (HBY2.out.mono (Nat.le_refl _) hb)
  have HOF1 := Lib.hid (fun (Y : World) (h1 : TrisAt Y ao T) (h2 : IntsAt Y (some ⟨g1, 0, none⟩) bs1) => HOF.out n (some ⟨g1, 0, none⟩) bs1 Y h1 h2 HSURF.out HK1.out)
  have HOF2 := Lib.hid (fun (Y : World) (h1 : TrisAt Y ao T) (h2 : IntsAt Y (some ⟨g2, 0, none⟩) bs2) => HOF.out n (some ⟨g2, 0, none⟩) bs2 Y h1 h2 HSURF.out HK2.out)
  have HRN := Lib.hid (show rimL T bs1 n = [] from rim_one HA1.out n)
  simp only [l1, HRN.out, List.length_nil] at HOF1
  simp only [l2] at HOF2
  have HCU1 := Lib.hid (fun (po : Option Addr) (pc : Nat) (Y : World) (h1 : TrisAt Y ao T) (h2 : TrisAt Y po (ptsL n)) (h4 : IntsAt Y (some ⟨g1, 0, none⟩) bs1) => HCU.out n (some ⟨g1, 0, none⟩) bs1 po pc Y h1 h2 h4 HSURF.out HK1.out)
  simp only [l1] at HCU1
  have HHM := Lib.hid (show ∀ v : Int, manyB T bs2 v = decide (1 < degN T (3 * T.length) v) from many_each HSURF.out HA2.out)
  have HC1 := Lib.hid (show ∀ (L : Nat → Int) (F : List Nat), CutIs T bs1 (x : Int) L F → F.length = n ∧ cutT bs1 (x : Int) L F T.length = T from fun L F h => ⟨one_len h HSURF.out HA1.out, one_cutT h HSURF.out HA1.out⟩)
  clear hrow1 hrow2 hb hbs1 hbs2 l1 l2 hbox ht hlt HBY2 HT2 HR2 HB2 HOF HCU
  go_wp2_with fail
  refine (HOF1.out X HTX.out HI1.out).mono ?_
  rintro e w7 ⟨la, lc, rfl, -, hb7⟩
  have HB7 := Lib.hid (below_more HBX.out hb7 HBX.out.size)
  have HR7 := Lib.hid (HRX.out.after hb7)
  have HT7 := Lib.hid (HTX.out.mono (Nat.le_refl _) hb7)
  have HY7 := Lib.hid (HYX.out.mono (Nat.le_refl _) hb7)
  have HI17 := Lib.hid (HI1.out.mono (Nat.le_refl _) hb7)
  have HI27 := Lib.hid (HI2.out.mono (Nat.le_refl _) hb7)
  clear hb7 c0 c1 HI1 HI2 HYX HTX HRX HBX HOF1
  go_upto_region 12 with fail
  have HK7 := Lib.hid (show ∀ w', Below w7.heap.size w7 w' → w'.cell? ⟨xb, 0, none⟩ = some (.int .i64 (n : Int)) ∧ w'.cell? ⟨xb, 1, none⟩ = some (.slice ao t cap) from fun w' hb => ⟨(HR7.out.after hb).cell (i := 0) rfl, (HR7.out.after hb).cell (i := 1) rfl⟩)
  have HPT := Lib.hid (fun X : World => points40 n X (by omega))
  have HCUT := Lib.hid (show ∀ (po : Option Addr) (pc : Nat) (X : World), TrisAt X po (ptsL n) → Below w7.heap.size w7 X → Calls Tryz.prog 10 #[.agg #[.int .i64 (n : Int), .slice ao t cap, .slice po n pc, .slice none 0 0], .slice (some ⟨g1, 0, none⟩) t t, .int .i64 (x : Int)] X (CutU n T bs1 x X) from fun po pc X h1 h2 =>
    HCU1.out po pc X (HT7.out.mono (Nat.le_refl _) h2) h1 (HI17.out.mono (Nat.le_refl _) h2))
  have hcv : (x : Int) % 18446744073709551616 = (x : Int) := by omega
  have hwx : IntKind.i64.wrap (x : Int) = (x : Int) := wrapN _ (by omega)
  go_cut [12, 13] (fun s7 s8 wc => ∃ (lb : Nat) (er N' : Int) (T' P' : List Tr) (K' V' R' : List Int), s7 = .pointer (some ⟨lb, 0, none⟩) ∧ s8 = .int .i64 er ∧ CutSays n T bs1 x er N' T' V' R' ∧ LocAt wc 0 lb N' T' P' K' V' R' ∧ Below w7.heap.size w7 wc)
  case first =>
    clear HSA HTO HL HBL HXB HOKL HSURF HOK HE1 HE2 HA1 HA2 HK1 HK2 HOF2 HRN HCU1 HHM HC1 HIN HIN0 HB7 HR7 HT7 HY7 HI17 HI27 hi hz0 hz1 hz2 i0 hTl hBl hBc hn
    as_aux_lemma =>
    go_region_held3 (fun w' => w'.cell? ⟨xb, 0, none⟩ = some (.int .i64 (n : Int)) ∧ w'.cell? ⟨xb, 1, none⟩ = some (.slice ao t cap))
      (exact HK7.out _ (by repeat (first | with_reducible exact Below.refl _ _ | with_reducible apply bel_alloc | with_reducible apply bel_drew | (with_reducible refine set6_below ?_ (by first | exact Nat.le_refl _ | exact hbA.size | exact hbB.size | (have q8 := hbA.size; have q9 := hbB.size; simp only [World.size_alloc, show ∀ X : World, X.drew.heap.size = X.heap.size from fun _ => rfl] at q8 q9 ⊢; omega)) _ _ _ _ _ _) | (with_reducible refine bel_step ?_ hbB) | (with_reducible refine bel_step ?_ hbA))))
      (first | (go_at_call 18; (with_reducible refine (HPT.out _).mono ?_); rintro e wA ⟨aA, cA, rfl, hA, hbA⟩; (try (have hY := RowIs.after (show RowIs _ _ 32 [.int .i64 0, .slice none 0 0, .slice none 0 0, .slice none 0 0, .slice none 0 0, .slice none 0 0] from by (repeat (first | exact RowIs.made' _ _ _ _ (by first | rfl | simp) | with_reducible apply RowIs.drew1 | with_reducible apply RowIs.alloc))) hbA))) | (go_at_call 10; (with_reducible refine (HCUT.out _ _ _ (by (repeat (first | exact hA | with_reducible apply tris_drew | with_reducible apply tris_alloc))) (by repeat (first | with_reducible exact Below.refl _ _ | with_reducible apply bel_alloc | with_reducible apply bel_drew | (with_reducible refine bel_step ?_ hbA)))).mono ?_); rintro e wB ⟨er, N1, T1, P1, K1, V1, R1, d1, d2, d3, d4, d5, n1, n2, n3, n4, n5, m1, m2, m3, m4, m5, rfl, hV, hbB⟩; (try (have hZ := RowIs.after (show RowIs _ _ 32 [.int .i64 0, .slice none 0 0, .slice none 0 0, .slice none 0 0, .slice none 0 0, .slice none 0 0] from by (repeat (first | exact hY | exact RowIs.made' _ _ _ _ (by first | rfl | simp) | with_reducible apply RowIs.drew1 | with_reducible apply RowIs.alloc))) hbB; (try simp only [World.size_alloc] at hZ); have q0 := hZ.cell (i := 0) rfl; have q1 := hZ.cell (i := 1) rfl; have q2 := hZ.cell (i := 2) rfl; have q3 := hZ.cell (i := 3) rfl; have q4 := hZ.cell (i := 4) rfl; have q5 := hZ.cell (i := 5) rfl; have qf0 := hZ.free 0; have qf1 := hZ.free 1; have qf2 := hZ.free 2; have qf3 := hZ.free 3; have qf4 := hZ.free 4; have qf5 := hZ.free 5; try simp only [World.size_alloc] at q0 q1 q2 q3 q4 q5 qf0 qf1 qf2 qf3 qf4 qf5))))
    all_goals
      go_wp2
      go_meet
      obtain ⟨nK, nV, nR, hsy, e1, h1, e2, h2, e3, h3, e4, h4, e5, h5⟩ := hV.out
      try (have hZ' : RowIs _ _ _ zrow := hZ)
      first
      | with_reducible exact ⟨_, er, N1, T1, P1, K1, V1, R1, rfl, rfl, hsy, loc_alloc new5 e1 h1 e2 h2 e3 h3 e4 h4 e5 h5, by repeat (first | with_reducible exact Below.refl _ _ | with_reducible apply bel_alloc | with_reducible apply bel_drew | (with_reducible refine bel_step ?_ hbB) | (with_reducible refine bel_step ?_ hbA))⟩
      | with_reducible exact ⟨_, er, N1, T1, P1, K1, V1, R1, rfl, rfl, hsy, loc_store hZ' new5 e1 h1 e2 h2 e3 h3 e4 h4 e5 h5 nK nV nR, set6_below (by repeat (first | with_reducible exact Below.refl _ _ | with_reducible apply bel_alloc | with_reducible apply bel_drew | (with_reducible refine bel_step ?_ hbB) | (with_reducible refine bel_step ?_ hbA))) (by have q1 := hbA.size; have q2 := hbB.size; simp only [World.size_alloc, show ∀ X : World, X.drew.heap.size = X.heap.size from fun _ => rfl] at q1 q2 ⊢; omega) _ _ _ _ _ _⟩
  case rest =>
  obtain ⟨lb, er, N', T', P', K', V', R', rfl, rfl, hsays, hloc, hb8⟩ := hcut
  obtain ⟨W8, rfl⟩ : ∃ X : World, X = wc := ⟨_, rfl⟩
  obtain ⟨a1, a2, a3, a4, a5, k1, k2, k3, k4, k5, l1, l2, l3, l4, l5, hl0, -, e1, h1, e2, h2, e3, h3, e4, h4, e5, h5⟩ := hloc
  have HB8 := Lib.hid (below_more HB7.out hb8 HB7.out.size)
  have HR8 := Lib.hid (HR7.out.after hb8)
  have HT8 := Lib.hid (HT7.out.mono (Nat.le_refl _) hb8)
  have HY8 := Lib.hid (HY7.out.mono (Nat.le_refl _) hb8)
  have HI8 := Lib.hid (HI27.out.mono (Nat.le_refl _) hb8)
  have c0 := HR8.out.cell (i := 0) rfl
  have c1 := HR8.out.cell (i := 1) rfl
  have u0 := hl0.cell (i := 0) rfl
  have u1 := hl0.cell (i := 1) rfl
  have HSA1 := Lib.hid (show (er = 8 ∧ t = 0) ∨ (er = 0 ∧ 0 < t ∧ N' = n ∧ l1 = t ∧ TrisAt W8 a1 T) from by
    rcases hsays with ⟨h, hno⟩ | ⟨h, hin, L, F, hcut, hN, hT', -, -⟩
    · exact .inl ⟨h, HIN.out hno⟩
    · obtain ⟨q1, q2⟩ := HC1.out L F hcut
      rw [q2] at hT'
      rw [hT'] at h1 e1
      exact .inr ⟨h, HIN0.out hin, by rw [hN, q1], by rw [e1, HL.out], h1⟩)
  clear hsays h1 h2 h3 h4 h5 e1 e2 e3 e4 e5 hb8 hl0 HCUT HK7 HPT HCU1 HIN HIN0 HC1 HT7 HY7 HR7 HB7 HI17 HI27
  go_upto_region 13 with fail
  go_cut [107] (fun s107 wc => s107 = .bool false ∧ Below W8.heap.size W8 wc)
  case first =>
    rcases HSA1.out with ⟨rfl, ht0⟩ | ⟨rfl, ht0, rfl, rfl, hTa⟩
    · subst ht0
      go_wp2
      go_meet
      exact ⟨rfl, Below.refl _ _⟩
    · have htp : decide (0 < (l1 : Int)) = true := by simp; omega
      have htp2 : decide ((l1 : Int) > 0) = true := by simp; omega
      have htp3 : decide (0 < l1) = true := by simpa using ht0
      have HSM := Lib.hid (HSA.out n a1 k1 W8 hTa HT8.out (by have := HL.out; omega))
      clear hTa ht0
      go_wp2_with fail
      refine HSM.out.mono ?_
      rintro e w9 ⟨rfl, hb9⟩
      have HB9 := Lib.hid hb9
      clear hb9 HSM
      go_wp2
      go_meet
      exact ⟨rfl, HB9.out⟩
  case rest =>
  obtain ⟨rfl, hbc⟩ := hcut
  obtain ⟨X9, rfl⟩ : ∃ X : World, X = wc := ⟨_, rfl⟩
  have HB9 := Lib.hid (below_more HB8.out hbc HB8.out.size)
  have HR9 := Lib.hid (HR8.out.after hbc)
  have HT9 := Lib.hid (HT8.out.mono (Nat.le_refl _) hbc)
  have HY9 := Lib.hid (HY8.out.mono (Nat.le_refl _) hbc)
  have HI9 := Lib.hid (HI8.out.mono (Nat.le_refl _) hbc)
  clear hbc c0 c1 u0 u1 HSA1 HB8 HR8 HT8 HY8 HI8
  have c0 := HR9.out.cell (i := 0) rfl
  have c1 := HR9.out.cell (i := 1) rfl
  go_wp2_with fail
  refine (HOF2.out X9 HT9.out HI9.out).mono ?_
  rintro e w10 ⟨ma, mc, rfl, hIm, hb10⟩
  have HB10 := Lib.hid (below_more HB9.out hb10 HB9.out.size)
  have HR10 := Lib.hid (HR9.out.after hb10)
  have HT10 := Lib.hid (HT9.out.mono (Nat.le_refl _) hb10)
  have HY10 := Lib.hid (HY9.out.mono (Nat.le_refl _) hb10)
  obtain ⟨rm, hrm⟩ : ∃ l, l = rimL T bs2 n := ⟨_, rfl⟩
  have HAT := Lib.hid (show ∀ v : Nat, v < n → manyB T bs2 (v : Int) = true → rm[(rimL T bs2 v).length]? = some v from fun v hv h => by rw [hrm]; exact rimL_at h n hv)
  have HRS := Lib.hid (fun v => rimL_succ T bs2 v)
  have HRE := Lib.hid (show (rimL T bs2 n).length = rm.length from by rw [hrm])
  have HRZ := Lib.hid (show (rimL T bs2 0).length = 0 from rfl)
  rw [← hrm] at hIm ⊢
  have HI10 := Lib.hid hIm
  obtain ⟨rl, hrl⟩ : ∃ l, l = rm.length := ⟨_, rfl⟩
  have hrln : rl ≤ n := by rw [hrl, hrm]; exact rimL_le T bs2 n
  rw [← hrl] at HRE ⊢
  have HRL := Lib.hid hrl
  obtain ⟨RC, hRC⟩ : ∃ RC : Nat → Nat, RC = fun v => (rimL T bs2 v).length := ⟨_, rfl⟩
  have HC0 := Lib.hid (show RC 0 = 0 from by rw [hRC]; exact HRZ.out)
  have HCN := Lib.hid (show RC n = rl from by rw [hRC]; exact HRE.out)
  have HC1 := Lib.hid (show ∀ v, RC (v + 1) = if manyB T bs2 (v : Int) then RC v + 1 else RC v from fun v => by
    rw [hRC]
    simp only
    rw [HRS.out v]
    split <;> simp)
  have HCA := Lib.hid (show ∀ v : Nat, v < n → manyB T bs2 (v : Int) = true → rm[RC v]? = some v from fun v hv h => by rw [hRC]; exact HAT.out v hv h)
  clear hb10 c0 c1 hIm hrm hrl hRC HAT HRS HRE HRZ HI9 HY9 HT9 HR9 HOF2
  have c0 := HR10.out.cell (i := 0) rfl
  have c1 := HR10.out.cell (i := 1) rfl
  go_wp2_with (at_make; refine wpList_make_full _ rfl _ _ _ rfl w10.heap.size 3 i0 (.int .i64 0) 1 (by kernel_rfl) hi hz0 hz1 _ _ _ _ n rfl rfl rfl rfl (by rw [hz2]; omega) (by unfold maxLen; omega) (by simp) ?_)
  intro w11 hown hgr
  rw [madeCells_iv] at hown
  have hrow := RowIs.of_owns hown
  have HB11 := Lib.hid (show Below w10.heap.size w10 w11 from (Below.refl _ _).grown hgr (Nat.le_refl _) (by simp))
  obtain ⟨gd, hgd⟩ : ∃ q, q = w10.heap.size := ⟨_, rfl⟩
  rw [← hgd] at hrow
  have HGD := Lib.hid hgd
  have HD0 := Lib.hid (show RowIs w11 gd 3 (iv (fun v : Nat => (degN T (3 * 0) (v : Int) : Int)) n) from by
    rw [iv_congr (h := fun v : Nat => (degN T (3 * 0) (v : Int) : Int)) (fun i hi => by simp [degN])] at hrow
    exact hrow)
  have HVIN := Lib.hid HSURF.out.vin
  clear hown hgr hrow c0 c1
  rw [← hgd]
  clear hgd
  go_wp2
  go_loopw [17] (fun i ws => ∃ k : Nat, k ≤ t ∧ i = .int .i64 k ∧ RowIs ws gd 3 (iv (fun v : Nat => (degN T (3 * k) (v : Int) : Int)) n) ∧ Below w10.heap.size w10 ws) (fun i _ => t - (intOf i).toNat)
  case atStart => exact ⟨0, by omega, rfl, HD0.out, HB11.out⟩
  case round =>
  clear HD0 HB11
  obtain ⟨k, hk, rfl, hrow, hb⟩ := hrel
  obtain ⟨X, rfl⟩ : ∃ X : World, X = wr := ⟨_, rfl⟩
  have HX := Lib.hid hb
  have HD := Lib.hid hrow
  have hbox := HR10.out.after hb
  have c0 := hbox.cell (i := 0) rfl
  have c1 := hbox.cell (i := 1) rfl
  clear hrow hb hbox
  by_cases hkt : k < t
  case pos =>
    go_wp2
    clear c0 c1
    go_loopw [18] (fun i ws => ∃ j : Nat, j ≤ 3 ∧ i = .int .i64 j ∧ RowIs ws gd 3 (iv (fun v : Nat => (degN T (3 * k + j) (v : Int) : Int)) n) ∧ Below w10.heap.size w10 ws) (fun i _ => 3 - (intOf i).toNat)
    case atStart => exact ⟨0, by omega, rfl, HD.out, HX.out⟩
    case round =>
    clear HD HX
    obtain ⟨j, hj, rfl, hrow, hb⟩ := hrel
    obtain ⟨Y, rfl⟩ : ∃ X : World, X = wr := ⟨_, rfl⟩
    have hbox := HR10.out.after hb
    have c0 := hbox.cell (i := 0) rfl
    have c1 := hbox.cell (i := 1) rfl
    by_cases hj3 : j < 3
    case neg =>
      obtain rfl : j = 3 := by omega
      have HD := Lib.hid (show RowIs Y gd 3 (iv (fun v : Nat => (degN T (3 * (k + 1)) (v : Int) : Int)) n) from by
        rw [show 3 * (k + 1) = 3 * k + 3 by omega]; exact hrow)
      have HX := Lib.hid hb
      clear hrow hb hbox
      go_wp2
      go_roundw
      case rel => exact ⟨k + 1, by omega, by go_num, HD.out, HX.out⟩
      case measure => simp [intOf]; omega
    case pos =>
    have hkT : k < T.length := by have := HL.out; omega
    obtain ⟨b, off, hae, hcv, -⟩ := (HT10.out.mono (Nat.le_refl _) hb).at (i := k) (j := j) hkT hj3
    subst hae
    obtain ⟨u, hu, hun⟩ : ∃ u : Nat, tg (T! T k) j = u ∧ u < n := by
      have := HVIN.out k hkT j
      exact ⟨(tg (T! T k) j).toNat, by omega, by omega⟩
    rw [hu] at hcv
    have hdc := hrow.cell (iv_get (fun v : Nat => (degN T (3 * k + j) (v : Int) : Int)) hun)
    have hdf := hrow.free u
    have hdl := degN_le T (3 * k + j) (u : Int)
    have hset := hrow.set u (.int .i64 ((degN T (3 * k + j) (u : Int) : Int) + 1))
    rw [iv_set, degN_step (by rw [vt3 T k hj3, hu])] at hset
    have HSET := Lib.hid hset
    have HXS := Lib.hid (hb.setCell (p := ⟨gd, u, none⟩) (by have := HGD.out; show w10.heap.size ≤ gd; omega) (.int .i64 ((degN T (3 * k + j) (u : Int) : Int) + 1)))
    obtain ⟨dv, hdv⟩ : ∃ q, q = degN T (3 * k + j) (u : Int) := ⟨_, rfl⟩
    simp only [← hdv] at hdc HSET HXS hdl
    clear hrow hb hbox hset hdv hu
    go_wp2
    go_roundw
    case rel => exact ⟨j + 1, by omega, by go_num, HSET.out, HXS.out⟩
    case measure => simp [intOf]; omega
  case neg =>
  obtain rfl : k = t := by omega
  have HDD := Lib.hid (show ∀ v : Nat, manyB T bs2 (v : Int) = decide (1 < degN T (3 * k) (v : Int)) from fun v => by rw [HHM.out, HL.out])
  go_wp2
  clear c0 c1
  go_loopw [19, 20] (fun q i ws => ∃ v : Nat, v ≤ n ∧ i = .int .i64 v ∧ q = .int .i64 (RC v : Nat) ∧ ws = X) (fun _ i _ => n - (intOf i).toNat)
  case atStart => exact ⟨0, by omega, rfl, by rw [HC0.out]; rfl, rfl⟩
  case round =>
  obtain ⟨v, hv, rfl, rfl, rfl⟩ := hrel
  obtain ⟨X, rfl⟩ : ∃ Y : World, Y = wr := ⟨_, rfl⟩
  have hbox := HR10.out.after HX.out
  have c0 := hbox.cell (i := 0) rfl
  have c1 := hbox.cell (i := 1) rfl
  clear hbox
  by_cases hvn : v < n
  case pos =>
    have hdc := HD.out.cell (iv_get (fun v : Nat => (degN T (3 * k) (v : Int) : Int)) hvn)
    have hmd := HDD.out v
    obtain ⟨dv, hdv⟩ : ∃ q, q = degN T (3 * k) (v : Int) := ⟨_, rfl⟩
    rw [← hdv] at hdc hmd
    have hcv := HC1.out v
    obtain ⟨rv, hrv⟩ : ∃ q, q = RC v := ⟨_, rfl⟩
    rw [← hrv] at hcv ⊢
    by_cases hd1 : 1 < dv
    · have d0 : decide ((dv : Int) > 1) = true := by simp; omega
      have d1 : decide (1 < (dv : Int)) = true := by simp; omega
      have d2 : decide (1 < dv) = true := by simpa using hd1
      rw [d2] at hmd
      have hat := HCA.out v hvn hmd
      rw [hmd] at hcv
      simp only [if_true] at hcv
      have HCV := Lib.hid hcv
      rw [← hrv] at hat
      have hrvl : rv < rl := by have := (List.getElem?_eq_some_iff.1 hat).1; have := HRL.out; omega
      obtain ⟨mb, moff, q, hE, hq, hqc, -, -⟩ := HI10.out.get (Nat.le_refl _) HX.out (i := rv) (by rw [List.length_map]; have := HRL.out; omega)
      subst hE
      have hqv : q = (v : Int) := by rw [← hq.out]; exact nl_get (F := rm) hat
      subst hqv
      have d3 : decide ((rv : Int) ≥ (rl : Int)) = false := by simp; omega
      have d4 : decide ((rl : Int) ≤ (rv : Int)) = false := by simp; omega
      have d5 : ((v : Int) != (v : Int)) = false := by simp
      clear hat hdv hrv hcv hmd hq
      go_wp2
      go_roundw
      case rel => exact ⟨v + 1, by omega, by go_num, by rw [HCV.out]; go_num, by trivial⟩
      case measure => simp [intOf]; omega
    · have d0 : decide ((dv : Int) > 1) = false := by simp; omega
      have d1 : decide (1 < (dv : Int)) = false := by simp; omega
      have d2 : decide (1 < dv) = false := by simpa using hd1
      rw [d2] at hmd
      rw [hmd] at hcv
      simp only [Bool.false_eq_true, if_false] at hcv
      have HCV := Lib.hid hcv
      clear hdv hrv hcv hmd
      go_wp2
      go_roundw
      case rel => exact ⟨v + 1, by omega, by go_num, by rw [HCV.out], by trivial⟩
      case measure => simp [intOf]; omega
  case neg =>
  obtain rfl : v = n := by omega
  rw [HCN.out]
  have HB12 := Lib.hid (below_more HB10.out HX.out HB10.out.size)
  have HR12 := Lib.hid (HR10.out.after HX.out)
  have HTO1 := Lib.hid (HTO.out v X (HT10.out.mono (Nat.le_refl _) HX.out) (HY10.out.mono (Nat.le_refl _) HX.out) HSURF.out (HOKL.out HOK.out) (by omega))
  have HMM := Lib.hid (mostN_le' HOK.out)
  clear HX HD HDD HCA HC1 HC0 HI10 HT10 HY10 HR10 HB10 HTO
  go_wp2_with fail
  refine HTO1.out.mono ?_
  rintro e w13 ⟨ta, tc, rfl, hM, hb13⟩
  have HB13 := Lib.hid (below_more HB12.out hb13 HB12.out.size)
  obtain ⟨m, hm⟩ : ∃ q, q = mostN bays := ⟨_, rfl⟩
  have hm256 : m ≤ 256 := by rw [hm]; exact HMM.out
  rw [← hm] at hM ⊢
  have HM := Lib.hid hM
  have HSYM := Lib.hid (show ∀ a b : Int, touchB T bays a b = true → touchB T bays b a = true from fun a b h => touch_symm HSURF.out h)
  clear hb13 c0 c1 hM hm HTO1
  go_wp2
  go_loopw [23] (fun i ws => ∃ a : Nat, a ≤ m ∧ i = .int .i64 a ∧ ws = w13) (fun i _ => m - (intOf i).toNat)
  case atStart => exact ⟨0, by omega, rfl, rfl⟩
  case round =>
  obtain ⟨a, ha, rfl, rfl⟩ := hrel
  obtain ⟨w13, rfl⟩ : ∃ Y : World, Y = wr := ⟨_, rfl⟩
  by_cases ham : a < m
  case neg =>
    obtain rfl : a = m := by omega
    go_wp2
    exact bodyPost_ret (v := .bool true) (by simp [results, Tryz.results6, go_sem]) rfl ⟨rfl, HB13.out⟩
  case pos =>
  obtain ⟨tb, toff, rfl, htb, htc⟩ := HM.out (by omega)
  obtain ⟨ra, rc, hrc, hrI⟩ := htc a ham
  have HTC := Lib.hid htc
  have HRI2 := Lib.hid hrI
  obtain ⟨la2, hla2⟩ : ∃ l, l = touchL T bays m a := ⟨_, rfl⟩
  rw [← hla2] at hrc HRI2
  have HMEM := Lib.hid (show ∀ i, i < la2.length → 0 ≤ I! la2 i ∧ I! la2 i < m ∧ touchB T bays (a : Int) (I! la2 i) = true from fun i hi => by
    have h1 := I!_mem (xs := la2) (i := i) hi
    rw [hla2] at h1 ⊢
    exact touchL_mem.1 h1)
  obtain ⟨ll, hll⟩ : ∃ l, l = la2.length := ⟨_, rfl⟩
  have hll256 : ll ≤ 256 := by rw [hll, hla2]; have := touchL_len' T bays m a; omega
  rw [← hll] at hrc
  have HLL := Lib.hid hll
  clear htc hrI hla2 hll
  go_wp2
  clear hrc
  go_loopw [194] (fun i ws => ∃ q : Nat, q ≤ ll ∧ i = .int .i64 q ∧ ws = w13) (fun i _ => ll - (intOf i).toNat)
  case atStart => exact ⟨0, by omega, rfl, rfl⟩
  case round =>
  obtain ⟨q, hq, rfl, rfl⟩ := hrel
  obtain ⟨w13, rfl⟩ : ∃ Y : World, Y = wr := ⟨_, rfl⟩
  by_cases hql : q < ll
  case neg =>
    obtain rfl : q = ll := by omega
    go_wp2
    go_roundw
    case rel => exact ⟨a + 1, by omega, by go_num, by trivial⟩
    case measure => simp [intOf]; omega
  case pos =>
  obtain ⟨pb, poff, b, hE, hbv, hbc, -, -⟩ := HRI2.out.get (Nat.le_refl _) (Below.refl _ _) (i := q) (by rw [← HLL.out]; exact hql)
  subst hE
  obtain ⟨hb0', hbm, hbt⟩ := HMEM.out q (by rw [← HLL.out]; exact hql)
  rw [hbv.out] at hb0' hbm hbt
  obtain ⟨b, rfl⟩ := Int.eq_ofNat_of_zero_le hb0'
  have hbm' : b < m := by omega
  obtain ⟨rb, rd, hrb, hrJ⟩ := HTC.out b hbm'
  have hba := HSYM.out _ _ hbt
  have hane : (a : Int) ≠ (b : Int) := (touchB_iff.1 hbt).1
  obtain ⟨lb2, hlb2⟩ : ∃ l, l = touchL T bays m b := ⟨_, rfl⟩
  have HINB := Lib.hid (show ((a : Int)) ∈ lb2 from by rw [hlb2]; exact touchL_mem.2 ⟨by omega, by omega, hba⟩)
  obtain ⟨ls, hls⟩ : ∃ l, l = lb2.length := ⟨_, rfl⟩
  have hls256 : ls ≤ 256 := by rw [hls, hlb2]; have := touchL_len' T bays m b; omega
  rw [← hlb2, ← hls] at hrb
  rw [← hlb2] at hrJ
  have HRJ := Lib.hid hrJ
  have HLS := Lib.hid hls
  have hane2 : ((a : Int) == (b : Int)) = false := by simpa using hane
  have hane3 : (a == b) = false := by simp; omega
  clear hbv hb0' hbm hbt hba hrJ hlb2 hls hane
  go_wp2
  clear hrb hbc
  go_loopw [26, 203] (fun u i ws => ∃ s : Nat, s ≤ ls ∧ i = .int .i64 s ∧ u = .bool (decide ((a : Int) ∈ lb2.take s)) ∧ ws = w13) (fun _ i _ => ls - (intOf i).toNat)
  case atStart => exact ⟨0, by omega, rfl, by simp, rfl⟩
  case round =>
  obtain ⟨s, hs, rfl, rfl, rfl⟩ := hrel
  obtain ⟨w13, rfl⟩ : ∃ Y : World, Y = wr := ⟨_, rfl⟩
  by_cases hsl : s < ls
  case neg =>
    obtain rfl : s = ls := by omega
    have hall : decide ((a : Int) ∈ lb2.take s) = true := by
      rw [HLS.out, List.take_length]; simpa using HINB.out
    rw [hall]
    clear hall
    go_wp2
    go_roundw
    case rel => exact ⟨q + 1, by omega, by go_num, by trivial⟩
    case measure => simp [intOf]; omega
  case pos =>
  obtain ⟨sb, soff, c, hE, hcv, hcc, -, -⟩ := HRJ.out.get (Nat.le_refl _) (Below.refl _ _) (i := s) (by rw [← HLS.out]; exact hsl)
  subst hE
  have hnext : decide ((a : Int) ∈ lb2.take (s + 1)) = (decide ((a : Int) ∈ lb2.take s) || (c == (a : Int))) := by
    have e : lb2.take (s + 1) = lb2.take s ++ [c] := by rw [List.take_add_one, I!_get (by rw [← HLS.out]; exact hsl), hcv.out]; rfl
    rw [e]
    by_cases h1 : (a : Int) ∈ lb2.take s
    · simp [h1]
    · by_cases h2 : c = (a : Int)
      · simp [h2]
      · have h3 : ¬ (a : Int) = c := fun h => h2 h.symm
        simp [h1, h2, h3]
  obtain ⟨t0, ht0⟩ : ∃ q, q = decide ((a : Int) ∈ lb2.take s) := ⟨_, rfl⟩
  rw [← ht0] at hnext ⊢
  obtain ⟨t1, ht1⟩ : ∃ q, q = (c == (a : Int)) := ⟨_, rfl⟩
  rw [← ht1] at hnext
  have hca : (c == (a : Int)) = t1 := ht1.symm
  clear ht0 hcv ht1
  cases t0
  · have HNX := Lib.hid (show decide ((a : Int) ∈ lb2.take (s + 1)) = t1 from by rw [hnext]; rfl)
    clear hnext
    go_wp2
    go_roundw
    case rel => exact ⟨s + 1, by omega, by go_num, by rw [HNX.out], by trivial⟩
    case measure => simp [intOf]; omega
  · have HNX := Lib.hid (show decide ((a : Int) ∈ lb2.take (s + 1)) = true from by rw [hnext]; rfl)
    clear hnext
    go_wp2
    go_roundw
    case rel => exact ⟨s + 1, by omega, by go_num, by rw [HNX.out], by trivial⟩
    case measure => simp [intOf]; omega
end Go.Proofs.YtknioobpoieohaaGreat

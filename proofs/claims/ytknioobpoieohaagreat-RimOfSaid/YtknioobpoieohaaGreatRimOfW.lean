/- gypsumlaw40.RimOf: the walk. -/
import Derived.Test.YtknioobpoieohaaGreatRefTouch
import Derived.Test.YtknioobpoieohaaGreatRefOf40
import Derived.Test.YtknioobpoieohaaGreatOfAny
import Derived.Test.YtknioobpoieohaaGreatAwake40
namespace Go.Proofs.YtknioobpoieohaaGreat
set_option linter.unusedVariables false
set_option linter.unusedSimpArgs false
open Go.RowKit
theorem mostN_le {bays : List Int} {n : Nat} (h : BaysOK n bays) : mostN bays ≤ 256 := by
  unfold mostN
  split
  · omega
  · rename_i h0
    have := (h.2 _ (maxOf_law h0).1).2
    omega
theorem touchL_len (T : List Tr) (bays : List Int) (m a : Nat) : (touchL T bays m a).length ≤ m := by
  rw [← tcN_done, List.length_map]
  exact tcN_le T bays a m
set_option maxRecDepth 100000 in
set_option maxHeartbeats 4000000 in
theorem rimof_any (N : Int) (ao : Option Addr) (cap : Nat) (T : List Tr) (bo : Option Addr) (bcap : Nat) (bays : List Int) (w : World) (hT : TrisAt w ao T) (hTl : T.length ≤ 9223372036854775807) (hB : IntsAt w bo bays) (hBl : bays.length ≤ 9223372036854775807) (hBc : bays.length ≤ bcap) :
    Calls Tryz.prog 5 #[.agg #[.int .i64 N, .slice ao T.length cap], .slice bo bays.length bcap] w fun e w' => e = .returned (.bool true) ∧ Below w.heap.size w w' := by
  obtain ⟨W0, hW0⟩ : ∃ W0, W0 = w.alloc (.cells #[.int .i64 N, .slice ao T.length cap] 24) := ⟨_, rfl⟩
  have hb0 : Below w.heap.size w W0 := by rw [hW0]; exact (Below.refl _ _).alloc (Nat.le_refl _) _
  have hr0 : RowIs W0 w.heap.size 24 [.int .i64 N, .slice ao T.length cap] := by rw [hW0]; exact RowIs.made w 24 [.int .i64 N, .slice ao T.length cap]
  have HT := Lib.hid (hT.mono (Nat.le_refl _) hb0)
  have HB := Lib.hid (hB.mono (Nat.le_refl _) hb0)
  have HG := Lib.hid (fun X : World => great40 N ao T.length cap bo bays.length bcap X)
  have HOF := Lib.hid (fun (X : World) (h1 : TrisAt X ao T) (h2 : IntsAt X bo bays) (n : Nat) (hn : N = n) (hs : Surf n T) (hok : BaysOK T.length bays) => of40_ok n ao cap T bo bcap bays X h1 h2 hs hok)
  have HTO := Lib.hid (fun (X : World) (h1 : TrisAt X ao T) (h2 : IntsAt X bo bays) (n : Nat) (hn : N = n) (hs : Surf n T) (hok : BaysOK T.length bays) (hl : T.length ≤ 1000) => touch_ok n ao cap T bo bcap bays X h1 h2 hs hok hl)
  have HRO := Lib.hid (fun (X : World) (h1 : TrisAt X ao T) (h2 : IntsAt X bo bays) (n : Nat) (hn : n ≤ 10000) (hl : T.length ≤ 1000) (hok : BaysOK T.length bays) => refof40 n ao cap T bo bcap bays X h1 h2 hn hl hok)
  have HRT := Lib.hid (fun (X : World) (h1 : TrisAt X ao T) (h2 : IntsAt X bo bays) (n : Nat) (hs : Surf n T) (hok : BaysOK T.length bays) (hl : T.length ≤ 1000) => reftouch40 n ao cap T bo bcap bays X h1 h2 hs hok hl)
  have HNO := Lib.hid (fun (X : World) (h1 : TrisAt X ao T) (h2 : IntsAt X bo bays) (k : Int) (hk : k ≠ 0) (h : NoTab ao N T.length cap (.slice bo bays.length bcap) T bo bays k) => of_none N ao bo T.length cap bays.length bcap T bays k hk X h1 h2 h)
  have HNT := Lib.hid (fun (X : World) (h1 : TrisAt X ao T) (h2 : IntsAt X bo bays) (k : Int) (hk : k ≠ 0) (h : NoTab ao N T.length cap (.slice bo bays.length bcap) T bo bays k) => touch_none N ao bo T.length cap bays.length bcap T bays k hk X h1 h2 h)
  have HN1 := Lib.hid (fun (hl : T.length ≤ 8192) (hs : ¬ Surf N T) => notab_surf N ao cap T bo (.slice bo bays.length bcap) bays hl hs)
  have HN2 := Lib.hid (fun (hl : bays.length ≤ 100000) (hs : Surf N T) (hok : ¬ BaysOK T.length bays) => notab_bays N ao cap T bo bcap bays hl hs hok)
  have HIS := Lib.hid (fun (X : World) (h : TrisAt X ao T) (hl : T.length ≤ 10000) => is15 N ao cap T X h hl)
  have HRI := Lib.hid (fun (X : World) (h : IntsAt X bo bays) (hl : bays.length ≤ 100000) => right40r T.length bo bcap bays X h hl)
  obtain ⟨len, hlen⟩ : ∃ l, l = T.length := ⟨_, rfl⟩
  obtain ⟨bl, hbl⟩ : ∃ l, l = bays.length := ⟨_, rfl⟩
  have HL := Lib.hid hlen
  have HBL := Lib.hid hbl
  simp only [← hlen, ← hbl] at HG HOF HTO HRO HRT HNO HNT HN1 HN2 HIS HRI hW0 hr0 hTl hBl hBc
  rw [← hlen, ← hbl]
  obtain ⟨xb, hxb⟩ : ∃ x, x = w.heap.size := ⟨_, rfl⟩
  rw [← hxb] at hr0
  have HXB := Lib.hid hxb
  have HW0 := Lib.hid hW0
  have HB0 := Lib.hid hb0
  have HR0 := Lib.hid hr0
  clear hT hB hb0 hr0 hW0 hlen hbl hxb
  go_enter Tryz.func5, Tryz.ntmps5
  go_upto_region 1 with fail
  rw [← HW0.out, ← HXB.out]
  go_wp2_with fail
  refine (awake40 _).mono ?_
  rintro e w1 ⟨rfl, hb1⟩
  have HB1 := Lib.hid (below_more HB0.out hb1 HB0.out.size)
  have HR1 := Lib.hid (HR0.out.after hb1)
  have HT1 := Lib.hid (HT.out.mono (Nat.le_refl _) hb1)
  have HY1 := Lib.hid (HB.out.mono (Nat.le_refl _) hb1)
  have c0 := HR1.out.cell (i := 0) rfl
  have c1 := HR1.out.cell (i := 1) rfl
  clear hb1 HR0 HT HB HB0 HW0
  go_wp2_with fail
  refine (HG.out _).mono ?_
  rintro e w2 ⟨rfl, hb2⟩
  have HB2 := Lib.hid (below_more HB1.out hb2 HB1.out.size)
  have HR2 := Lib.hid (HR1.out.after hb2)
  have HT2 := Lib.hid (HT1.out.mono (Nat.le_refl _) hb2)
  have HY2 := Lib.hid (HY1.out.mono (Nat.le_refl _) hb2)
  clear hb2 c0 c1 HR1 HT1 HY1 HB1
  cases hg : grB N len bl
  case true =>
    clear hg
    go_wp2
    exact bodyPost_ret (v := .bool true) (by simp [results, Tryz.results5, go_sem]) rfl ⟨rfl, HB2.out⟩
  case false =>
  have hlen30 : len ≤ 30 := by unfold grB at hg; simp at hg; omega
  have hN100 : N ≤ 100 := by unfold grB at hg; simp at hg; omega
  have hbl60 : bl ≤ 60 := by unfold grB at hg; simp at hg; omega
  clear hg
  go_wp2
  go_loopw [5] (fun i ws => ∃ k : Nat, k ≤ bl ∧ i = .int .i64 k ∧ ws = w2) (fun i _ => bl - (intOf i).toNat)
  case atStart => exact ⟨0, by omega, rfl, rfl⟩
  case round =>
  obtain ⟨k, hk, rfl, rfl⟩ := hrel
  obtain ⟨w2, rfl⟩ : ∃ X : World, X = wr := ⟨_, rfl⟩
  by_cases hkb : k < bl
  case pos =>
    obtain ⟨b, off, x, hE, hx, hc, -, -⟩ := HY2.out.get (Nat.le_refl _) (Below.refl _ _) (i := k) (by rw [← HBL.out]; exact hkb)
    subst hE
    by_cases h0 : 12 < x
    · have d0 : decide (x > 12) = true := by simpa using h0
      have d1 : decide (12 < x) = true := by simpa using h0
      by_cases h1 : x < 256
      · have d2 : decide (x < 256) = true := by simpa using h1
        clear h0 h1
        go_wp2
        exact bodyPost_ret (v := .bool true) (by simp [results, Tryz.results5, go_sem]) rfl ⟨rfl, HB2.out⟩
      · have d2 : decide (x < 256) = false := by simpa using h1
        clear h0 h1
        go_wp2
        go_roundw
        case rel => exact ⟨k + 1, by omega, by go_num, by trivial⟩
        case measure => simp [intOf]; omega
    · have d0 : decide (x > 12) = false := by simpa using h0
      have d1 : decide (12 < x) = false := by simpa using h0
      clear h0
      go_wp2
      go_roundw
      case rel => exact ⟨k + 1, by omega, by go_num, by trivial⟩
      case measure => simp [intOf]; omega
  case neg =>
  obtain rfl : k = bl := by omega
  clear hkb hk
  have c0 := HR2.out.cell (i := 0) rfl
  have c1 := HR2.out.cell (i := 1) rfl
  by_cases hs : Surf N T
  case neg =>
    have HNS := Lib.hid hs
    have HNOT := Lib.hid (HN1.out (by omega) hs)
    clear hs
    go_wp2_with fail
    refine (HNO.out w2 HT2.out HY2.out 11 (by decide) HNOT.out).mono ?_
    rintro e w3 ⟨rfl, hb3⟩
    have HB3 := Lib.hid (below_more HB2.out hb3 HB2.out.size)
    have HR3 := Lib.hid (HR2.out.after hb3)
    have HT3 := Lib.hid (HT2.out.mono (Nat.le_refl _) hb3)
    have HY3 := Lib.hid (HY2.out.mono (Nat.le_refl _) hb3)
    clear hb3 c0 c1
    have c0 := HR3.out.cell (i := 0) rfl
    have c1 := HR3.out.cell (i := 1) rfl
    go_wp2_with fail
    refine (HNT.out w3 HT3.out HY3.out 11 (by decide) HNOT.out).mono ?_
    rintro e w4 ⟨rfl, hb4⟩
    have HB4 := Lib.hid (below_more HB3.out hb4 HB3.out.size)
    have HR4 := Lib.hid (HR3.out.after hb4)
    have HT4 := Lib.hid (HT3.out.mono (Nat.le_refl _) hb4)
    clear hb4 c0 c1
    have c0 := HR4.out.cell (i := 0) rfl
    have c1 := HR4.out.cell (i := 1) rfl
    go_wp2_with fail
    refine (HIS.out w4 HT4.out (by omega)).mono ?_
    rintro e w5 ⟨r, rfl, hr, hb5⟩
    obtain rfl : r = false := by
      cases r
      · rfl
      · exact absurd (hr.1 rfl) HNS.out
    have HB5 := Lib.hid (below_more HB4.out hb5 HB4.out.size)
    clear hb5 c0 c1 hr
    go_wp2
    exact bodyPost_ret (v := .bool true) (by simp [results, Tryz.results5, go_sem]) rfl ⟨rfl, HB5.out⟩
  case pos =>
  have HS := Lib.hid hs
  obtain ⟨n, rfl⟩ := Int.eq_ofNat_of_zero_le hs.n0
  have hn4 : n ≤ 4096 := by have := hs.n1; omega
  clear hs
  by_cases hok : BaysOK T.length bays
  case neg =>
    have HNK := Lib.hid hok
    have HNOT := Lib.hid (HN2.out (by omega) HS.out (by have := HL.out; rw [this]; exact hok))
    clear hok
    go_wp2_with fail
    refine (HNO.out w2 HT2.out HY2.out 1 (by decide) HNOT.out).mono ?_
    rintro e w3 ⟨rfl, hb3⟩
    have HB3 := Lib.hid (below_more HB2.out hb3 HB2.out.size)
    have HR3 := Lib.hid (HR2.out.after hb3)
    have HT3 := Lib.hid (HT2.out.mono (Nat.le_refl _) hb3)
    have HY3 := Lib.hid (HY2.out.mono (Nat.le_refl _) hb3)
    clear hb3 c0 c1
    have c0 := HR3.out.cell (i := 0) rfl
    have c1 := HR3.out.cell (i := 1) rfl
    go_wp2_with fail
    refine (HNT.out w3 HT3.out HY3.out 1 (by decide) HNOT.out).mono ?_
    rintro e w4 ⟨rfl, hb4⟩
    have HB4 := Lib.hid (below_more HB3.out hb4 HB3.out.size)
    have HR4 := Lib.hid (HR3.out.after hb4)
    have HT4 := Lib.hid (HT3.out.mono (Nat.le_refl _) hb4)
    have HY4 := Lib.hid (HY3.out.mono (Nat.le_refl _) hb4)
    clear hb4 c0 c1
    have c0 := HR4.out.cell (i := 0) rfl
    have c1 := HR4.out.cell (i := 1) rfl
    go_wp2_with fail
    refine (HIS.out w4 HT4.out (by omega)).mono ?_
    rintro e w5 ⟨r, rfl, hr, hb5⟩
    obtain rfl : r = true := hr.2 HS.out
    have HB5 := Lib.hid (below_more HB4.out hb5 HB4.out.size)
    have HR5 := Lib.hid (HR4.out.after hb5)
    have HY5 := Lib.hid (HY4.out.mono (Nat.le_refl _) hb5)
    clear hb5 c0 c1 hr
    have c0 := HR5.out.cell (i := 0) rfl
    have c1 := HR5.out.cell (i := 1) rfl
    go_wp2_with fail
    refine (HRI.out w5 HY5.out (by omega)).mono ?_
    rintro e w6 ⟨r, rfl, hr, hb6⟩
    obtain rfl : r = false := by
      cases r
      · rfl
      · exact absurd (hr.1 rfl) (by have := HL.out; rw [this]; exact HNK.out)
    have HB6 := Lib.hid (below_more HB5.out hb6 HB5.out.size)
    clear hb6 c0 c1 hr
    go_wp2
    exact bodyPost_ret (v := .bool true) (by simp [results, Tryz.results5, go_sem]) rfl ⟨rfl, HB6.out⟩
  case pos =>
  have HOK := Lib.hid hok
  have HOK' := Lib.hid (show BaysOK len bays from by have := HL.out; rw [this]; exact hok)
  have HMO := Lib.hid (mostN_le hok)
  have hrl := rimL_le T bays n
  clear hok
  go_wp2_with fail
  refine (HOF.out w2 HT2.out HY2.out n rfl HS.out HOK'.out).mono ?_
  rintro e w3 ⟨la, lc, rfl, hIl, hb3⟩
  have HB3 := Lib.hid (below_more HB2.out hb3 HB2.out.size)
  have HR3 := Lib.hid (HR2.out.after hb3)
  have HT3 := Lib.hid (HT2.out.mono (Nat.le_refl _) hb3)
  have HY3 := Lib.hid (HY2.out.mono (Nat.le_refl _) hb3)
  have HI3 := Lib.hid hIl
  clear hb3 c0 c1 hIl
  have c0 := HR3.out.cell (i := 0) rfl
  have c1 := HR3.out.cell (i := 1) rfl
  go_wp2_with fail
  refine (HTO.out w3 HT3.out HY3.out n rfl HS.out HOK'.out (by omega)).mono ?_
  rintro e w4 ⟨ta, tc, rfl, hM, hb4⟩
  have HB4 := Lib.hid (below_more HB3.out hb4 HB3.out.size)
  have HR4 := Lib.hid (HR3.out.after hb4)
  have HT4 := Lib.hid (HT3.out.mono (Nat.le_refl _) hb4)
  have HY4 := Lib.hid (HY3.out.mono (Nat.le_refl _) hb4)
  have HI4 := Lib.hid (HI3.out.mono (Nat.le_refl _) hb4)
  have HM4 := Lib.hid hM
  obtain ⟨rl, hrle⟩ : ∃ q, q = (rimL T bays n).length := ⟨_, rfl⟩
  obtain ⟨m, hm⟩ : ∃ q, q = mostN bays := ⟨_, rfl⟩
  rw [← hrle] at hrl ⊢
  rw [← hm] at HM4 HMO ⊢
  have HRLE := Lib.hid hrle
  have HMM := Lib.hid hm
  clear hb4 c0 c1 hM hrle hm
  have c0 := HR4.out.cell (i := 0) rfl
  have c1 := HR4.out.cell (i := 1) rfl
  go_wp2_with fail
  refine (HIS.out w4 HT4.out (by omega)).mono ?_
  rintro e w5 ⟨r, rfl, hr, hb5⟩
  obtain rfl : r = true := hr.2 HS.out
  have HB5 := Lib.hid (below_more HB4.out hb5 HB4.out.size)
  have HR5 := Lib.hid (HR4.out.after hb5)
  have HT5 := Lib.hid (HT4.out.mono (Nat.le_refl _) hb5)
  have HY5 := Lib.hid (HY4.out.mono (Nat.le_refl _) hb5)
  have HI5 := Lib.hid (HI4.out.mono (Nat.le_refl _) hb5)
  have HM5 := Lib.hid (HM4.out.mono (Nat.le_refl _) hb5)
  clear hb5 c0 c1 hr
  have c0 := HR5.out.cell (i := 0) rfl
  have c1 := HR5.out.cell (i := 1) rfl
  go_wp2_with fail
  refine (HRI.out w5 HY5.out (by omega)).mono ?_
  rintro e w6 ⟨r, rfl, hr, hb6⟩
  obtain rfl : r = true := hr.2 HOK'.out
  have HB6 := Lib.hid (below_more HB5.out hb6 HB5.out.size)
  have HR6 := Lib.hid (HR5.out.after hb6)
  have HT6 := Lib.hid (HT5.out.mono (Nat.le_refl _) hb6)
  have HY6 := Lib.hid (HY5.out.mono (Nat.le_refl _) hb6)
  have HI6 := Lib.hid (HI5.out.mono (Nat.le_refl _) hb6)
  have HM6 := Lib.hid (HM5.out.mono (Nat.le_refl _) hb6)
  clear hb6 c0 c1 hr
  have c0 := HR6.out.cell (i := 0) rfl
  have c1 := HR6.out.cell (i := 1) rfl
  go_wp2_with fail
  refine (HRO.out w6 HT6.out HY6.out n (by omega) (by omega) HOK'.out).mono ?_
  rintro e w7 ⟨v, rfl, hown, hb7⟩
  obtain ⟨qa, qc, hve⟩ := owns_slice hown
  subst hve
  have hI7 := owns_nl hown
  have HB7 := Lib.hid (below_more HB6.out hb7 HB6.out.size)
  have HR7 := Lib.hid (HR6.out.after hb7)
  have HT7 := Lib.hid (HT6.out.mono (Nat.le_refl _) hb7)
  have HY7 := Lib.hid (HY6.out.mono (Nat.le_refl _) hb7)
  have HM7 := Lib.hid (HM6.out.mono (Nat.le_refl _) hb7)
  have HIN := Lib.hid (show Calls Tryz.prog 24 #[.slice la rl lc, .slice qa rl qc] w7 fun e w' => e = .returned (.bool true) ∧ Below w7.heap.size w7 w' from by
    have := ints08 la qa lc qc ((rimL T bays n).map fun (x : Nat) => (x : Int)) ((rimL T bays n).map fun (x : Nat) => (x : Int)) w7 (by rw [List.length_map]; have := HRLE.out; omega) (HI6.out.mono (Nat.le_refl _) hb7) hI7
    rw [List.length_map, ← HRLE.out] at this
    simpa using this)
  rw [← HRLE.out]
  clear hb7 c0 c1 hown hI7
  have c0 := HR7.out.cell (i := 0) rfl
  have c1 := HR7.out.cell (i := 1) rfl
  go_wp2_with fail
  refine HIN.out.mono ?_
  rintro e w8 ⟨rfl, hb8⟩
  have HB8 := Lib.hid (below_more HB7.out hb8 HB7.out.size)
  have HR8 := Lib.hid (HR7.out.after hb8)
  have HT8 := Lib.hid (HT7.out.mono (Nat.le_refl _) hb8)
  have HY8 := Lib.hid (HY7.out.mono (Nat.le_refl _) hb8)
  have HM8 := Lib.hid (HM7.out.mono (Nat.le_refl _) hb8)
  clear hb8 c0 c1
  have c0 := HR8.out.cell (i := 0) rfl
  have c1 := HR8.out.cell (i := 1) rfl
  go_wp2_with fail
  refine (HRT.out w8 HT8.out HY8.out n HS.out HOK'.out (by omega)).mono ?_
  rintro e w9 ⟨ra, rc, rfl, hM9, hb9⟩
  have HB9 := Lib.hid (below_more HB8.out hb9 HB8.out.size)
  rw [← HMM.out] at hM9 ⊢
  have HLI := Lib.hid (lists12 ta ra tc rc m m (touchL T bays m) (touchL T bays m) w9 (by have := HMO.out; omega) (fun i hi => by have := touchL_len T bays m i; have := HMO.out; omega) (HM8.out.mono (Nat.le_refl _) hb9) hM9)
  clear hb9 c0 c1 hM9
  go_wp2_with fail
  refine HLI.out.mono ?_
  rintro e w10 ⟨r, rfl, hr, hb10⟩
  obtain rfl : r = true := hr.2 ⟨rfl, fun _ _ => rfl⟩
  have HB10 := Lib.hid (below_more HB9.out hb10 HB9.out.size)
  clear hb10 hr
  go_wp2
  exact bodyPost_ret (v := .bool true) (by simp [results, Tryz.results5, go_sem]) rfl ⟨rfl, HB10.out⟩
end Go.Proofs.YtknioobpoieohaaGreat

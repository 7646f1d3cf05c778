/- gypsumlaw32.ChartSeams: the walk. -/
import Derived.Test.YtfbpjlfimmjieaaGreatSeamA
import Derived.Test.YtfbpjlfimmjieaaGreatQuad32
namespace Go.Proofs.YtfbpjlfimmjieaaGreat
set_option linter.unusedVariables false
set_option linter.unusedSimpArgs false
open Go.RowKit
set_option maxRecDepth 100000 in
set_option maxHeartbeats 16000000 in
theorem chartseams_any (N : Int) (ao : Option Addr) (cap : Nat) (T : List Tr) (ko : Option Addr) (kc : Nat) (K : List Int) (w : World) (hT : TrisAt w ao T) (hTl : T.length ≤ 9223372036854775807) (hK : IntsAt w ko K) (hKl : K.length ≤ 9223372036854775807) :
    Calls Tryz.prog 9 #[.agg #[.int .i64 N, .slice ao T.length cap], .slice ko K.length kc] w fun e w' => e = .returned (.bool true) ∧ Below w.heap.size w w' := by
  obtain ⟨W0, hW0⟩ : ∃ W0, W0 = w.alloc (.cells #[.int .i64 N, .slice ao T.length cap] 24) := ⟨_, rfl⟩
  have hb0 : Below w.heap.size w W0 := by rw [hW0]; exact (Below.refl _ _).alloc (Nat.le_refl _) _
  have hr0 : RowIs W0 w.heap.size 24 [.int .i64 N, .slice ao T.length cap] := by rw [hW0]; exact RowIs.made w 24 [.int .i64 N, .slice ao T.length cap]
  have HT := Lib.hid (hT.mono (Nat.le_refl _) hb0)
  have HK := Lib.hid (hK.mono (Nat.le_refl _) hb0)
  have HG := Lib.hid (fun (X : World) (h : TrisAt X ao T) => right32 N ao cap T ko K.length kc X h)
  have HRI := Lib.hid (show Right32 N T K.length → T.length ≤ 30 ∧ K.length = 3 * T.length ∧ Surf N T from id)
  have HTY := Lib.hid (fun (X : World) (h : TrisAt X ao T) (n : Nat) (hn : N = n) (hs : Surf n T) (hl : T.length ≤ 40) => (show N = (n : Int) from hn) ▸ table12 n ao cap T X h hs hl)
  have HOO := Lib.hid (fun (X : World) (p : Nat) (h : Tab X p N T) (hs : Surf N T) (hn : K.length = 3 * T.length) (hk : IntsAt X ko K) => (cof_ok p N T ko kc K X h hs hn hk).mono (R' := fun e w' => OfP X T K e w') fun _ _ h => h)
  have HTO := Lib.hid (fun (X : World) (hk : IntsAt X ko K) (hl : K.length ≤ 100000) => told32 ko kc K X hk hl)
  have HEB := Lib.hid (fun (X : World) (p : Nat) (h : Tab X p N T) (hn : K.length = 3 * T.length) (hk : IntsAt X ko K) (ht : ¬ Told K) => sedges_bad p N T ko kc K X h hk hn ht)
  have HEO := Lib.hid (show ∀ (X : World) (p : Nat) (h : Tab X p N T) (hs : Surf N T) (hn : K.length = 3 * T.length) (hk : IntsAt X ko K) (ht : Told K) (E : List (Int × Int)) (hE : E = sortP (seamE T K (3 * T.length))),
    Calls Tryz.prog 30 #[.pointer (some ⟨p, 0, none⟩), .slice ko K.length kc] X fun e w' => ∃ eo ec, e = .returned (.tuple #[.slice eo E.length ec, .int .i64 0]) ∧ EdgesAt w' eo E ∧ Below X.heap.size X w' from fun X p h hs hn hk ht E hE => by
    have := sedges_ok p N T ko kc K X h hs hk hn ht
    rw [← sortP_length, ← hE] at this
    exact this)
  have HOP := Lib.hid (fun (X : World) (p c : Nat) (h : Tab X p N T) (hc : c < 3 * T.length) => opp_any (c : Int) X p N T h (by omega) (by omega))
  have HED := Lib.hid (fun (X : World) (p c : Nat) (h : Tab X p N T) (hc : c < 3 * T.length) => edge_any (c : Int) X p N T h.len h.s (by omega) (by omega))
  have HPL := Lib.hid (show ∀ (n : Nat) (hn : N = n) (hs : Surf N T) (M : Nat → Int) (hM : IsShells (KAdj T K) T.length M) (c : Nat), c < 3 * T.length → ∀ x y, edgeAt T (c : Int) = (x, y) → (I64 x ∧ I64 y) ∧ (opp T (c : Int) < 0 → (min x y, max x y) ∉ sortP (seamE T K (3 * T.length))) ∧ (∀ o : Nat, opp T (c : Int) = o → o < 3 * T.length ∧ (M (c / 3) ≠ M (o / 3) → (min x y, max x y) ∈ sortP (seamE T K (3 * T.length)))) from fun n hn hs M hM c hc x y he => by
    subst hn
    refine ⟨(edge_ends hs hc he).2, fun ho h => seam_border hs hc he ho ((sortP_perm _).mem_iff.1 h), fun o ho => ⟨?_, fun hne => (sortP_perm _).mem_iff.2 (seam_between hs hM hc he ho hne)⟩⟩
    obtain ⟨o', e, hol, -⟩ := hs.opp_opp hc (by omega)
    omega)
  have HOK := Lib.hid (show ∀ (n : Nat) (hn : N = n) (hs : Surf N T) (e : Int × Int), e ∈ sortP (seamE T K (3 * T.length)) → I64 e.1 ∧ I64 e.2 from fun n hn hs e he => by
    subst hn
    exact seam_ok hs ((sortP_perm _).mem_iff.1 he))
  have HEL := Lib.hid (show (sortP (seamE T K (3 * T.length))).length ≤ 3 * T.length from by rw [sortP_length]; exact seamE_le T K _)
  obtain ⟨len, hlen⟩ : ∃ l, l = T.length := ⟨_, rfl⟩
  obtain ⟨kl, hkle⟩ : ∃ l, l = K.length := ⟨_, rfl⟩
  obtain ⟨l3, hl3⟩ : ∃ l, l = 3 * len := ⟨_, rfl⟩
  simp only [OfP, ← hlen, ← hkle] at HG HRI HTY HOO HTO HEB HEO HOP HED HPL HOK HEL hW0 hr0 hTl hKl
  simp only [← hl3] at HRI HOO HEB HEO HOP HED HPL HOK HEL
  obtain ⟨E, hE⟩ : ∃ E, E = sortP (seamE T K l3) := ⟨_, rfl⟩
  have HEE := Lib.hid hE
  rw [← hE] at HOK HEL
  simp only [← hE] at HPL
  rw [← hlen, ← hkle]
  have HL := Lib.hid hlen
  have HKE := Lib.hid hkle
  have HL3 := Lib.hid hl3
  have HR0 := Lib.hid hr0
  have HB0 := Lib.hid hb0
  have HW0 := Lib.hid hW0
  clear hT hK hb0 hr0 hW0 hlen hkle hl3 hE
  go_enter Tryz.func9, Tryz.ntmps9
  go_upto_region 1 with fail
  rw [← HW0.out]
  go_wp2_with fail
  refine (awake32 _).mono ?_
  rintro e w1 ⟨rfl, hb1⟩
  have HB1 := Lib.hid (below_more HB0.out hb1 HB0.out.size)
  have HR1 := Lib.hid (HR0.out.after hb1)
  have HT1 := Lib.hid (HT.out.mono (Nat.le_refl _) hb1)
  have HK1 := Lib.hid (HK.out.mono (Nat.le_refl _) hb1)
  have c0 := HR1.out.cell (i := 0) rfl
  have c1 := HR1.out.cell (i := 1) rfl
  have HG1 := Lib.hid (HG.out w1 HT1.out)
  clear hb1
  go_wp2_with fail
  refine HG1.out.mono ?_
  rintro e w2 ⟨r, rfl, hr, hb2⟩
  have HB2 := Lib.hid (below_more HB1.out hb2 HB1.out.size)
  cases r
  case false =>
    clear hr hb2
    go_wp2
    exact bodyPost_ret (v := .bool true) (by simp [results, Tryz.results9, go_sem]) rfl ⟨rfl, HB2.out⟩
  case true =>
  obtain ⟨hl30, hk3, hs⟩ := HRI.out (hr.1 rfl)
  have HK3 := Lib.hid hk3
  have hl3b : l3 ≤ 90 := by have := HL3.out; omega
  have hklb : kl ≤ 90 := by omega
  have h3i : (3 : Int) * (len : Int) = (l3 : Int) := by have := HL3.out; omega
  have HR2 := Lib.hid (HR1.out.after hb2)
  have HT2 := Lib.hid (HT1.out.mono (Nat.le_refl _) hb2)
  have HK2 := Lib.hid (HK1.out.mono (Nat.le_refl _) hb2)
  have c0 := HR2.out.cell (i := 0) rfl
  have c1 := HR2.out.cell (i := 1) rfl
  obtain ⟨n, hn⟩ : ∃ n : Nat, N = n := ⟨N.toNat, by have := hs.n0; omega⟩
  have HS := Lib.hid hs
  have HNN := Lib.hid hn
  have HTX := Lib.hid (HTY.out w2 HT2.out n hn (hn ▸ hs) (by omega))
  clear hr hb2 hs hn hk3
  go_wp2_with fail
  refine HTX.out.mono ?_
  rintro e w3 ⟨p, rfl, -, htab, hb3⟩
  have htab : Tab w3 p N T := by first | exact htab | (rw [HNN.out]; exact htab)
  have HB3 := Lib.hid (below_more HB2.out hb3 HB2.out.size)
  have HR3 := Lib.hid (HR2.out.after hb3)
  have HK3' := Lib.hid (HK2.out.mono (Nat.le_refl _) hb3)
  have HTAB := Lib.hid htab
  have HO1 := Lib.hid (HOO.out w3 p htab HS.out HK3.out HK3'.out)
  clear hb3 htab
  go_wp2_with fail
  refine HO1.out.mono ?_
  rintro e w4 ⟨g1, M, rfl, -, hr1, hm1, hb4⟩
  have HB4 := Lib.hid (below_more HB3.out hb4 HB3.out.size)
  have HR4 := Lib.hid (HR3.out.after hb4)
  have HK4 := Lib.hid (HK3'.out.mono (Nat.le_refl _) hb4)
  have HTAB4 := Lib.hid (HTAB.out.mono (Nat.le_refl _) hb4)
  have HRM := Lib.hid hr1
  have HM := Lib.hid hm1
  clear hb4 hr1 hm1
  by_cases hto : Told K
  case neg =>
    have HX := Lib.hid (HEB.out w4 p HTAB4.out HK3.out HK4.out hto)
    have HTO1 := Lib.hid hto
    clear hto
    go_wp2_with fail
    refine HX.out.mono ?_
    rintro e w5 ⟨rfl, hb5⟩
    have HB5 := Lib.hid (below_more HB4.out hb5 HB4.out.size)
    have HT5 := Lib.hid (HTO.out w5 (HK4.out.mono (Nat.le_refl _) hb5) (by omega))
    clear hb5
    go_wp2_with fail
    refine HT5.out.mono ?_
    rintro e w6 ⟨r, rfl, hr, hb6⟩
    obtain rfl : r = false := by
      cases r
      · rfl
      · exact absurd (hr.1 rfl) HTO1.out
    have HB6 := Lib.hid (below_more HB5.out hb6 HB5.out.size)
    clear hr hb6
    go_wp2
    exact bodyPost_ret (v := .bool true) (by simp [results, Tryz.results9, go_sem]) rfl ⟨rfl, HB6.out⟩
  case pos =>
  have HX := Lib.hid (HEO.out w4 p HTAB4.out HS.out HK3.out HK4.out hto E HEE.out)
  have HTO1 := Lib.hid hto
  clear hto
  obtain ⟨ne, hne⟩ : ∃ l, l = E.length := ⟨_, rfl⟩
  rw [← hne] at HX
  have HNE := Lib.hid hne
  have hneb : ne ≤ 90 := by have := HEL.out; omega
  clear hne
  go_wp2_with fail
  refine HX.out.mono ?_
  rintro e w5 ⟨eo, ec, rfl, hE5, hb5⟩
  have HB5 := Lib.hid (below_more HB4.out hb5 HB4.out.size)
  have HR5 := Lib.hid (HR4.out.after hb5)
  have HTAB5 := Lib.hid (HTAB4.out.mono (Nat.le_refl _) hb5)
  have HRM5 := Lib.hid (HRM.out.after hb5)
  have HE5 := Lib.hid hE5
  have HT5 := Lib.hid (HTO.out w5 (HK4.out.mono (Nat.le_refl _) hb5) (by omega))
  clear hb5 hE5
  go_wp2_with fail
  refine HT5.out.mono ?_
  rintro e w6 ⟨r, rfl, hr, hb6⟩
  obtain rfl : r = true := hr.2 HTO1.out
  obtain ⟨W, rfl⟩ : ∃ x : World, x = w6 := ⟨_, rfl⟩
  have HB6 := Lib.hid (below_more HB5.out hb6 HB5.out.size)
  have HR6 := Lib.hid (HR5.out.after hb6)
  have HTAB6 := Lib.hid (HTAB5.out.mono (Nat.le_refl _) hb6)
  have HRM6 := Lib.hid (HRM5.out.after hb6)
  have HE6 := Lib.hid (HE5.out.mono (Nat.le_refl _) hb6)
  have hmm := @run_makeMap Tryz.prog
  obtain ⟨m, hm⟩ : ∃ m, m = W.heap.size := ⟨_, rfl⟩
  have HM0 := Lib.hid (show MapIs edgeFam (W.alloc (.map #[] 0)) m 0 (inM E 0) ∧ Below W.heap.size W (W.alloc (.map #[] 0)) from ⟨by rw [inM_zero, hm]; exact MapIs.made W, (Below.refl _ _).alloc (Nat.le_refl _) _⟩)
  have HMM := Lib.hid hm
  clear hr hb6 hm
  go_upto_region 13 with fail
  rw [← HMM.out]
  clear hmm
  go_wp2
  go_loopw [11] (fun c ws => ∃ (k nm : Nat), k ≤ ne ∧ c = .int .i64 k ∧ MapIs edgeFam ws m nm (inM E k) ∧ Below W.heap.size W ws) (fun c _ => ne - (intOf c).toNat)
  case atStart => exact ⟨0, 0, by omega, rfl, HM0.out.1, HM0.out.2⟩
  case round =>
    clear HM0
    obtain ⟨k, nm, hk, rfl, hmap, hb⟩ := hrel
    obtain ⟨X, rfl⟩ : ∃ X : World, X = wr := ⟨_, rfl⟩
    have HB := Lib.hid hb
    by_cases hkb : k < ne
    · obtain ⟨eb, eoff, rfl, hebl, hec⟩ := (HE6.out.mono (Nat.le_refl _) hb) (by intro e; have := HNE.out; rw [e] at this; simp at this; omega)
      obtain ⟨e0, e1⟩ := hec k (by have := HNE.out; omega)
      have hok := HOK.out n HNN.out HS.out (E! E k) (E!_mem (by have := HNE.out; omega))
      obtain ⟨X', hst, hm', hg'⟩ := hmap.store 55 4 (by kernel_rfl) (E! E k) hok (.bool true)
      rw [inM_succ (by have := HNE.out; omega)] at hm'
      simp only [edgeFam] at hst
      obtain ⟨ea, hea⟩ : ∃ a, a = E! E k := ⟨_, rfl⟩
      rw [← hea] at hst e0 e1
      obtain ⟨x, y⟩ := ea
      simp only at hst e0 e1
      have HN := Lib.hid (show (∃ nm', MapIs edgeFam X' m nm' (inM E (k + 1))) ∧ Below W.heap.size W X' from ⟨⟨_, hm'⟩, hb.grown hg' hb.size (fun q hq => by cases hq; rw [HMM.out]; exact Nat.le_refl _)⟩)
      clear hm' hg' hmap hb hok hea hec hebl
      go_wp2
      go_roundw
      case rel =>
        obtain ⟨nm', h⟩ := HN.out.1
        exact ⟨k + 1, nm', by omega, by go_num, h, HN.out.2⟩
      case measure => simp [intOf]; omega
    · obtain rfl : k = ne := by omega
      have HMAP := Lib.hid (show MapIs edgeFam X m nm (inM E E.length) by rw [← HNE.out]; exact hmap)
      have HBX := Lib.hid (below_more HB6.out hb HB6.out.size)
      have HR7 := Lib.hid (HR6.out.after hb)
      have HTAB7 := Lib.hid (HTAB6.out.mono (Nat.le_refl _) hb)
      have HRM7 := Lib.hid (HRM6.out.after hb)
      have HPX := Lib.hid (HPL.out n HNN.out HS.out M HM.out)
      clear hmap hb hk hkb
      go_wp2
      go_loopw [12] (fun c ws => ∃ (k : Nat), k ≤ l3 ∧ c = .int .i64 k ∧ Below X.heap.size X ws) (fun c _ => l3 - (intOf c).toNat)
      case atStart => exact ⟨0, by omega, rfl, Below.refl _ _⟩
      case round =>
        obtain ⟨k, hk, rfl, hb⟩ := hrel
        obtain ⟨Z, rfl⟩ : ∃ X : World, X = wr := ⟨_, rfl⟩
        have HB := Lib.hid hb
        have hrZ := HR7.out.after hb
        have c0 := hrZ.cell (i := 0) rfl
        have c1 := hrZ.cell (i := 1) rfl
        have e3 : IntKind.i64.wrap (l3 : Int) = (l3 : Int) := IntWalk.i64_in _ (by omega)
        clear hrZ
        by_cases hkb : k < l3
        · have htZ := HTAB7.out.mono (Nat.le_refl _) hb
          have hop := HOP.out Z p k htZ hkb
          obtain ⟨o, ho⟩ : ∃ o, o = opp T (k : Int) := ⟨_, rfl⟩
          obtain ⟨x, hx⟩ : ∃ q, q = vt T (nx (k : Int)) := ⟨_, rfl⟩
          obtain ⟨y, hy⟩ : ∃ q, q = vt T (pv (k : Int)) := ⟨_, rfl⟩
          have hpl := HPX.out k hkb x y (by rw [hx, hy]; rfl)
          rw [← ho] at hop hpl
          have HOP1 := Lib.hid hop
          have HED1 := Lib.hid (show ∀ Q, Tab Q p N T → Calls Tryz.prog 34 #[.pointer (some ⟨p, 0, none⟩), .int .i64 (k : Int)] Q fun e w' => e = .returned (.agg #[.int .i64 x, .int .i64 y]) ∧ Below Q.heap.size Q w' from fun Q h => by
            have := HED.out Q p k h hkb
            rwa [← hx, ← hy] at this)
          have HTZ := Lib.hid htZ
          have HPQ := Lib.hid hpl
          have HKB := Lib.hid hkb
          clear htZ hop ho hx hy hpl hb
          go_wp2_with fail
          refine HOP1.out.mono ?_
          rintro e Z1 ⟨rfl, hb1⟩
          have HB1' := Lib.hid (below_more HB.out hb1 HB.out.size)
          have HED2 := Lib.hid (HED1.out Z1 (HTZ.out.mono (Nat.le_refl _) hb1))
          clear hb1
          go_wp2_with fail
          refine HED2.out.mono ?_
          rintro e Z2 ⟨rfl, hb2⟩
          obtain ⟨b1, hb1e⟩ : ∃ q, q = Z2.heap.size := ⟨_, rfl⟩
          obtain ⟨Y, hY⟩ : ∃ Y, Y = Z2.alloc (.cells #[.int .i64 x, .int .i64 y] 57) := ⟨_, rfl⟩
          have hb3 : Below Z2.heap.size Z2 Y := by rw [hY]; exact (Below.refl _ _).alloc (Nat.le_refl _) _
          have hry : RowIs Y b1 57 [.int .i64 x, .int .i64 y] := by rw [hY, hb1e]; exact RowIs.made Z2 57 [.int .i64 x, .int .i64 y]
          have HBY := Lib.hid (below_more HB1'.out (below_more hb2 hb3 hb2.size) HB1'.out.size)
          have y0 := hry.cell (i := 0) rfl
          have y1 := hry.cell (i := 1) rfl
          have HYE := Lib.hid hY
          have HBE := Lib.hid hb1e
          clear hb2 hb3 hry hY hb1e
          go_upto_region 22 with fail
          rw [← HYE.out, ← HBE.out]
          obtain ⟨b2, hb2e⟩ : ∃ q, q = Y.heap.size := ⟨_, rfl⟩
          obtain ⟨V, hV⟩ : ∃ V, V = Y.alloc (.cells #[.int .i64 (min x y), .int .i64 (max x y)] 57) := ⟨_, rfl⟩
          go_upto_region 23 with fail
          rw [← hV, ← hb2e]
          have hb4 : Below Y.heap.size Y V := by rw [hV]; exact (Below.refl _ _).alloc (Nat.le_refl _) _
          have hrv : RowIs V b2 57 [.int .i64 (min x y), .int .i64 (max x y)] := by rw [hV, hb2e]; exact RowIs.made Y 57 [.int .i64 (min x y), .int .i64 (max x y)]
          have hbV := below_more HBY.out hb4 HBY.out.size
          have HBV := Lib.hid hbV
          have HBQ := Lib.hid (show ∀ q, Below X.heap.size X (V.drewN q) from fun q => below_drewN hbV q)
          have v0 := hrv.cell (i := 0) rfl
          have v1 := hrv.cell (i := 1) rfl
          have hmV := HMAP.out.below (Nat.le_refl _) hbV
          have hxyI : I64 (min x y) ∧ I64 (max x y) := by have := HPQ.out.1; unfold I64 at *; omega
          have hlk : ∀ q, (Instr.lookup 55 (.map (some m)) (.agg #[.int .i64 (min x y), .int .i64 (max x y)]) false).run Tryz.prog (V.drewN q) = .ok (.bool (decide ((min x y, max x y) ∈ E))) (V.drewN q) := fun q => by
            have := (hmV.same (w' := V.drewN q) rfl).look 55 4 (by kernel_rfl) zero_bool (min x y, max x y) hxyI false
            simp only [edgeFam, inM_all] at this
            simpa using this
          have hlk0 : (Instr.lookup 55 (.map (some m)) (.agg #[.int .i64 (min x y), .int .i64 (max x y)]) false).run Tryz.prog V = .ok (.bool (decide ((min x y, max x y) ∈ E))) V := by
            have := hmV.look 55 4 (by kernel_rfl) zero_bool (min x y, max x y) hxyI false
            simp only [edgeFam, inM_all] at this
            simpa using this
          have hrM := HRM7.out.after hbV
          obtain ⟨mi, hmi⟩ : ∃ q, q = min x y := ⟨_, rfl⟩
          obtain ⟨ma, hma⟩ : ∃ q, q = max x y := ⟨_, rfl⟩
          simp only [← hmi, ← hma] at v0 v1 hlk hlk0
          have HME := Lib.hid (show (min x y, max x y) = (mi, ma) by rw [hmi, hma])
          simp only [← hmi, ← hma]
          clear hmi hma hb4 hrv hmV hxyI hV hb2e y0 y1
          by_cases h0 : o < 0
          · have d0 : decide (o < 0) = true := by simpa using h0
            have hni := HPQ.out.2.1 h0
            rw [HME.out] at hni
            have d1 : decide ((mi, ma) ∈ E) = false := by simpa using hni
            rw [d1] at hlk0
            clear h0 hni hlk hbV hrM
            go_wp2
            go_roundw
            case rel => exact ⟨k + 1, by omega, by go_num, HBV.out⟩
            case measure => simp [intOf]; omega
          · have d0 : decide (o < 0) = false := by simpa using h0
            obtain ⟨o', ho'⟩ := Int.eq_ofNat_of_zero_le (show 0 ≤ o by omega)
            obtain ⟨hol, hbt⟩ := HPQ.out.2.2 o' ho'
            subst ho'
            rw [HME.out] at hbt
            obtain ⟨k3, hk3⟩ : ∃ q, q = k / 3 := ⟨_, rfl⟩
            obtain ⟨o3, ho3⟩ : ∃ q, q = o' / 3 := ⟨_, rfl⟩
            have hl3 := HL3.out
            have hk3l : k3 < len := by omega
            have ho3l : o3 < len := by omega
            have hdk : (k : Int) / 3 = (k3 : Int) := by omega
            have hdo : (o' : Int) / 3 = (o3 : Int) := by omega
            rw [← hk3, ← ho3] at hbt
            have cMk := hrM.cell (iv_get M hk3l)
            have cMo := hrM.cell (iv_get M ho3l)
            generalize M k3 = a at cMk hbt
            generalize M o3 = b at cMo hbt
            clear hlk0 hbV hrM hk3 ho3 hl3 h0
            by_cases hab : a = b
            · have d2 : (a != b) = false := by simpa using hab
              subst hab
              clear hbt hlk
              go_wp2
              go_quiet (fail)
              go_wp2
              go_roundw
              case rel => exact ⟨k + 1, by omega, by go_num, by first | exact HBQ.out _ | exact HBV.out⟩
              case measure => simp [intOf]; omega
            · have d2 : (a != b) = true := by simpa using hab
              have d3 : decide ((mi, ma) ∈ E) = true := by simpa using hbt hab
              simp only [d3] at hlk
              clear hbt
              go_wp2
              go_quiet (fail)
              go_wp2
              go_roundw
              case rel => exact ⟨k + 1, by omega, by go_num, by first | exact HBQ.out _ | exact HBV.out⟩
              case measure => simp [intOf]; omega
        · obtain rfl : k = l3 := by omega
          have HBF := Lib.hid (below_more HBX.out hb HBX.out.size)
          clear hb
          go_wp2
          exact bodyPost_ret (v := .bool true) (by simp [results, Tryz.results9, go_sem]) rfl ⟨rfl, HBF.out⟩
end Go.Proofs.YtfbpjlfimmjieaaGreat

/- gypsumlaw32.ChartSides: the walk. -/
import Derived.Test.YtfbpjlfimmjieaaGreatQuad32
import Derived.Test.YtfbpjlfimmjieaaGreatSurf32
import Derived.Test.YtfbpjlfimmjieaaGreatGroups
namespace Go.Proofs.YtfbpjlfimmjieaaGreat
set_option linter.unusedVariables false
set_option linter.unusedSimpArgs false
open Go.RowKit
/-- What the side of a corner is. -/
theorem side_facts {n : Nat} {T : List Tr} {K : List Int} {M L : Nat → Int} (hs : Surf n T) (hM : IsShells (KAdj T K) T.length M) (hL : IsLeast (KSAdj T K) (3 * T.length) L) {c : Nat} (hc : c < 3 * T.length) :
    ∃ x : Nat, L c = x ∧ x ≤ c ∧ I! K x = I! K c ∧ vt T (x : Int) = vt T (c : Int) ∧ M (x / 3) = M (c / 3) ∧ L x = x := by
  have h0 := hL.nonneg c hc
  have h1 := hL.le c hc
  have h2 := hL.con c hc
  have h3 := hL.top ksadj_in hc
  have h4 := kside_tri h2
  refine ⟨(L c).toNat, by omega, by omega, ?_, ?_, ?_, by rw [h3.2]; omega⟩
  · exact (kside_val h2).symm
  · exact (kside_vt hs h2).symm
  · exact (hM.conn_eq h4).1 (by omega)
/-- How many sides of a chart are among the first corners. -/
def sdN (T : List Tr) (M L : Nat → Int) (k : Nat) : Nat → Int := fun j => ((reps (mL M T.length) (j : Int) L k).length : Int)
theorem sdN_zero (T : List Tr) (M L : Nat → Int) : sdN T M L 0 = fun _ => 0 := by funext j; simp [sdN, reps]
theorem sdN_yes {T : List Tr} {M L : Nat → Int} {k m : Nat} (hk : k < 3 * T.length) (hm : M (k / 3) = m) (h : L k = k) : upd (sdN T M L k) m (sdN T M L k m + 1) = sdN T M L (k + 1) := by
  funext j
  unfold upd sdN
  rw [reps_succ, mL_get (by omega)]
  by_cases e : j = m
  · subst e
    rw [if_pos rfl, if_pos ⟨hm, h⟩]
    simp
  · rw [if_neg e, if_neg (fun h' => e (by have := h'.1; omega))]
theorem sdN_no {T : List Tr} {M L : Nat → Int} {k : Nat} (h : L k ≠ k) : sdN T M L k = sdN T M L (k + 1) := by
  funext j
  unfold sdN
  rw [reps_succ, if_neg (fun h' => h h'.2)]
/-- A chart's surface has as many vertices as the chart has sides. -/
theorem chart_num {n : Nat} {T : List Tr} {K : List Int} {M L : Nat → Int} (hs : Surf n T) (hkl : K.length = 3 * T.length) (hM : IsShells (KAdj T K) T.length M) (hL : IsLeast (KSAdj T K) (3 * T.length) L) (k : Nat) (hk : (k : Int) < cnt M T.length)
    (ao : Option Addr) (cap : Nat) (ko : Option Addr) (kc : Nat) (X : World) (hT : TrisAt X ao T) (hK : IntsAt X ko K) :
    Calls Tryz.prog 20 #[.agg #[.int .i64 (n : Int), .slice ao T.length cap], .slice ko K.length kc, .int .i64 (k : Int)] X fun e w' => ∃ a1 n1 c1 a2 n2 c2 a3 n3 c3,
      e = .returned (.tuple #[.agg #[.int .i64 (sdN T M L (3 * T.length) k), .slice a1 n1 c1], .slice a2 n2 c2, .slice a3 n3 c3, .int .i64 0]) ∧ Below X.heap.size X w' := by
  have hp := rowK_piece hs hM hL (k : Int)
  refine (csurf_yes n ao cap T ko kc K k X hT hs hK hkl hM hp (sel_hit hM hk)).mono ?_
  rintro e w' ⟨a1, a2, a3, c1, c2, c3, h, -, -, -, hb⟩
  have e1 : (sdN T M L (3 * T.length) k) = ((rowK T (mL M T.length) (k : Int) L n).length : Int) := by unfold sdN; rw [hp.perm.length_eq]
  rw [e1]
  exact ⟨a1, _, c1, a2, _, c2, a3, _, c3, h, hb⟩
set_option maxRecDepth 100000 in
set_option maxHeartbeats 16000000 in
theorem chartsides_any (N : Int) (ao : Option Addr) (cap : Nat) (T : List Tr) (ko : Option Addr) (kc : Nat) (K : List Int) (w : World) (hT : TrisAt w ao T) (hTl : T.length ≤ 9223372036854775807) (hK : IntsAt w ko K) (hKl : K.length ≤ 9223372036854775807) :
    Calls Tryz.prog 6 #[.agg #[.int .i64 N, .slice ao T.length cap], .slice ko K.length kc] w fun e w' => e = .returned (.bool true) ∧ Below w.heap.size w w' := by
  obtain ⟨i0, hi0, hz0, hz1, hz2⟩ := info_parts info3
  obtain ⟨W0, hW0⟩ : ∃ W0, W0 = w.alloc (.cells #[.int .i64 N, .slice ao T.length cap] 24) := ⟨_, rfl⟩
  have hb0 : Below w.heap.size w W0 := by rw [hW0]; exact (Below.refl _ _).alloc (Nat.le_refl _) _
  have hr0 : RowIs W0 w.heap.size 24 [.int .i64 N, .slice ao T.length cap] := by rw [hW0]; exact RowIs.made w 24 [.int .i64 N, .slice ao T.length cap]
  have HT := Lib.hid (hT.mono (Nat.le_refl _) hb0)
  have HK := Lib.hid (hK.mono (Nat.le_refl _) hb0)
  have HG := Lib.hid (fun (X : World) (h : TrisAt X ao T) => right32 N ao cap T ko K.length kc X h)
  have HRI := Lib.hid (show Right32 N T K.length → T.length ≤ 30 ∧ K.length = 3 * T.length ∧ Surf N T from id)
  have HTY := Lib.hid (fun (X : World) (h : TrisAt X ao T) (n : Nat) (hn : N = n) (hs : Surf n T) (hl : T.length ≤ 40) => (show N = (n : Int) from hn) ▸ table12 n ao cap T X h hs hl)
  have HOO := Lib.hid (fun (X : World) (p : Nat) (h : Tab X p N T) (hs : Surf N T) (hn : K.length = 3 * T.length) (hk : IntsAt X ko K) => (cof_ok p N T ko kc K X h hs hn hk).mono (R' := fun e w' => OfP X T K e w') fun _ _ h => h)
  have HSO := Lib.hid (fun (X : World) (p : Nat) (h : Tab X p N T) (hs : Surf N T) (hn : K.length = 3 * T.length) (hk : IntsAt X ko K) => (csides_ok p N T ko kc K X h hs hn hk).mono (R' := fun e w' => SidesP X T K e w') fun _ _ h => h)
  have HSF := Lib.hid (show ∀ (n : Nat) (hn : N = n) (M L : Nat → Int), Surf N T → IsShells (KAdj T K) T.length M → IsLeast (KSAdj T K) (3 * T.length) L → ∀ c : Nat, c < 3 * T.length → ∃ x : Nat, L c = x ∧ x ≤ c ∧ I! K x = I! K c ∧ vt T (x : Int) = vt T (c : Int) ∧ M (x / 3) = M (c / 3) ∧ L x = x from
    fun n hn M L hs hM hL c hc => side_facts (n := n) (hn ▸ hs) hM hL hc)
  have HSY := Lib.hid (show ∀ (M L : Nat → Int) (k m : Nat), k < 3 * T.length → M (k / 3) = m → L k = k → upd (sdN T M L k) m (sdN T M L k m + 1) = sdN T M L (k + 1) from fun M L k m hk hm h => sdN_yes hk hm h)
  have HSB := Lib.hid (show ∀ (M L : Nat → Int) (k m : Nat), 0 ≤ sdN T M L k m ∧ sdN T M L k m ≤ k from fun M L k m => by have := reps_le (mL M T.length) (m : Int) L k; unfold sdN; omega)
  have HCN := Lib.hid (show ∀ (n : Nat) (hn : N = n) (M L : Nat → Int), Surf N T → K.length = 3 * T.length → IsShells (KAdj T K) T.length M → IsLeast (KSAdj T K) (3 * T.length) L → ∀ (k : Nat) (hk : (k : Int) < cnt M T.length) (X : World) (hT : TrisAt X ao T) (hK : IntsAt X ko K),
    Calls Tryz.prog 20 #[.agg #[.int .i64 N, .slice ao T.length cap], .slice ko K.length kc, .int .i64 (k : Int)] X fun e w' => ∃ a1 n1 c1 a2 n2 c2 a3 n3 c3,
      e = .returned (.tuple #[.agg #[.int .i64 (sdN T M L (3 * T.length) k), .slice a1 n1 c1], .slice a2 n2 c2, .slice a3 n3 c3, .int .i64 0]) ∧ Below X.heap.size X w' from fun n hn M L hs hkl hM hL k hk X hT hK => by
    subst hn
    exact chart_num hs hkl hM hL k hk ao cap ko kc X hT hK)
  have HVX := Lib.hid (show ∀ (X : World) (p c : Nat), Tab X p N T → T.length ≤ 10000 → c < 3 * T.length → Calls Tryz.prog 27 #[.pointer (some ⟨p, 0, none⟩), .int .i64 (c : Int)] X fun e w' => e = .returned (.int .i64 (vt T (c : Int))) ∧ X = w' from fun X p c h hl hc => vertex_any c X p N T hl h.s (by omega) (by omega))
  obtain ⟨len, hlen⟩ : ∃ l, l = T.length := ⟨_, rfl⟩
  obtain ⟨kl, hkle⟩ : ∃ l, l = K.length := ⟨_, rfl⟩
  obtain ⟨l3, hl3⟩ : ∃ l, l = 3 * len := ⟨_, rfl⟩
  simp only [OfP, SidesP, ← hlen, ← hkle] at HG HRI HTY HOO HSO HSF HSY HSB HCN HVX hW0 hr0 hTl hKl
  simp only [← hl3] at HSF HSY HCN HVX HSO HRI HOO
  rw [← hlen, ← hkle]
  have HL := Lib.hid hlen
  have HL3 := Lib.hid hl3
  have HKE := Lib.hid hkle
  have HR0 := Lib.hid hr0
  have HB0 := Lib.hid hb0
  have HW0 := Lib.hid hW0
  clear hT hK hb0 hr0 hW0 hlen hkle hl3
  go_enter Tryz.func6, Tryz.ntmps6
  go_upto_region 1 with fail
  rw [← HW0.out]
  go_wp2_with fail
  refine (awake32 _).mono ?_
  rintro e w1 ⟨rfl, hb1⟩
  have HB1 := Lib.hid (below_more HB0.out hb1 HB0.out.size)
  have HR1 := Lib.hid (HR0.out.after hb1)
  have HT1 := Lib.hid (HT.out.mono (Nat.le_refl _) hb1)
  have HK1 := Lib.hid (HK.out.mono (Nat.le_refl _) hb1)
  have c0 := HR1.out.cell (i := 0) rfl
  have c1 := HR1.out.cell (i := 1) rfl
  have HG1 := Lib.hid (HG.out w1 HT1.out)
  clear hb1
  go_wp2_with fail
  refine HG1.out.mono ?_
  rintro e w2 ⟨r, rfl, hr, hb2⟩
  have HB2 := Lib.hid (below_more HB1.out hb2 HB1.out.size)
  cases r
  case false =>
    clear hr hb2
    go_wp2
    exact bodyPost_ret (v := .bool true) (by simp [results, Tryz.results6, go_sem]) rfl ⟨rfl, HB2.out⟩
  case true =>
  obtain ⟨hl30, hk3, hs⟩ := HRI.out (hr.1 rfl)
  obtain rfl : kl = l3 := hk3
  have HR2 := Lib.hid (HR1.out.after hb2)
  have HT2 := Lib.hid (HT1.out.mono (Nat.le_refl _) hb2)
  have HK2 := Lib.hid (HK1.out.mono (Nat.le_refl _) hb2)
  have c0 := HR2.out.cell (i := 0) rfl
  have c1 := HR2.out.cell (i := 1) rfl
  obtain ⟨n, hn⟩ : ∃ n : Nat, N = n := ⟨N.toNat, by have := hs.n0; omega⟩
  have HS := Lib.hid hs
  have HNN := Lib.hid hn
  have hl3b : kl ≤ 90 := by have := HL3.out; omega
  have HTX := Lib.hid (HTY.out w2 HT2.out n hn (hn ▸ hs) (by omega))
  clear hr hb2 hs hn
  go_wp2_with fail
  refine HTX.out.mono ?_
  rintro e w3 ⟨p, rfl, -, htab, hb3⟩
  have htab : Tab w3 p N T := by first | exact htab | (rw [HNN.out]; exact htab)
  have HB3 := Lib.hid (below_more HB2.out hb3 HB2.out.size)
  have HR3 := Lib.hid (HR2.out.after hb3)
  have HT3 := Lib.hid (HT2.out.mono (Nat.le_refl _) hb3)
  have HK3 := Lib.hid (HK2.out.mono (Nat.le_refl _) hb3)
  have HTAB := Lib.hid htab
  have HO1 := Lib.hid (HOO.out w3 p HTAB.out HS.out (by first | rfl | trivial) HK3.out)
  clear hb3 htab
  go_wp2_with fail
  refine HO1.out.mono ?_
  rintro e w4 ⟨g1, M, rfl, -, hr1, hm1, hb4⟩
  have HB4 := Lib.hid (below_more HB3.out hb4 HB3.out.size)
  have HR4 := Lib.hid (HR3.out.after hb4)
  have HT4 := Lib.hid (HT3.out.mono (Nat.le_refl _) hb4)
  have HK4 := Lib.hid (HK3.out.mono (Nat.le_refl _) hb4)
  have HTAB4 := Lib.hid (HTAB.out.mono (Nat.le_refl _) hb4)
  have HRM := Lib.hid hr1
  have HM := Lib.hid hm1
  have HS1 := Lib.hid (HSO.out w4 p HTAB4.out HS.out (by first | rfl | trivial) HK4.out)
  clear hb4 hr1 hm1
  go_wp2_with fail
  refine HS1.out.mono ?_
  rintro e w5 ⟨g2, L, rfl, -, hr2, hm2, hb5⟩
  have HB5 := Lib.hid (below_more HB4.out hb5 HB4.out.size)
  have HR5 := Lib.hid (HR4.out.after hb5)
  have HT5 := Lib.hid (HT4.out.mono (Nat.le_refl _) hb5)
  have HK5 := Lib.hid (HK4.out.mono (Nat.le_refl _) hb5)
  have HTAB5 := Lib.hid (HTAB4.out.mono (Nat.le_refl _) hb5)
  have hrM5 := HRM.out.after hb5
  have HRM5 := Lib.hid hrM5
  have HRL5 := Lib.hid hr2
  have HLE := Lib.hid hm2
  have HMB := Lib.hid (show ∀ i, i < len → 0 ≤ M i ∧ M i ≤ i from fun i hi => ⟨HM.out.nonneg i hi, HM.out.le i hi⟩)
  obtain ⟨nc, hnc⟩ : ∃ n : Nat, cnt M len = n := ⟨(cnt M len).toNat, by have := cnt_nonneg M len; omega⟩
  have hncb : nc ≤ 30 := by
    by_cases h0 : 0 < cnt M len
    · obtain ⟨i, hi, e⟩ := cnt_has M len h0
      have := (HMB.out i hi).2
      omega
    · omega
  have hmany := many32 g1 len M w5 (by omega) hrM5 (fun i hi => ⟨(HMB.out i hi).1, by have := (HMB.out i hi).2; omega⟩)
  rw [hnc] at hmany
  have HMY := Lib.hid hmany
  have HNC := Lib.hid hnc
  clear hmany hr2 hm2 hb5 hrM5 hnc
  go_wp2_with fail
  refine HMY.out.mono ?_
  rintro e w6 ⟨rfl, rfl⟩
  obtain ⟨W6, rfl⟩ : ∃ X : World, X = w6 := ⟨_, rfl⟩
  go_wp2_with (at_make; refine wpList_make_full _ rfl _ _ _ rfl W6.heap.size 3 i0 (.int .i64 0) 1 (by kernel_rfl) hi0 hz0 hz1 _ _ _ _ nc rfl rfl rfl rfl (by rw [hz2]; omega) (by unfold maxLen; omega) (by simp) ?_)
  intro w7 hown hgr
  rw [madeCells_iv] at hown
  have hrow := RowIs.of_owns hown
  obtain ⟨gf, hgf⟩ : ∃ q, q = W6.heap.size := ⟨_, rfl⟩
  rw [← hgf] at hrow
  have HGF := Lib.hid hgf
  have HST := Lib.hid (show RowIs w7 gf 3 (iv (sdN T M L 0) nc) ∧ Below gf W6 w7 from ⟨by rw [sdN_zero]; exact hrow, by rw [hgf]; exact (Below.refl _ _).grown hgr (Nat.le_refl _) (by simp)⟩)
  clear hown hgr hrow
  rw [← hgf]
  clear hgf
  go_wp2
  go_loopw [11] (fun c ws => ∃ k : Nat, k ≤ kl ∧ c = .int .i64 k ∧ RowIs ws gf 3 (iv (sdN T M L k) nc) ∧ Below gf W6 ws) (fun c _ => kl - (intOf c).toNat)
  case atStart => exact ⟨0, by omega, rfl, HST.out.1, HST.out.2⟩
  case round =>
    clear HST
    obtain ⟨k, hk, rfl, hrow, hb⟩ := hrel
    obtain ⟨X, rfl⟩ : ∃ X : World, X = wr := ⟨_, rfl⟩
    have HRW := Lib.hid hrow
    have HB := Lib.hid hb
    by_cases hkb : k < kl
    · obtain ⟨x, hx, hxk, hkv, hvv, hmm, hxx⟩ := HSF.out n HNN.out M L HS.out HM.out HLE.out k hkb
      have hb' : Below W6.heap.size W6 X := by rw [← HGF.out]; exact hb
      have hrL := HRL5.out.after hb'
      have hrM := HRM5.out.after hb'
      have cL := hrL.cell (iv_get L hkb)
      have cX := hrL.cell (iv_get L (show x < kl by omega))
      obtain ⟨k3, hk3⟩ : ∃ q, q = k / 3 := ⟨_, rfl⟩
      obtain ⟨x3, hx3⟩ : ∃ q, q = x / 3 := ⟨_, rfl⟩
      have hl3 := HL3.out
      have hk3l : k3 < len := by omega
      have hx3l : x3 < len := by omega
      have cMk := hrM.cell (iv_get M hk3l)
      have cMx := hrM.cell (iv_get M hx3l)
      rw [← hk3, ← hx3] at hmm
      rw [hmm] at cMx
      obtain ⟨m, hm⟩ : ∃ m : Nat, M k3 = m := ⟨(M k3).toNat, by have := (HMB.out k3 hk3l).1; omega⟩
      rw [hm] at cMk cMx
      have hmnc : m < nc := by have := cnt_lt M len k3 hk3l; have := HNC.out; omega
      rw [hx] at cL
      rw [hxx] at cX
      obtain ⟨kb, koff, rfl, hkbl, hkc⟩ := (HK5.out.mono (Nat.le_refl _) hb') (by intro e; have := HKE.out; rw [e] at this; simp at this; omega)
      have cKk := hkc k (by have := HKE.out; omega)
      have cKx := hkc x (by have := HKE.out; omega)
      rw [hkv] at cKx
      obtain ⟨y, hy⟩ : ∃ y, y = I! K k := ⟨_, rfl⟩
      rw [← hy] at cKk cKx
      obtain ⟨v, hv⟩ : ∃ v, v = vt T (k : Int) := ⟨_, rfl⟩
      have htab := HTAB5.out.mono (Nat.le_refl _) hb'
      have HVK := Lib.hid (show ∀ q, Calls Tryz.prog 27 #[.pointer (some ⟨p, 0, none⟩), .int .i64 (k : Int)] (X.drewN q) fun e w' => e = .returned (.int .i64 v) ∧ ∃ r, w' = X.drewN r from fun q =>
        (HVX.out (X.drewN q) p k (htab.mono (Nat.le_refl _) ⟨rfl, rfl, rfl, Nat.le_refl _, fun _ _ => rfl⟩) (by omega) hkb).mono fun e w' ⟨h1, h2⟩ => ⟨by rw [h1, hv], q, h2.symm⟩)
      have HVY := Lib.hid (show ∀ q, Calls Tryz.prog 27 #[.pointer (some ⟨p, 0, none⟩), .int .i64 (x : Int)] (X.drewN q) fun e w' => e = .returned (.int .i64 v) ∧ ∃ r, w' = X.drewN r from fun q =>
        (HVX.out (X.drewN q) p x (htab.mono (Nat.le_refl _) ⟨rfl, rfl, rfl, Nat.le_refl _, fun _ _ => rfl⟩) (by omega) (by omega)).mono fun e w' ⟨h1, h2⟩ => ⟨by rw [h1, hv, hvv], q, h2.symm⟩)
      have HKC := Lib.hid (show ∀ Z, Hid (Below X.heap.size X Z) → Z.cell? ⟨kb, koff + x, none⟩ = some (.int .i64 y) ∧ Z.cell? ⟨kb, koff + k, none⟩ = some (.int .i64 y) ∧ Z.cell? ⟨g1, x3, none⟩ = some (.int .i64 (m : Int)) ∧ Z.cell? ⟨g1, k3, none⟩ = some (.int .i64 (m : Int)) ∧ Z.cell? ⟨g2, x, none⟩ = some (.int .i64 (x : Int)) from fun Z hZ =>
        ⟨(hZ.out.cell (p := ⟨kb, koff + x, none⟩) hkbl).trans cKx, (hZ.out.cell (p := ⟨kb, koff + k, none⟩) hkbl).trans cKk, (hZ.out.cell (p := ⟨g1, x3, none⟩) hrM.lt).trans cMx, (hZ.out.cell (p := ⟨g1, k3, none⟩) hrM.lt).trans cMk, (hZ.out.cell (p := ⟨g2, x, none⟩) hrL.lt).trans cX⟩)
      have HDR := Lib.hid (show Below X.heap.size X X.drew from ⟨rfl, rfl, rfl, Nat.le_refl _, fun _ _ => rfl⟩)
      have HRF := Lib.hid (Below.refl X.heap.size X)
      have HFQ := Lib.hid (show ∀ q, Below X.heap.size X (X.drewN q) from fun q => below_drewN (Below.refl _ _) q)
      have hdx : (x : Int) / 3 = (x3 : Int) := by omega
      have hdk : (k : Int) / 3 = (k3 : Int) := by omega
      have d1 : decide ((x : Int) < 0) = false := by first | (simp; done) | (simp; omega)
      have d2 : decide ((x : Int) > (k : Int)) = false := by first | (simp; done) | (simp; omega)
      have d3 : decide ((k : Int) < (x : Int)) = false := by first | (simp; done) | (simp; omega)
      have d5 : decide (k < x) = false := by simpa using hxk
      have d6 : decide (x > k) = false := by simpa using hxk
      have bx : (0 : Int) ≤ (x : Int) ∧ (x : Int) < (kl : Int) := by omega
      have bk : (0 : Int) ≤ (k : Int) ∧ (k : Int) < (kl : Int) := by omega
      have bx3 : (0 : Int) ≤ (x3 : Int) ∧ (x3 : Int) < (len : Int) := by omega
      have bk3 : (0 : Int) ≤ (k3 : Int) ∧ (k3 : Int) < (len : Int) := by omega
      have nx1 : x < kl := by omega
      have HX := Lib.hid hx
      have HM3 := Lib.hid (show M (k / 3) = m by rw [← hk3]; exact hm)
      have HKB := Lib.hid hkb
      have HXK := Lib.hid hxk
      have HX3 := Lib.hid (show k3 = k / 3 ∧ x3 = x / 3 from ⟨hk3, hx3⟩)
      have HL33 := Lib.hid hl3
      clear hx hxk hkv hvv hmm hxx hrow hb hb' hrL hrM hk3 hx3 hl3 hm hkbl hkc hy hv htab
      go_upto_region 15 with fail
      go_cut [111] (fun s wc => s = .bool false ∧ Below X.heap.size X wc)
      case first =>
        go_quiet ((go_at_call 27; first | with_reducible exact HVK.out _ | with_reducible exact HVY.out _))
        go_wp2
        go_meet
        exact ⟨rfl, by first | exact HFQ.out _ | exact HRF.out⟩
      case rest =>
        obtain ⟨rfl, hbY⟩ := hcut
        obtain ⟨Y, rfl⟩ : ∃ Y : World, Y = wc := ⟨_, rfl⟩
        clear cX cMx cMk cKk cKx cL
        have cMk := (HKC.out Y (Lib.hid hbY)).2.2.2.1
        have hrow := HRW.out.after hbY
        have HBY := Lib.hid (show Below gf W6 Y from HB.out.trans (hbY.mono (by have := HRW.out.lt; omega)))
        by_cases e : x = k
        · have d0 : ((x : Int) == (k : Int)) = true := by simp; omega
          have d4 : (x == k) = true := by simpa using e
          have cF := hrow.cell (iv_get (sdN T M L k) hmnc)
          have hfr := hrow.free m
          have hsb := HSB.out M L k m
          obtain ⟨f, hf⟩ : ∃ f, f = sdN T M L k m := ⟨_, rfl⟩
          rw [← hf] at cF hsb
          have ew : IntKind.i64.wrap (f + 1) = f + 1 := IntWalk.i64_in _ (by omega)
          have hset := hrow.set m (.int .i64 (f + 1))
          rw [iv_set, hf, HSY.out M L k m HKB.out HM3.out (by rw [HX.out, e]), ← hf] at hset
          have HS1 := Lib.hid (show RowIs (Y.setCell ⟨gf, m, none⟩ (.int .i64 (f + 1))) gf 3 (iv (sdN T M L (k + 1)) nc) ∧ Below gf W6 (Y.setCell ⟨gf, m, none⟩ (.int .i64 (f + 1))) from ⟨hset, HBY.out.setCell (Nat.le_refl _) _⟩)
          clear hrow hset hbY hf e hsb
          go_wp2
          go_roundw
          case rel => exact ⟨k + 1, by omega, by go_num, HS1.out.1, HS1.out.2⟩
          case measure => simp [intOf]; omega
        · have d0 : ((x : Int) == (k : Int)) = false := by simp; omega
          have d4 : (x == k) = false := by simpa using e
          have hno : sdN T M L k = sdN T M L (k + 1) := sdN_no (by rw [HX.out]; omega)
          rw [hno] at hrow
          have HS1 := Lib.hid hrow
          clear hrow hbY e hno
          go_wp2
          go_roundw
          case rel => exact ⟨k + 1, by omega, by go_num, HS1.out, HBY.out⟩
          case measure => simp [intOf]; omega
    · obtain rfl : k = kl := by omega
      have hb' : Below W6.heap.size W6 X := by rw [← HGF.out]; exact hb
      have HR6 := Lib.hid (HR5.out.after hb')
      have HT6 := Lib.hid (HT5.out.mono (Nat.le_refl _) hb')
      have HK6 := Lib.hid (HK5.out.mono (Nat.le_refl _) hb')
      have HB6 := Lib.hid (below_more HB5.out hb' HB5.out.size)
      have HCY := Lib.hid (show ∀ (j : Nat), j < nc → ∀ (X : World) (hT : TrisAt X ao T) (hK : IntsAt X ko K), Calls Tryz.prog 20 #[.agg #[.int .i64 N, .slice ao len cap], .slice ko k kc, .int .i64 (j : Int)] X fun e w' => ∃ a1 n1 c1 a2 n2 c2 a3 n3 c3,
        e = .returned (.tuple #[.agg #[.int .i64 (sdN T M L k j), .slice a1 n1 c1], .slice a2 n2 c2, .slice a3 n3 c3, .int .i64 0]) ∧ Below X.heap.size X w' from fun j hj X hT hK => HCN.out n HNN.out M L HS.out (by first | rfl | trivial) HM.out HLE.out j (by rw [HNC.out]; omega) X hT hK)
      clear hrow hb hb' hk hkb
      go_wp2
      go_loopw [13] (fun c ws => ∃ j : Nat, j ≤ nc ∧ c = .int .i64 j ∧ Below X.heap.size X ws) (fun c _ => nc - (intOf c).toNat)
      case atStart => exact ⟨0, by omega, rfl, Below.refl _ _⟩
      case round =>
        obtain ⟨j, hj, rfl, hbZ⟩ := hrel
        obtain ⟨Z, rfl⟩ : ∃ X : World, X = wr := ⟨_, rfl⟩
        have HBZ := Lib.hid hbZ
        by_cases hjb : j < nc
        · have HC := Lib.hid (HCY.out j hjb Z (HT6.out.mono (Nat.le_refl _) hbZ) (HK6.out.mono (Nat.le_refl _) hbZ))
          have hrZ := HR6.out.after hbZ
          have c0 := hrZ.cell (i := 0) rfl
          have c1 := hrZ.cell (i := 1) rfl
          clear hrZ hbZ
          go_wp2_with fail
          refine HC.out.mono ?_
          rintro e Z1 ⟨a1, n1, f1, a2, n2, f2, a3, n3, f3, rfl, hb1⟩
          have hrf := HRW.out.after (below_more HBZ.out hb1 HBZ.out.size)
          obtain ⟨f, hf⟩ : ∃ f, f = sdN T M L k j := ⟨_, rfl⟩
          rw [← hf]
          obtain ⟨Y, hY⟩ : ∃ Y, Y = Z1.alloc (.cells #[.int .i64 f, .slice a1 n1 f1] 24) := ⟨_, rfl⟩
          have hb2 : Below Z1.heap.size Z1 Y := by rw [hY]; exact (Below.refl _ _).alloc (Nat.le_refl _) _
          have hbY := below_more HBZ.out (below_more hb1 hb2 hb1.size) HBZ.out.size
          have hy : RowIs Y Z1.heap.size 24 [.int .i64 f, .slice a1 n1 f1] := by rw [hY]; exact RowIs.made Z1 24 [.int .i64 f, .slice a1 n1 f1]
          have cF := (hrf.after hb2).cell (iv_get (sdN T M L k) hjb)
          rw [← hf] at cF
          have y0 := hy.cell (i := 0) rfl
          have y1 := hy.cell (i := 1) rfl
          have HY := Lib.hid hY
          have HBQ := Lib.hid (show ∀ q, Below X.heap.size X (Y.drewN q) from fun q => below_drewN hbY q)
          have HBY := Lib.hid hbY
          clear hrf hb1 hb2 hbY hy hY hf
          go_upto_region 23 with fail
          rw [← HY.out]
          go_quiet (fail)
          go_wp2
          go_roundw
          case rel => exact ⟨j + 1, by omega, by go_num, by first | exact HBQ.out _ | exact HBY.out⟩
          case measure => simp [intOf]; omega
        · obtain rfl : j = nc := by omega
          have HBF := Lib.hid (below_more HB6.out hbZ HB6.out.size)
          clear hbZ
          go_wp2
          exact bodyPost_ret (v := .bool true) (by simp [results, Tryz.results6, go_sem]) rfl ⟨rfl, HBF.out⟩
end Go.Proofs.YtfbpjlfimmjieaaGreat

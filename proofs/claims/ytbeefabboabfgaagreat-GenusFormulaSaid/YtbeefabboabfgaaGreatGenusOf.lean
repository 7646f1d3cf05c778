/- genus.Of: the numbers of each shell. genus.Whole: the numbers of all shells together. Of no table: shell.Of, Count, border.Loops, genus.Of, Whole. -/
import Derived.Test.YtbeefabboabfgaaGreatGenusA
namespace Go.Proofs.YtbeefabboabfgaaGreat
set_option linter.unusedVariables false
set_option linter.unusedSimpArgs false
open Go.RowKit
theorem infoNum : (Tryz.prog.info? 33).map (fun i => (i.zero, i.size, i.bytes)) = some (some (.agg #[.int .i64 0, .int .i64 0, .int .i64 0, .int .i64 0, .int .i64 0, .int .i64 0]), 6, 48) := by kernel_rfl
def nV (T : List Tr) (L : Nat → Int) (n : Nat) : Nat → Nat := cntK (shV T L) n
def nF (T : List Tr) (L : Nat → Int) : Nat → Nat := cntK L T.length
def keyB (T : List Tr) (L : Nat → Int) (n : Nat) (j : Nat) : Int := shV T L ((headsB (bordE T (3 * T.length)) n).getD j 0)
def nB (T : List Tr) (L : Nat → Int) (n : Nat) : Nat → Nat := cntK (keyB T L n) (headsB (bordE T (3 * T.length)) n).length
def nT (T : List Tr) (L : Nat → Int) : Nat → Nat := twn T L (3 * T.length)
/-- The numbers of the shells, six a shell. -/
def genF (T : List Tr) (L : Nat → Int) (n : Nat) : Nat → Int := finF (nV T L n) (nF T L) (nB T L n) (nT T L)
/-- The state of genus.Of's loops: the numbers, the ends of edges. -/
structure GSt (W X : World) (go gt m : Nat) (Φ τ : Nat → Int) : Prop where
  row : RowIs X go 33 (iv Φ (6 * m))
  tw : RowIs X gt 3 (iv τ m)
  low : Below go W X
  ord : go < gt
section
variable {W X Y : World} {go gt m : Nat} {Φ τ : Nat → Int}
theorem GSt.more (h : GSt W X go gt m Φ τ) (hb : Below X.heap.size X Y) : GSt W Y go gt m Φ τ :=
  ⟨h.row.after hb, h.tw.after hb, below_more h.low hb (by have := h.row.lt; omega), h.ord⟩
theorem GSt.setO (h : GSt W X go gt m Φ τ) (i : Nat) (v : Int) : GSt W (X.setCell ⟨go, i, none⟩ (.int .i64 v)) go gt m (upd Φ i v) τ := by
  have := h.row.set i (.int .i64 v)
  rw [iv_set] at this
  exact ⟨this, h.tw.other (by have := h.ord; show go ≠ gt; omega) _, h.low.setCell (p := ⟨go, i, none⟩) (Nat.le_refl _) _, h.ord⟩
theorem GSt.setT (h : GSt W X go gt m Φ τ) (i : Nat) (v : Int) : GSt W (X.setCell ⟨gt, i, none⟩ (.int .i64 v)) go gt m Φ (upd τ i v) := by
  have := h.tw.set i (.int .i64 v)
  rw [iv_set] at this
  have ho := h.ord
  exact ⟨h.row.other (by show gt ≠ go; omega) _, this, h.low.setCell (p := ⟨gt, i, none⟩) (by show go ≤ gt; omega) _, h.ord⟩
end
theorem numF_zero : numF (fun _ => 0) (fun _ => 0) (fun _ => 0) = fun _ => 0 := by
  funext i
  unfold numF
  by_cases h0 : i % 6 = 0
  · rw [if_pos h0]; rfl
  · rw [if_neg h0]
    by_cases h2 : i % 6 = 2
    · rw [if_pos h2]; rfl
    · rw [if_neg h2]
      by_cases h3 : i % 6 = 3
      · rw [if_pos h3]; rfl
      · rw [if_neg h3]
theorem twn_upd {T : List Tr} {L : Nat → Int} {c s : Nat} (h : L (c / 3) = (s : Int)) (d : Nat) (hd : d = if opp T (c : Nat) < 0 then 2 else 1) : upd (fun k => (twn T L c k : Int)) s ((twn T L c s : Int) + (d : Int)) = fun k => (twn T L (c + 1) k : Int) := by
  funext k
  unfold upd
  rw [twn_succ, h]
  by_cases e : k = s
  · subst e
    rw [if_pos rfl, if_pos rfl, ← hd]
    omega
  · rw [if_neg e, if_neg (by omega)]
    simp
set_option maxRecDepth 100000 in
set_option maxHeartbeats 4000000 in
theorem genus_of (b n m : Nat) (T : List Tr) (L : Nat → Int) (w : World) (h : Tab w b n T) (hf : FirstAt w b T n) (hs : Surf n T) (hL : IsShells (Adj T) T.length L) (hm : (m : Int) = cnt L T.length) :
    Calls Tryz.prog 10 #[.pointer (some ⟨b, 0, none⟩)] w fun e w' => ∃ g, e = .returned (.slice (some ⟨g, 0, none⟩) m m) ∧ w.heap.size ≤ g ∧ RowIs w' g 33 (iv (genF T L n) (6 * m)) ∧ Below w.heap.size w w' := by
  obtain ⟨i0, hi, hz0, hz1, hz2⟩ := info_parts info3
  obtain ⟨j0, hj, hy0, hy1, hy2⟩ := info_parts infoNum
  obtain ⟨W0, hW0⟩ : ∃ W0, W0 = w.alloc (.cells #[.pointer (some ⟨b, 0, none⟩)] 26) := ⟨_, rfl⟩
  have hb0 : Below w.heap.size w W0 := by rw [hW0]; exact (Below.refl _ _).alloc (Nat.le_refl _) _
  have hr0 : RowIs W0 w.heap.size 26 [.pointer (some ⟨b, 0, none⟩)] := by rw [hW0]; exact RowIs.made w 26 [.pointer (some ⟨b, 0, none⟩)]
  have hn4 : n ≤ 4096 := by have := hs.n1; omega
  have ht8 := hs.t1
  have hmle : m ≤ T.length := by have := hL.cnt_le; omega
  have HLS := Lib.hid (show ∀ k, k < T.length → ∃ s : Nat, s < m ∧ L k = (s : Int) from fun k hk => by
    obtain ⟨s, e⟩ := Int.eq_ofNat_of_zero_le (hL.nonneg k hk)
    have := cnt_lt L T.length k hk
    exact ⟨s, by omega, e⟩)
  have HVS := Lib.hid (show ∀ v, v < n → ∃ s : Nat, s < m ∧ shV T L v = (s : Int) from fun v hv => by
    obtain ⟨c, hc, hc3, -⟩ := firstF_has hs (v := v) (by omega)
    unfold shV
    rw [hc, Int.toNat_natCast]
    exact HLS.out (c / 3) (by omega))
  have HTAB := Lib.hid (show ∀ X, Below w.heap.size w X → Tab X b n T ∧ FirstAt X b T n from fun X hX => ⟨h.mono (Nat.le_refl _) hX, hf.mono (Nat.le_refl _) hX⟩)
  have HS := Lib.hid hs
  have HSH := Lib.hid hL
  have HM := Lib.hid hm
  have HB0 := Lib.hid hb0
  have HR0 := Lib.hid hr0
  have HW0 := Lib.hid hW0
  have HOL := Lib.hid (of_L hs hL W0 b (HTAB.out W0 hb0).1)
  obtain ⟨xb, hxb⟩ : ∃ x, x = w.heap.size := ⟨_, rfl⟩
  rw [← hxb] at HR0
  obtain ⟨len, hlen⟩ : ∃ l, l = T.length := ⟨_, rfl⟩
  rw [← hlen] at HOL ht8 hmle HLS
  have HL := Lib.hid hlen
  have HXB := Lib.hid hxb
  clear h hf hs hL hm hb0 hr0 hW0 hxb hlen
  go_enter Tryz.func10, Tryz.ntmps10
  go_upto_region 1 with fail
  rw [← HW0.out, ← HXB.out]
  have c0 := HR0.out.cell (i := 0) rfl
  go_wp2_with fail
  refine HOL.out.mono ?_
  rintro e w1 ⟨gl, rfl, hgl, hrl, hb1⟩
  obtain ⟨W1, hW1⟩ : ∃ W1, W1 = w1.alloc (.cells #[.slice (some ⟨gl, 0, none⟩) len len] 45) := ⟨_, rfl⟩
  have hb11 : Below w1.heap.size w1 W1 := by rw [hW1]; exact (Below.refl _ _).alloc (Nat.le_refl _) _
  obtain ⟨b3, hb3⟩ : ∃ x, x = w1.heap.size := ⟨_, rfl⟩
  have HR3 := Lib.hid (show RowIs W1 b3 45 [.slice (some ⟨gl, 0, none⟩) len len] from by rw [hW1, hb3]; exact RowIs.made w1 45 [.slice (some ⟨gl, 0, none⟩) len len])
  have HRL := Lib.hid (hrl.after hb11)
  have HB01 := Lib.hid (below_more hb1 hb11 hb1.size)
  have HR01 := Lib.hid (HR0.out.after HB01.out)
  have HBW1 := Lib.hid (below_more HB0.out HB01.out HB0.out.size)
  have HW1 := Lib.hid hW1
  have HB3 := Lib.hid hb3
  have HCT := Lib.hid (count_L HS.out HSH.out HM.out W1 b (HTAB.out W1 HBW1.out).1)
  have c1 := HR01.out.cell (i := 0) rfl
  clear hW1 hb11 hb3 hrl hb1 hgl c0
  go_upto_region 2 with fail
  rw [← HW1.out, ← HB3.out]
  go_wp2_with fail
  refine HCT.out.mono ?_
  rintro e w2 ⟨rfl, hb2⟩
  have HB12 := Lib.hid hb2
  clear c1 hb2
  go_wp2_with (at_make; refine wpList_make_full _ rfl _ _ _ rfl w2.heap.size 33 j0 (.agg #[.int .i64 0, .int .i64 0, .int .i64 0, .int .i64 0, .int .i64 0, .int .i64 0]) 6 (by kernel_rfl) hj hy0 hy1 _ _ _ _ m rfl rfl rfl rfl (by rw [hy2]; omega) (by unfold maxLen; omega) (Nat.le_refl _) ?_)
  intro w3 hown hgr
  have hro : RowIs w3 w2.heap.size 33 (iv (fun _ => 0) (6 * m)) := by rw [← madeCells_six]; exact RowIs.of_owns hown
  have hb23 : Below w2.heap.size w2 w3 := (Below.refl _ _).grown hgr (Nat.le_refl _) (by simp)
  obtain ⟨go, hgo⟩ : ∃ g, g = w2.heap.size := ⟨_, rfl⟩
  rw [← hgo] at hro ⊢
  have HRO := Lib.hid hro
  have HB23 := Lib.hid hb23
  have HGO := Lib.hid hgo
  clear hown hgr hro hb23 hgo
  go_upto_region 3 with fail
  go_wp2_with (at_make; refine wpList_make_full _ rfl _ _ _ rfl w3.heap.size 3 i0 (.int .i64 0) 1 (by kernel_rfl) hi hz0 hz1 _ _ _ _ m rfl rfl rfl rfl (by rw [hz2]; omega) (by unfold maxLen; omega) (by simp) ?_)
  intro W4 hown hgr
  rw [madeCells_iv] at hown
  have hrt := RowIs.of_owns hown
  have hb34 : Below w3.heap.size w3 W4 := (Below.refl _ _).grown hgr (Nat.le_refl _) (by simp)
  obtain ⟨gt, hgt⟩ : ∃ g, g = w3.heap.size := ⟨_, rfl⟩
  rw [← hgt] at hrt ⊢
  have hsz12 := HB12.out.size
  have hsz23 := HB23.out.size
  have hlgo : go < gt := by have := HRO.out.lt; omega
  have HGS := Lib.hid (show GSt W4 W4 go gt m (numF (fun _ => 0) (cntK L 0) (fun _ => 0)) (fun s => (twn T L (3 * 0) s : Int)) from by
    refine ⟨?_, ?_, Below.refl _ _, hlgo⟩
    · rw [show cntK L 0 = fun _ => 0 from rfl, numF_zero]
      exact HRO.out.after hb34
    · exact hrt)
  have HLOW := Lib.hid (show ∀ X, Below go W4 X → X.cell? ⟨xb, 0, none⟩ = some (.pointer (some ⟨b, 0, none⟩)) ∧ X.cell? ⟨b3, 0, none⟩ = some (.slice (some ⟨gl, 0, none⟩) len len) ∧ RowIs X gl 3 (iv L len) ∧ Below w.heap.size w X from fun X hX => by
    have h24 : Below w2.heap.size w2 X := (HB23.out.trans (hb34.mono hsz23)).trans (by rw [← HGO.out]; exact hX)
    have h1X : Below W1.heap.size W1 X := below_more HB12.out h24 hsz12
    refine ⟨(HR01.out.after h1X).cell (i := 0) rfl, (HR3.out.after h1X).cell (i := 0) rfl, HRL.out.after h1X, below_more HBW1.out h1X HBW1.out.size⟩)
  have HGO2 := Lib.hid (show w.heap.size ≤ go from by rw [HGO.out]; have := HBW1.out.size; omega)
  clear hown hgr hrt hb34 hgt hsz12 hsz23 HRO HB23 HB12 HRL HR01 HR3 HBW1 HW1 HB3 HCT HOL HB01 HR0 HB0 HW0
  obtain ⟨q1, q3, -, -⟩ := HLOW.out W4 (Below.refl _ _)
  go_upto_region 6 with fail
  clear q1 q3
  go_loopw [25] (fun i ws => ∃ k : Nat, k ≤ len ∧ i = .int .i64 k ∧ GSt W4 ws go gt m (numF (fun _ => 0) (cntK L k) (fun _ => 0)) (fun s => (twn T L (3 * k) s : Int))) (fun i _ => len - (intOf i).toNat)
  case atStart => exact ⟨0, by omega, rfl, HGS.out⟩
  case round =>
  clear HGS
  obtain ⟨k, hk, rfl, hst⟩ := hrel
  obtain ⟨X, rfl⟩ : ∃ X : World, X = wr := ⟨_, rfl⟩
  have HST := Lib.hid hst
  obtain ⟨x1, x3, xl, -⟩ := HLOW.out X hst.low
  clear hst
  by_cases hkl : k < len
  case neg =>
    obtain rfl : len = k := by omega
    have HF1 := Lib.hid (show GSt W4 X go gt m (numF (cntK (shV T L) 0) (nF T L) (fun _ => 0)) (fun s => (nT T L s : Int)) from by
      have := HST.out
      rw [HL.out] at this
      exact this)
    obtain ⟨-, -, -, hbw⟩ := HLOW.out X HST.out.low
    have HVT := Lib.hid (vertices_any X b n T (HTAB.out X hbw).1.s)
    clear HST xl hbw x3 hkl hk
    go_wp2_with fail
    refine HVT.out.mono ?_
    rintro e X' ⟨rfl, rfl⟩
    clear x1 HVT
    go_wp2
    go_loopw [66] (fun i ws => ∃ v : Nat, v ≤ n ∧ i = .int .i64 v ∧ GSt W4 ws go gt m (numF (cntK (shV T L) v) (nF T L) (fun _ => 0)) (fun s => (nT T L s : Int))) (fun i _ => n - (intOf i).toNat)
    case atStart => exact ⟨0, by omega, rfl, HF1.out⟩
    case round =>
    clear HF1
    obtain ⟨v, hv, rfl, hst⟩ := hrel
    obtain ⟨X, rfl⟩ : ∃ X : World, X = wr := ⟨_, rfl⟩
    have HST := Lib.hid hst
    obtain ⟨x1, x3, xl, hbw⟩ := HLOW.out X hst.low
    clear hst
    by_cases hvn : v < n
    case neg =>
      obtain rfl : n = v := by omega
      have HF2 := Lib.hid (show GSt W4 X go gt m (numF (nV T L n) (nF T L) (cntK (keyB T L n) 0)) (fun s => (nT T L s : Int)) from HST.out)
      have HLP := Lib.hid (loops_ok b n T X (HTAB.out X hbw).1 HS.out)
      have hgX : go < X.heap.size := HST.out.row.lt
      obtain ⟨E, hE⟩ : ∃ E, E = bordE T (3 * T.length) := ⟨_, rfl⟩
      rw [← hE] at HLP
      have hone : OneIn E := by rw [hE]; exact HS.out.oneIn
      have HONE := Lib.hid hone
      have HEE := Lib.hid hE
      obtain ⟨hl, hhl⟩ : ∃ x, x = (headsB E n).length := ⟨_, rfl⟩
      have hll : (loopsL E n).length = hl := by rw [hhl, loopsL_heads, List.length_map]
      have hlb := headsB_le E n
      rw [hll] at HLP
      rw [← hhl] at hlb
      have HHL := Lib.hid hhl
      clear xl hbw x3 hvn hv HST hone hE hhl hll
      go_wp2_with fail
      refine HLP.out.mono ?_
      rintro e Y ⟨vl, vs, rfl, hown, hfam, hbY⟩
      obtain ⟨la, lc, hve⟩ := owns_slice hown
      subst hve
      have HF3 := Lib.hid (HF2.out.more hbY)
      have HOW := Lib.hid hown
      have HFA := Lib.hid hfam
      have hXY := hbY.size
      clear x1 HLP HF2 hown hfam hbY
      go_wp2
      go_loopw [83] (fun i ws => ∃ j : Nat, j ≤ hl ∧ i = .int .i64 j ∧ GSt W4 ws go gt m (numF (nV T L n) (nF T L) (cntK (keyB T L n) j)) (fun s => (nT T L s : Int)) ∧ But Y.heap.size go Y ws ∧ Y.heap.size ≤ ws.heap.size) (fun i _ => hl - (intOf i).toNat)
      case atStart => exact ⟨0, by omega, rfl, HF3.out, But.refl _ _ _, Nat.le_refl _⟩
      case round =>
      clear HF3
      obtain ⟨j, hj', rfl, hst, hbut, hsz⟩ := hrel
      obtain ⟨Z, rfl⟩ : ∃ X : World, X = wr := ⟨_, rfl⟩
      have HST := Lib.hid hst
      have HBUT := Lib.hid hbut
      have HSZ := Lib.hid hsz
      obtain ⟨x1, x3, xl, hbw⟩ := HLOW.out Z hst.low
      clear hst hbut hsz
      by_cases hjl : j < hl
      case neg =>
        obtain rfl : hl = j := by omega
        have HF4 := Lib.hid (show GSt W4 Z go gt m (dunF (nV T L n) (nF T L) (nB T L n) (nT T L) 0) (fun s => (nT T L s : Int)) from by
          rw [dunF_zero]
          have := HST.out
          rw [HHL.out, HEE.out] at this
          exact this)
        clear HST HBUT HSZ HOW HFA x1 x3 xl hbw hjl hj' hXY hgX
        go_wp2
        go_loopw [102] (fun i ws => ∃ j : Nat, j ≤ m ∧ i = .int .i64 j ∧ GSt W4 ws go gt m (dunF (nV T L n) (nF T L) (nB T L n) (nT T L) j) (fun s => (nT T L s : Int))) (fun i _ => m - (intOf i).toNat)
        case atStart => exact ⟨0, by omega, rfl, HF4.out⟩
        case round =>
        clear HF4
        obtain ⟨j, hj', rfl, hst⟩ := hrel
        obtain ⟨Z, rfl⟩ : ∃ X : World, X = wr := ⟨_, rfl⟩
        have HST := Lib.hid hst
        obtain ⟨-, -, -, hbw⟩ := HLOW.out Z hst.low
        have HBW := Lib.hid hbw
        clear hst hbw
        by_cases hjm : j < m
        case neg =>
          obtain rfl : m = j := by omega
          have HEND := Lib.hid (show RowIs Z go 33 (iv (genF T L n) (6 * m)) from by
            have := HST.out.row
            rw [iv_congr (h := genF T L n) (fun i hi => by unfold dunF genF; rw [if_pos (by omega)])] at this
            exact this)
          go_wp2
          go_ret
          exact ⟨go, rfl, HGO2.out, HEND.out, HBW.out⟩
        case pos =>
        obtain ⟨Z1, hZ1⟩ : ∃ Z1, Z1 = Z.drew := ⟨_, rfl⟩
        have HST1 := Lib.hid (show GSt W4 Z1 go gt m (dunF (nV T L n) (nF T L) (nB T L n) (nT T L) j) (fun s => (nT T L s : Int)) from by rw [hZ1]; exact HST.out.more (Below.refl _ _).drew)
        have bT : nT T L j ≤ 100000 := by
          have h1 := twn_le T L (3 * T.length) j
          have h2 := HL.out
          unfold nT
          omega
        have bV : nV T L n j ≤ 100000 := by have := cntK_le (shV T L) n j; unfold nV; omega
        have bF : nF T L j ≤ 100000 := by have := cntK_le L T.length j; have := HL.out; unfold nF; omega
        have bB : nB T L n j ≤ 100000 := by
          have := cntK_le (keyB T L n) (headsB (bordE T (3 * T.length)) n).length j
          have h2 := headsB_le (bordE T (3 * T.length)) n
          unfold nB
          omega
        have HDN := Lib.hid (done_any go (j * 6) (6 * m) (dunF (nV T L n) (nF T L) (nB T L n) (nT T L) j) (nV T L n j) (nF T L j) (nB T L n j) (nT T L j) Z1 HST1.out.row (by omega)
          (by have := dunF_here (nV T L n) (nF T L) (nB T L n) (nT T L) j 0 (by omega); rw [show 6 * j + 0 = 6 * j from rfl, numF_V, show 6 * j = j * 6 by omega] at this; exact this)
          (by have := dunF_here (nV T L n) (nF T L) (nB T L n) (nT T L) j 2 (by omega); rw [numF_F, show 6 * j + 2 = j * 6 + 2 by omega] at this; exact this)
          (by have := dunF_here (nV T L n) (nF T L) (nB T L n) (nT T L) j 3 (by omega); rw [numF_B, show 6 * j + 3 = j * 6 + 3 by omega] at this; exact this) bV bF bB bT)
        rw [show j * 6 + 1 = 6 * j + 1 by omega, show j * 6 + 4 = 6 * j + 4 by omega, show j * 6 + 5 = 6 * j + 5 by omega, dunF_step] at HDN
        have g0 := HST.out.tw.cell (iv_get (fun s => (nT T L s : Int)) hjm)
        obtain ⟨tj, htj⟩ : ∃ x, x = nT T L j := ⟨_, rfl⟩
        rw [← htj] at g0 HDN
        have HZ1 := Lib.hid hZ1
        clear bV bF bB bT htj hZ1
        go_upto_region 29 with fail
        go_still_tail 7, (by kernel_rfl)
        change wpList _ _ _ _ _ Z.drew
        rw [← HZ1.out]
        clear g0
        go_wp2_with fail
        refine HDN.out.mono ?_
        rintro e Z2 ⟨rfl, hg2, hr2⟩
        have HF := Lib.hid (show GSt W4 Z2 go gt m (dunF (nV T L n) (nF T L) (nB T L n) (nT T L) (j + 1)) (fun s => (nT T L s : Int)) from
          ⟨hr2, HST1.out.tw.grown hg2 (by have := HST1.out.ord; simp; omega), HST1.out.low.grown hg2 (by have := HST1.out.row.lt; omega) (fun q hq => by cases hq; omega), HST1.out.ord⟩)
        clear hg2 hr2 HDN HST HST1
        go_wp2
        go_roundw
        case rel => exact ⟨j + 1, by omega, by go_num, HF.out⟩
        case measure => simp [intOf]; omega
      case pos =>
      have hv0 : ∃ v0, (headsB E n)[j]? = some v0 := ⟨_, List.getElem?_eq_getElem (by rw [← HHL.out]; exact hjl)⟩
      obtain ⟨v0, hv0⟩ := hv0
      obtain ⟨hv0n, hv0m⟩ := headsB_mem.1 (List.mem_of_getElem? hv0)
      obtain ⟨tl, htl⟩ := orb_head (minB_iff.1 hv0m).1
      have hlj : (loopsL E n)[j]? = some ((v0 : Int) :: tl) := by rw [loopsL_heads, List.getElem?_map, hv0, ← htl]; rfl
      obtain ⟨ea, ec, hvs, hrow⟩ := HFA.out.2 j _ hlj
      obtain ⟨g1, cap1, e1, hg1, hg1l, -, -, hcell1, -⟩ := owns_block HOW.out (by omega)
      obtain ⟨g2, cap2, e2, hg2, hg2l, -, -, hcell2, -⟩ := owns_block hrow (by simp)
      simp only [Value.slice.injEq] at e1 e2
      obtain ⟨rfl, -, -⟩ := e1
      obtain ⟨rfl, -, -⟩ := e2
      have y1 := (HBUT.out.cell hg1l (by omega)).trans (hcell1 j _ hvs)
      have y2 := (HBUT.out.cell hg2l (by omega)).trans (hcell2 0 (.int .i64 (v0 : Int)) rfl)
      obtain ⟨el, hel⟩ : ∃ x, x = ((v0 : Int) :: tl).length := ⟨_, rfl⟩
      have hel0 : 0 < el := by rw [hel]; simp
      rw [← hel] at y1
      obtain ⟨s, hsm, hvs0⟩ := HVS.out v0 hv0n
      have HAT := Lib.hid (at_any b n v0 xb b3 gl T L Z HS.out (HTAB.out Z hbw).2 hv0n x1 (by rw [← HL.out]; exact x3) (by rw [← HL.out]; exact xl))
      rw [show L ((firstF T 0 v0).toNat / 3) = (s : Int) from hvs0] at HAT
      have HKB := Lib.hid (show keyB T L n j = (s : Int) from by
        unfold keyB
        rw [← HEE.out, List.getD_eq_getElem?_getD, hv0]
        exact hvs0)
      clear hbw xl hvs0 x1 x3 hv0 hv0m htl hlj hvs hrow hcell1 hcell2 hel
      go_wp2_with fail
      refine HAT.out.mono ?_
      rintro e Z2 ⟨rfl, hb2⟩
      have HST2 := Lib.hid (HST.out.more hb2)
      have HBUT2 := Lib.hid (HBUT.out.more hb2 HSZ.out)
      have HSZ2 := Lib.hid (show Y.heap.size ≤ Z2.heap.size from by have := hb2.size; have := HSZ.out; omega)
      have hcB := cntK_le (keyB T L n) j s
      have o0 := HST2.out.row.cell (iv_get (numF (nV T L n) (nF T L) (cntK (keyB T L n) j)) (show s * 6 + 3 < 6 * m by omega))
      rw [show s * 6 + 3 = 6 * s + 3 by omega, numF_B, show 6 * s + 3 = s * 6 + 3 by omega] at o0
      have of0 := HST2.out.row.free (s * 6 + 3)
      obtain ⟨f, hfc⟩ : ∃ f, f = cntK (keyB T L n) j s := ⟨_, rfl⟩
      rw [← hfc] at o0 hcB
      have HF := Lib.hid (show GSt W4 (Z2.setCell ⟨go, s * 6 + 3, none⟩ (.int .i64 ((f : Int) + 1))) go gt m (numF (nV T L n) (nF T L) (cntK (keyB T L n) (j + 1))) (fun s => (nT T L s : Int)) from by
        have := HST2.out.setO (s * 6 + 3) ((f : Int) + 1)
        rw [hfc, show s * 6 + 3 = 6 * s + 3 by omega, numF_upB _ _ _ (cntK (keyB T L n) (j + 1)) s (fun i => by
          rw [cntK_succ, HKB.out]
          by_cases e : i = s
          · rw [if_pos e, if_pos (by omega)]
          · rw [if_neg e, if_neg (by omega)])] at this
        rw [hfc, show s * 6 + 3 = 6 * s + 3 by omega]
        exact this)
      have HBUT3 := Lib.hid (show But Y.heap.size go Y (Z2.setCell ⟨go, s * 6 + 3, none⟩ (.int .i64 ((f : Int) + 1))) from HBUT2.out.grown (grown_set _ _ _ _) HSZ2.out (fun q hq => .inr (by cases hq; rfl)))
      have HSZ3 := Lib.hid (show Y.heap.size ≤ (Z2.setCell ⟨go, s * 6 + 3, none⟩ (.int .i64 ((f : Int) + 1))).heap.size from by have := (grown_set Z2 go (s * 6 + 3) (.int .i64 ((f : Int) + 1))).size; have := HSZ2.out; omega)
      clear hfc hb2 HST HST2 HAT y1 y2
      go_wp2
      go_roundw
      case rel => exact ⟨j + 1, by omega, by go_num, HF.out, HBUT3.out, HSZ3.out⟩
      case measure => simp [intOf]; omega
    case pos =>
    obtain ⟨s, hsm, hvs⟩ := HVS.out v hvn
    have HAT := Lib.hid (at_any b n v xb b3 gl T L X HS.out (HTAB.out X hbw).2 hvn x1 (by rw [← HL.out]; exact x3) (by rw [← HL.out]; exact xl))
    rw [show L ((firstF T 0 v).toNat / 3) = (s : Int) from hvs] at HAT
    have HKV := Lib.hid hvs
    clear hbw xl hvs x1 x3
    go_wp2_with fail
    refine HAT.out.mono ?_
    rintro e X2 ⟨rfl, hb2⟩
    have HST2 := Lib.hid (HST.out.more hb2)
    have hcV := cntK_le (shV T L) v s
    have o0 := HST2.out.row.cell (iv_get (numF (cntK (shV T L) v) (nF T L) (fun _ => 0)) (show s * 6 < 6 * m by omega))
    rw [show s * 6 = 6 * s by omega, numF_V, show 6 * s = s * 6 by omega] at o0
    have of0 := HST2.out.row.free (s * 6)
    obtain ⟨f, hfc⟩ : ∃ f, f = cntK (shV T L) v s := ⟨_, rfl⟩
    rw [← hfc] at o0 hcV
    have HF := Lib.hid (show GSt W4 (X2.setCell ⟨go, s * 6, none⟩ (.int .i64 ((f : Int) + 1))) go gt m (numF (cntK (shV T L) (v + 1)) (nF T L) (fun _ => 0)) (fun s => (nT T L s : Int)) from by
      have := HST2.out.setO (s * 6) ((f : Int) + 1)
      rw [hfc, show s * 6 = 6 * s by omega, numF_upV _ (cntK (shV T L) (v + 1)) _ _ s (fun j => by
        rw [cntK_succ, HKV.out]
        by_cases e : j = s
        · rw [if_pos e, if_pos (by omega)]
        · rw [if_neg e, if_neg (by omega)])] at this
      rw [hfc, show s * 6 = 6 * s by omega]
      exact this)
    clear hfc hb2 HST HST2 HAT
    go_wp2
    go_roundw
    case rel => exact ⟨v + 1, by omega, by go_num, HF.out⟩
    case measure => simp [intOf]; omega
  case pos =>
  obtain ⟨s, hsm, hls⟩ := HLS.out k hkl
  have l0 := xl.cell (iv_get L hkl)
  rw [hls] at l0
  have HLK := Lib.hid hls
  have hcF := cntK_le L k s
  have o0 := HST.out.row.cell (iv_get (numF (fun _ => 0) (cntK L k) (fun _ => 0)) (show s * 6 + 2 < 6 * m by omega))
  rw [show s * 6 + 2 = 6 * s + 2 by omega, numF_F, show 6 * s + 2 = s * 6 + 2 by omega] at o0
  have of0 := HST.out.row.free (s * 6 + 2)
  obtain ⟨f, hfc⟩ : ∃ f, f = cntK L k s := ⟨_, rfl⟩
  rw [← hfc] at o0 hcF
  obtain ⟨X1, hX1⟩ : ∃ X1, X1 = X.setCell ⟨go, s * 6 + 2, none⟩ (.int .i64 ((f : Int) + 1)) := ⟨_, rfl⟩
  have HST1 := Lib.hid (show GSt W4 X1 go gt m (numF (fun _ => 0) (cntK L (k + 1)) (fun _ => 0)) (fun s => (twn T L (3 * k + 0) s : Int)) from by
    have := HST.out.setO (s * 6 + 2) ((f : Int) + 1)
    rw [← hX1, hfc, show s * 6 + 2 = 6 * s + 2 by omega, numF_upF _ _ (cntK L (k + 1)) _ s (fun j => by
      rw [cntK_succ, HLK.out]
      by_cases e : j = s
      · rw [if_pos e, if_pos (by omega)]
      · rw [if_neg e, if_neg (by omega)])] at this
    exact this)
  have HX1 := Lib.hid hX1
  clear hX1 hls xl hfc HST
  go_upto_region 9 with fail
  rw [← HX1.out]
  obtain ⟨k3, hk3⟩ : ∃ a, a = 3 * k := ⟨_, rfl⟩
  have s0 : (3 : Int) * (k : Int) = (k3 : Int) := by omega
  have HK3 := Lib.hid hk3
  have hk3b : k3 + 3 ≤ 24576 := by omega
  have HST2 := Lib.hid (show GSt W4 X1 go gt m (numF (fun _ => 0) (cntK L (k + 1)) (fun _ => 0)) (fun s => (twn T L (k3 + 0) s : Int)) from by rw [hk3]; exact HST1.out)
  clear hk3 HST1 o0 of0 l0 x3
  go_wp2
  go_loopw [9] (fun j ws => ∃ q : Nat, q ≤ 3 ∧ j = .int .i64 ((k3 + q : Nat) : Int) ∧ GSt W4 ws go gt m (numF (fun _ => 0) (cntK L (k + 1)) (fun _ => 0)) (fun s => (twn T L (k3 + q) s : Int))) (fun j _ => k3 + 3 - (intOf j).toNat)
  case atStart => exact ⟨0, by omega, rfl, HST2.out⟩
  case round =>
  clear HST2 HX1
  obtain ⟨q, hq, rfl, hst⟩ := hrel
  obtain ⟨X, rfl⟩ : ∃ X : World, X = wr := ⟨_, rfl⟩
  have HST := Lib.hid hst
  clear hst
  by_cases hq3 : q < 3
  case neg =>
    have hqe : q = 3 := by omega
    have d0 : decide (((k3 + q : Nat) : Int) < (k3 : Int) + 3) = false := by simp; omega
    have HF := Lib.hid (show GSt W4 X go gt m (numF (fun _ => 0) (cntK L (k + 1)) (fun _ => 0)) (fun s => (twn T L (3 * (k + 1)) s : Int)) from by
      have := HST.out
      rw [hqe, HK3.out] at this
      exact this)
    clear hqe
    go_wp2
    go_roundw
    case rel => exact ⟨k + 1, by omega, by go_num, HF.out⟩
    case measure => simp [intOf]; omega
  case pos =>
  obtain ⟨c, hc⟩ : ∃ c, c = k3 + q := ⟨_, rfl⟩
  rw [← hc] at HST ⊢
  have d0 : decide ((c : Int) < (k3 : Int) + 3) = true := by simp; omega
  have hcs : L (c / 3) = (s : Int) := by
    have := HLK.out
    rw [show c / 3 = k by have := HK3.out; omega]
    exact this
  have HCS := Lib.hid hcs
  have htw := twn_le T L c s
  have g0 := HST.out.tw.cell (iv_get (fun s => (twn T L c s : Int)) hsm)
  have gf0 := HST.out.tw.free s
  obtain ⟨z, hz⟩ : ∃ z, z = twn T L c s := ⟨_, rfl⟩
  rw [← hz] at g0 htw
  obtain ⟨X2, hX2⟩ : ∃ X2, X2 = X.setCell ⟨gt, s, none⟩ (.int .i64 ((z : Int) + 1)) := ⟨_, rfl⟩
  have hst2 := HST.out.setT s ((z : Int) + 1)
  rw [← hX2] at hst2
  have HST2 := Lib.hid hst2
  have HX2 := Lib.hid hX2
  obtain ⟨x1, -, -, hbw⟩ := HLOW.out X2 hst2.low
  have HOP := Lib.hid (opp_any (c : Int) X2 b n T (HTAB.out X2 hbw).1 (by omega) (by have := HL.out; have := HK3.out; omega))
  have hcb : c ≤ 24576 := by omega
  have HZ := Lib.hid hz
  have HC := Lib.hid hc
  clear hX2 hst2 hbw hcs hz hc HST
  go_upto_region 13 with fail
  rw [← HX2.out]
  clear g0 gf0
  go_wp2_with fail
  refine HOP.out.mono ?_
  rintro e X3 ⟨rfl, hb3⟩
  have HST3 := Lib.hid (HST2.out.more hb3)
  obtain ⟨o, ho⟩ : ∃ o, o = opp T (c : Int) := ⟨_, rfl⟩
  rw [← ho]
  clear hb3 x1 HST2 HX2
  by_cases hneg : o < 0
  case neg =>
    have d1 : decide (o < 0) = false := by simpa using hneg
    have HF := Lib.hid (show GSt W4 X3 go gt m (numF (fun _ => 0) (cntK L (k + 1)) (fun _ => 0)) (fun s => (twn T L (k3 + (q + 1)) s : Int)) from by
      have := HST3.out
      rw [HZ.out, show ((twn T L c s : Int) + 1) = (twn T L c s : Int) + ((1 : Nat) : Int) from rfl, twn_upd HCS.out 1 (by rw [if_neg (by rw [← ho]; exact hneg)])] at this
      rw [show k3 + (q + 1) = c + 1 by have := HC.out; omega]
      exact this)
    have HC2 := Lib.hid (show (c : Int) + 1 = ((k3 + (q + 1) : Nat) : Int) from by have := HC.out; omega)
    clear hneg ho
    go_wp2
    go_roundw
    case rel => exact ⟨q + 1, by omega, by rw [HC2.out], HF.out⟩
    case measure => have := HC.out; simp [intOf]; omega
  case pos =>
  have d1 : decide (o < 0) = true := by simpa using hneg
  have g1 := HST3.out.tw.cell (iv_get _ hsm)
  rw [show upd (fun s => (twn T L c s : Int)) s ((z : Int) + 1) s = (z : Int) + 1 from by unfold upd; rw [if_pos rfl]] at g1
  have gf1 := HST3.out.tw.free s
  have HF := Lib.hid (show GSt W4 (X3.setCell ⟨gt, s, none⟩ (.int .i64 ((z : Int) + 1 + 1))) go gt m (numF (fun _ => 0) (cntK L (k + 1)) (fun _ => 0)) (fun s => (twn T L (k3 + (q + 1)) s : Int)) from by
    have := HST3.out.setT s ((z : Int) + 1 + 1)
    rw [show upd (upd (fun s => (twn T L c s : Int)) s ((z : Int) + 1)) s ((z : Int) + 1 + 1) = upd (fun s => (twn T L c s : Int)) s ((twn T L c s : Int) + ((2 : Nat) : Int)) from by
      funext j
      unfold upd
      by_cases e : j = s
      · rw [if_pos e, if_pos e, HZ.out]; omega
      · rw [if_neg e, if_neg e, if_neg e], twn_upd HCS.out 2 (by rw [if_pos (by rw [← ho]; exact hneg)])] at this
    rw [show k3 + (q + 1) = c + 1 by have := HC.out; omega]
    exact this)
  have HC2 := Lib.hid (show (c : Int) + 1 = ((k3 + (q + 1) : Nat) : Int) from by have := HC.out; omega)
  clear hneg ho
  go_wp2
  go_roundw
  case rel => exact ⟨q + 1, by omega, by rw [HC2.out], HF.out⟩
  case measure => have := HC.out; simp [intOf]; omega
/-- The sums of the first k shells' numbers. -/
def sumF (Φ : Nat → Int) : Nat → Nat → Int
  | 0, _ => 0
  | k + 1, j => sumF Φ k j + Φ (6 * k + j)
theorem genF_le {T : List Tr} {L : Nat → Int} {n : Nat} (hn : n ≤ 4096) (ht : T.length ≤ 8192) (i : Nat) : -300000 ≤ genF T L n i ∧ genF T L n i ≤ 300000 := by
  have h1 := cntK_le (shV T L) n (i / 6)
  have h2 := cntK_le L T.length (i / 6)
  have h3 := cntK_le (keyB T L n) (headsB (bordE T (3 * T.length)) n).length (i / 6)
  have h4 := headsB_le (bordE T (3 * T.length)) n
  have h5 := twn_le T L (3 * T.length) (i / 6)
  have e1 : nV T L n (i / 6) ≤ 4096 := by unfold nV; omega
  have e2 : nF T L (i / 6) ≤ 8192 := by unfold nF; omega
  have e3 : nB T L n (i / 6) ≤ 4096 := by unfold nB; omega
  have e4 : nT T L (i / 6) ≤ 49152 := by unfold nT; omega
  unfold genF finF
  dsimp only
  generalize nV T L n (i / 6) = a at e1 ⊢
  generalize nF T L (i / 6) = b at e2 ⊢
  generalize nB T L n (i / 6) = c at e3 ⊢
  generalize nT T L (i / 6) = d at e4 ⊢
  have ht : ∀ x : Int, -100000 ≤ x → x ≤ 100000 → -300000 ≤ x.tdiv 2 ∧ x.tdiv 2 ≤ 300000 := fun x h1 h2 => by
    rcases Int.le_total 0 x with h | h
    · rw [Int.tdiv_eq_ediv_of_nonneg h]; omega
    · have := Int.neg_tdiv x 2
      have h3 : (-x).tdiv 2 = (-x) / 2 := Int.tdiv_eq_ediv_of_nonneg (by omega)
      omega
  have := ht ((2 : Int) - (c : Int) - ((a : Int) - ((d / 2 : Nat) : Int) + (b : Int))) (by omega) (by omega)
  repeat' split
  all_goals omega
theorem sumF_le {Φ : Nat → Int} (h : ∀ i, -300000 ≤ Φ i ∧ Φ i ≤ 300000) (j : Nat) : ∀ k : Nat, -300000 * (k : Int) ≤ sumF Φ k j ∧ sumF Φ k j ≤ 300000 * (k : Int)
  | 0 => by simp [sumF]
  | k + 1 => by
    have h1 := sumF_le h j k
    have h2 := h (6 * k + j)
    unfold sumF
    constructor <;> omega
set_option maxRecDepth 100000 in
set_option maxHeartbeats 4000000 in
theorem whole_ok (b n m : Nat) (T : List Tr) (L : Nat → Int) (w : World) (h : Tab w b n T) (hf : FirstAt w b T n) (hs : Surf n T) (hL : IsShells (Adj T) T.length L) (hm : (m : Int) = cnt L T.length) :
    Calls Tryz.prog 12 #[.pointer (some ⟨b, 0, none⟩)] w fun e w' => e = .returned (.agg #[.int .i64 (sumF (genF T L n) m 0), .int .i64 (sumF (genF T L n) m 1), .int .i64 (sumF (genF T L n) m 2), .int .i64 (sumF (genF T L n) m 3), .int .i64 (sumF (genF T L n) m 4), .int .i64 (sumF (genF T L n) m 5)]) ∧ Below w.heap.size w w' := by
  obtain ⟨W0, hW0⟩ : ∃ W0, W0 = (w.alloc (.cells #[.int .i64 0, .int .i64 0, .int .i64 0, .int .i64 0, .int .i64 0, .int .i64 0] 33)).alloc (.cells #[.int .i64 0, .int .i64 0, .int .i64 0, .int .i64 0, .int .i64 0, .int .i64 0] 33) := ⟨_, rfl⟩
  have hb0 : Below w.heap.size w W0 := by rw [hW0]; exact ((Below.refl _ _).alloc (Nat.le_refl _) _).alloc (by simp) _
  have hr0 : RowIs W0 w.heap.size 33 (iv (fun _ => 0) 6) := by rw [hW0]; exact (RowIs.made w 33 (iv (fun _ => 0) 6)).alloc _
  have hr1 : RowIs W0 (w.heap.size + 1) 33 (iv (fun _ => 0) 6) := by rw [hW0]; exact RowIs.made' _ _ (iv (fun _ => 0) 6) _ (by simp)
  have hn4 : n ≤ 4096 := by have := hs.n1; omega
  have ht8 := hs.t1
  have hmle : m ≤ 8192 := by have := hL.cnt_le; omega
  have HG := Lib.hid (genus_of b n m T L W0 (h.mono (Nat.le_refl _) hb0) (hf.mono (Nat.le_refl _) hb0) hs hL hm)
  obtain ⟨Φ, hΦ⟩ : ∃ Φ, Φ = genF T L n := ⟨_, rfl⟩
  have HLE := Lib.hid (show ∀ i, -300000 ≤ Φ i ∧ Φ i ≤ 300000 from fun i => by rw [hΦ]; exact genF_le hn4 ht8 i)
  rw [← hΦ] at HG ⊢
  have HB0 := Lib.hid hb0
  have HR0 := Lib.hid hr0
  have HR1 := Lib.hid hr1
  have HW0 := Lib.hid hW0
  obtain ⟨xb, hxb⟩ : ∃ x, x = w.heap.size := ⟨_, rfl⟩
  rw [← hxb] at HR0 HR1
  have HXB := Lib.hid hxb
  clear h hf hs hL hm hb0 hr0 hr1 hW0 hΦ ht8 hxb
  go_enter Tryz.func12, Tryz.ntmps12
  go_upto_region 2 with fail
  simp only [← HXB.out]
  rw [← HW0.out]
  go_wp2_with fail
  refine HG.out.mono ?_
  rintro e W1 ⟨go, rfl, hgo, hro, hb1⟩
  have HRO := Lib.hid hro
  have HB1 := Lib.hid hb1
  have hx0 := (HR0.out.lt)
  have hx1 := HR1.out.lt
  have HROW1 := Lib.hid (HR1.out.after hb1)
  have HROW0 := Lib.hid (HR0.out.after hb1)
  have hlt := hro.lt
  clear hro hb1 HG
  go_wp2
  go_loopw [9] (fun i ws => ∃ k : Nat, k ≤ m ∧ i = .int .i64 k ∧ RowIs ws (xb + 1) 33 (iv (sumF Φ k) 6) ∧ But W1.heap.size (xb + 1) W1 ws ∧ W1.heap.size ≤ ws.heap.size) (fun i _ => m - (intOf i).toNat)
  case atStart => exact ⟨0, by omega, rfl, HROW1.out, But.refl _ _ _, Nat.le_refl _⟩
  case round =>
  obtain ⟨k, hk, rfl, hrow, hbut, hsz⟩ := hrel
  obtain ⟨X, rfl⟩ : ∃ X : World, X = wr := ⟨_, rfl⟩
  have HROW := Lib.hid hrow
  have HBUT := Lib.hid hbut
  have HSZ := Lib.hid hsz
  clear hrow hbut hsz
  by_cases hkm : k < m
  case neg =>
    obtain rfl : m = k := by omega
    obtain ⟨s0, hs0⟩ : ∃ x, x = sumF Φ m 0 := ⟨_, rfl⟩
    have p0 := HROW.out.cell (iv_get (sumF Φ m) (show 0 < 6 by omega))
    rw [← hs0] at p0
    have HQ0 := Lib.hid hs0
    obtain ⟨s1, hs1⟩ : ∃ x, x = sumF Φ m 1 := ⟨_, rfl⟩
    have p1 := HROW.out.cell (iv_get (sumF Φ m) (show 1 < 6 by omega))
    rw [← hs1] at p1
    have HQ1 := Lib.hid hs1
    obtain ⟨s2, hs2⟩ : ∃ x, x = sumF Φ m 2 := ⟨_, rfl⟩
    have p2 := HROW.out.cell (iv_get (sumF Φ m) (show 2 < 6 by omega))
    rw [← hs2] at p2
    have HQ2 := Lib.hid hs2
    obtain ⟨s3, hs3⟩ : ∃ x, x = sumF Φ m 3 := ⟨_, rfl⟩
    have p3 := HROW.out.cell (iv_get (sumF Φ m) (show 3 < 6 by omega))
    rw [← hs3] at p3
    have HQ3 := Lib.hid hs3
    obtain ⟨s4, hs4⟩ : ∃ x, x = sumF Φ m 4 := ⟨_, rfl⟩
    have p4 := HROW.out.cell (iv_get (sumF Φ m) (show 4 < 6 by omega))
    rw [← hs4] at p4
    have HQ4 := Lib.hid hs4
    obtain ⟨s5, hs5⟩ : ∃ x, x = sumF Φ m 5 := ⟨_, rfl⟩
    have p5 := HROW.out.cell (iv_get (sumF Φ m) (show 5 < 6 by omega))
    rw [← hs5] at p5
    have HQ5 := Lib.hid hs5
    have hr0 := HBUT.out.row HROW0.out (by have := HROW0.out.lt; exact this) (by omega)
    have z0 := hr0.cell (iv_get (fun _ => 0) (show 0 < 6 by omega))
    have z1 := hr0.cell (iv_get (fun _ => 0) (show 1 < 6 by omega))
    have z2 := hr0.cell (iv_get (fun _ => 0) (show 2 < 6 by omega))
    have z3 := hr0.cell (iv_get (fun _ => 0) (show 3 < 6 by omega))
    have z4 := hr0.cell (iv_get (fun _ => 0) (show 4 < 6 by omega))
    have z5 := hr0.cell (iv_get (fun _ => 0) (show 5 < 6 by omega))
    have zf := fun i => hr0.free i
    have hrF := ((((((hr0.set 0 (.int .i64 s0)).set 1 (.int .i64 s1)).set 2 (.int .i64 s2)).set 3 (.int .i64 s3)).set 4 (.int .i64 s4)).set 5 (.int .i64 s5))
    rw [iv_set, iv_set, iv_set, iv_set, iv_set, iv_set] at hrF
    have y0 := hrF.cell (iv_get _ (show 0 < 6 by omega))
    rw [show upd (upd (upd (upd (upd (upd (fun _ => 0) 0 s0) 1 s1) 2 s2) 3 s3) 4 s4) 5 s5 0 = s0 from by simp [upd]] at y0
    have y1 := hrF.cell (iv_get _ (show 1 < 6 by omega))
    rw [show upd (upd (upd (upd (upd (upd (fun _ => 0) 0 s0) 1 s1) 2 s2) 3 s3) 4 s4) 5 s5 1 = s1 from by simp [upd]] at y1
    have y2 := hrF.cell (iv_get _ (show 2 < 6 by omega))
    rw [show upd (upd (upd (upd (upd (upd (fun _ => 0) 0 s0) 1 s1) 2 s2) 3 s3) 4 s4) 5 s5 2 = s2 from by simp [upd]] at y2
    have y3 := hrF.cell (iv_get _ (show 3 < 6 by omega))
    rw [show upd (upd (upd (upd (upd (upd (fun _ => 0) 0 s0) 1 s1) 2 s2) 3 s3) 4 s4) 5 s5 3 = s3 from by simp [upd]] at y3
    have y4 := hrF.cell (iv_get _ (show 4 < 6 by omega))
    rw [show upd (upd (upd (upd (upd (upd (fun _ => 0) 0 s0) 1 s1) 2 s2) 3 s3) 4 s4) 5 s5 4 = s4 from by simp [upd]] at y4
    have y5 := hrF.cell (iv_get _ (show 5 < 6 by omega))
    rw [show upd (upd (upd (upd (upd (upd (fun _ => 0) 0 s0) 1 s1) 2 s2) 3 s3) 4 s4) 5 s5 5 = s5 from by simp [upd]] at y5
    have HBF := Lib.hid (show Below w.heap.size w ((((((X.setCell ⟨xb, 0, none⟩ (.int .i64 s0)).setCell ⟨xb, 1, none⟩ (.int .i64 s1)).setCell ⟨xb, 2, none⟩ (.int .i64 s2)).setCell ⟨xb, 3, none⟩ (.int .i64 s3)).setCell ⟨xb, 4, none⟩ (.int .i64 s4)).setCell ⟨xb, 5, none⟩ (.int .i64 s5)) from by
      have hbw : Below xb w X := by
        rw [HXB.out]
        exact (below_more HB0.out HB1.out HB0.out.size).trans (HBUT.out.below (by rw [← HXB.out]; omega) (by rw [← HXB.out]; omega))
      rw [HXB.out] at hbw ⊢
      exact (((((hbw.setCell (p := ⟨w.heap.size, 0, none⟩) (Nat.le_refl _) _).setCell (p := ⟨w.heap.size, 1, none⟩) (Nat.le_refl _) _).setCell (p := ⟨w.heap.size, 2, none⟩) (Nat.le_refl _) _).setCell (p := ⟨w.heap.size, 3, none⟩) (Nat.le_refl _) _).setCell (p := ⟨w.heap.size, 4, none⟩) (Nat.le_refl _) _).setCell (p := ⟨w.heap.size, 5, none⟩) (Nat.le_refl _) _)
    clear hs0 hs1 hs2 hs3 hs4 hs5 hr0 hrF
    go_wp2
    exact bodyPost_ret (v := .agg #[.int .i64 s0, .int .i64 s1, .int .i64 s2, .int .i64 s3, .int .i64 s4, .int .i64 s5]) (by simp [results, Tryz.results12, go_sem, y0, y1, y2, y3, y4, y5]) rfl ⟨by rw [HQ0.out, HQ1.out, HQ2.out, HQ3.out, HQ4.out, HQ5.out], HBF.out⟩
  case pos =>
  have hro := HBUT.out.row HRO.out hlt (by omega)
  have p0 := hro.cell (iv_get Φ (show k * 6 < 6 * m by omega))
  have p1 := hro.cell (iv_get Φ (show k * 6 + 1 < 6 * m by omega))
  have p2 := hro.cell (iv_get Φ (show k * 6 + 2 < 6 * m by omega))
  have p3 := hro.cell (iv_get Φ (show k * 6 + 3 < 6 * m by omega))
  have p4 := hro.cell (iv_get Φ (show k * 6 + 4 < 6 * m by omega))
  have p5 := hro.cell (iv_get Φ (show k * 6 + 5 < 6 * m by omega))
  obtain ⟨f0, hf0⟩ : ∃ x, x = Φ (k * 6) := ⟨_, rfl⟩
  obtain ⟨f1, hf1⟩ : ∃ x, x = Φ (k * 6 + 1) := ⟨_, rfl⟩
  obtain ⟨f2, hf2⟩ : ∃ x, x = Φ (k * 6 + 2) := ⟨_, rfl⟩
  obtain ⟨f3, hf3⟩ : ∃ x, x = Φ (k * 6 + 3) := ⟨_, rfl⟩
  obtain ⟨f4, hf4⟩ : ∃ x, x = Φ (k * 6 + 4) := ⟨_, rfl⟩
  obtain ⟨f5, hf5⟩ : ∃ x, x = Φ (k * 6 + 5) := ⟨_, rfl⟩
  rw [← hf0] at p0
  rw [← hf1] at p1
  rw [← hf2] at p2
  rw [← hf3] at p3
  rw [← hf4] at p4
  rw [← hf5] at p5
  obtain ⟨X1, hX1⟩ : ∃ X1, X1 = X.alloc (.cells #[.int .i64 f0, .int .i64 f1, .int .i64 f2, .int .i64 f3, .int .i64 f4, .int .i64 f5] 33) := ⟨_, rfl⟩
  have hbX : Below X.heap.size X X1 := by rw [hX1]; exact (Below.refl _ _).alloc (Nat.le_refl _) _
  have hrX : RowIs X1 X.heap.size 33 [.int .i64 f0, .int .i64 f1, .int .i64 f2, .int .i64 f3, .int .i64 f4, .int .i64 f5] := by rw [hX1]; exact RowIs.made X 33 [.int .i64 f0, .int .i64 f1, .int .i64 f2, .int .i64 f3, .int .i64 f4, .int .i64 f5]
  have HX1 := Lib.hid hX1
  have HF0 := Lib.hid hf0
  have bf0 := HLE.out (k * 6)
  have HF1 := Lib.hid hf1
  have bf1 := HLE.out (k * 6 + 1)
  have HF2 := Lib.hid hf2
  have bf2 := HLE.out (k * 6 + 2)
  have HF3 := Lib.hid hf3
  have bf3 := HLE.out (k * 6 + 3)
  have HF4 := Lib.hid hf4
  have bf4 := HLE.out (k * 6 + 4)
  have HF5 := Lib.hid hf5
  have bf5 := HLE.out (k * 6 + 5)
  rw [← hf0] at bf0
  rw [← hf1] at bf1
  rw [← hf2] at bf2
  rw [← hf3] at bf3
  rw [← hf4] at bf4
  rw [← hf5] at bf5
  have hkm8 : k ≤ 8191 := by omega
  have o0 := (HROW.out.after hbX).cell (iv_get (sumF Φ k) (show 0 < 6 by omega))
  obtain ⟨s0, hs0⟩ : ∃ x, x = sumF Φ k 0 := ⟨_, rfl⟩
  rw [← hs0] at o0
  have bs0 := sumF_le HLE.out 0 k
  rw [← hs0] at bs0
  have HS0 := Lib.hid hs0
  have o1 := (HROW.out.after hbX).cell (iv_get (sumF Φ k) (show 1 < 6 by omega))
  obtain ⟨s1, hs1⟩ : ∃ x, x = sumF Φ k 1 := ⟨_, rfl⟩
  rw [← hs1] at o1
  have bs1 := sumF_le HLE.out 1 k
  rw [← hs1] at bs1
  have HS1 := Lib.hid hs1
  have o2 := (HROW.out.after hbX).cell (iv_get (sumF Φ k) (show 2 < 6 by omega))
  obtain ⟨s2, hs2⟩ : ∃ x, x = sumF Φ k 2 := ⟨_, rfl⟩
  rw [← hs2] at o2
  have bs2 := sumF_le HLE.out 2 k
  rw [← hs2] at bs2
  have HS2 := Lib.hid hs2
  have o3 := (HROW.out.after hbX).cell (iv_get (sumF Φ k) (show 3 < 6 by omega))
  obtain ⟨s3, hs3⟩ : ∃ x, x = sumF Φ k 3 := ⟨_, rfl⟩
  rw [← hs3] at o3
  have bs3 := sumF_le HLE.out 3 k
  rw [← hs3] at bs3
  have HS3 := Lib.hid hs3
  have o4 := (HROW.out.after hbX).cell (iv_get (sumF Φ k) (show 4 < 6 by omega))
  obtain ⟨s4, hs4⟩ : ∃ x, x = sumF Φ k 4 := ⟨_, rfl⟩
  rw [← hs4] at o4
  have bs4 := sumF_le HLE.out 4 k
  rw [← hs4] at bs4
  have HS4 := Lib.hid hs4
  have o5 := (HROW.out.after hbX).cell (iv_get (sumF Φ k) (show 5 < 6 by omega))
  obtain ⟨s5, hs5⟩ : ∃ x, x = sumF Φ k 5 := ⟨_, rfl⟩
  rw [← hs5] at o5
  have bs5 := sumF_le HLE.out 5 k
  rw [← hs5] at bs5
  have HS5 := Lib.hid hs5
  have q0 := hrX.cell (i := 0) rfl
  have q1 := hrX.cell (i := 1) rfl
  have q2 := hrX.cell (i := 2) rfl
  have q3 := hrX.cell (i := 3) rfl
  have q4 := hrX.cell (i := 4) rfl
  have q5 := hrX.cell (i := 5) rfl
  have a0 : -4000000000 ≤ s0 ∧ s0 ≤ 4000000000 := by omega
  have c0 : -300000 ≤ f0 ∧ f0 ≤ 300000 := bf0
  have a1 : -4000000000 ≤ s1 ∧ s1 ≤ 4000000000 := by omega
  have c1 : -300000 ≤ f1 ∧ f1 ≤ 300000 := bf1
  have a2 : -4000000000 ≤ s2 ∧ s2 ≤ 4000000000 := by omega
  have c2 : -300000 ≤ f2 ∧ f2 ≤ 300000 := bf2
  have a3 : -4000000000 ≤ s3 ∧ s3 ≤ 4000000000 := by omega
  have c3 : -300000 ≤ f3 ∧ f3 ≤ 300000 := bf3
  have a4 : -4000000000 ≤ s4 ∧ s4 ≤ 4000000000 := by omega
  have c4 : -300000 ≤ f4 ∧ f4 ≤ 300000 := bf4
  have a5 : -4000000000 ≤ s5 ∧ s5 ≤ 4000000000 := by omega
  have c5 : -300000 ≤ f5 ∧ f5 ≤ 300000 := bf5
  have of := fun i => (HROW.out.after hbX).free i
  obtain ⟨X2, hX2⟩ : ∃ X2, X2 = ((((((X1.setCell ⟨xb + 1, 0, none⟩ (.int .i64 (s0 + f0))).setCell ⟨xb + 1, 1, none⟩ (.int .i64 (s1 + f1))).setCell ⟨xb + 1, 2, none⟩ (.int .i64 (s2 + f2))).setCell ⟨xb + 1, 3, none⟩ (.int .i64 (s3 + f3))).setCell ⟨xb + 1, 4, none⟩ (.int .i64 (s4 + f4))).setCell ⟨xb + 1, 5, none⟩ (.int .i64 (s5 + f5))) := ⟨_, rfl⟩
  have HX2 := Lib.hid hX2
  have HR2 := Lib.hid (show RowIs X2 (xb + 1) 33 (iv (sumF Φ (k + 1)) 6) from by
    have h0 := (((((((HROW.out.after hbX).set 0 (.int .i64 (s0 + f0))).set 1 (.int .i64 (s1 + f1))).set 2 (.int .i64 (s2 + f2))).set 3 (.int .i64 (s3 + f3))).set 4 (.int .i64 (s4 + f4))).set 5 (.int .i64 (s5 + f5)))
    rw [iv_set, iv_set, iv_set, iv_set, iv_set, iv_set] at h0
    rw [hX2, iv_congr (h := upd (upd (upd (upd (upd (upd (sumF Φ k) 0 (s0 + f0)) 1 (s1 + f1)) 2 (s2 + f2)) 3 (s3 + f3)) 4 (s4 + f4)) 5 (s5 + f5)) (fun i hi => ?_)]
    · exact h0
    · unfold upd
      match i, hi with
      | 0, _ => simp [sumF, hs0, hf0, Nat.mul_comm]
      | 1, _ => simp [sumF, hs1, hf1, Nat.mul_comm]
      | 2, _ => simp [sumF, hs2, hf2, Nat.mul_comm]
      | 3, _ => simp [sumF, hs3, hf3, Nat.mul_comm]
      | 4, _ => simp [sumF, hs4, hf4, Nat.mul_comm]
      | 5, _ => simp [sumF, hs5, hf5, Nat.mul_comm])
  have hb1' := HBUT.out.more hbX HSZ.out
  have HB2 := Lib.hid (show But W1.heap.size (xb + 1) W1 X2 ∧ W1.heap.size ≤ X2.heap.size from by
    have hg := grown_tr (grown_tr (grown_tr (grown_tr (grown_tr (grown_set X1 (xb + 1) 0 (.int .i64 (s0 + f0))) (grown_set _ (xb + 1) 1 (.int .i64 (s1 + f1)))) (grown_set _ (xb + 1) 2 (.int .i64 (s2 + f2)))) (grown_set _ (xb + 1) 3 (.int .i64 (s3 + f3)))) (grown_set _ (xb + 1) 4 (.int .i64 (s4 + f4)))) (grown_set _ (xb + 1) 5 (.int .i64 (s5 + f5)))
    rw [← hX2] at hg
    have h1 := hbX.size
    have h2 := HSZ.out
    exact ⟨hb1'.grown hg (by omega) (fun q hq => .inr (by cases hq; rfl)), by have := hg.size; omega⟩)
  clear hf0 hs0 bf0 bs0 hf1 hs1 bf1 bs1 hf2 hs2 bf2 bs2 hf3 hs3 bf3 bs3 hf4 hs4 bf4 bs4 hf5 hs5 bf5 bs5 hX1 hX2 hbX hrX hro hb1'
  go_upto_region 5 with fail
  rw [← HX1.out]
  go_upto_region 6 with fail
  rw [← HX2.out]
  go_wp2
  go_roundw
  case rel => exact ⟨k + 1, by omega, by go_num, HR2.out, HB2.out.1, HB2.out.2⟩
  case measure => simp [intOf]; omega
set_option maxRecDepth 100000 in
set_option maxHeartbeats 1000000 in
theorem of_nil (w : World) : Calls Tryz.prog 28 #[.pointer none] w fun e w' => ∃ g, e = .returned (.slice (some ⟨g, 0, none⟩) 0 0) ∧ Below w.heap.size w w' := by
  obtain ⟨i0, hi, hz0, hz1, hz2⟩ := info_parts info3
  go_enter Tryz.func28, Tryz.ntmps28
  go_wp2_with fail
  refine (triangles_nil _).mono ?_
  rintro e w1 ⟨rfl, rfl⟩
  go_wp2_with (at_make; refine wpList_make_full _ rfl _ _ _ rfl w.heap.size 3 i0 (.int .i64 0) 1 (by kernel_rfl) hi hz0 hz1 _ _ _ _ 0 rfl rfl rfl rfl (by rw [hz2]; omega) (by unfold maxLen; omega) (Nat.le_refl _) ?_)
  intro w1 hown hgrow
  have HB1 := Lib.hid (show Below w.heap.size w w1 from (Below.refl _ _).grown hgrow (Nat.le_refl _) (by simp))
  clear hown hgrow hi hz0 hz1 hz2
  go_wp2
  go_loopw [16, 4] (fun i _ ws => i = .int .i64 0 ∧ ws = w1) (fun _ _ _ => 0)
  case atStart => exact ⟨rfl, rfl⟩
  case round =>
    obtain ⟨rfl, rfl⟩ := hrel
    obtain ⟨w1, rfl⟩ : ∃ w1 : World, w1 = wr := ⟨_, rfl⟩
    go_wp2
    go_loopw [25, 5] (fun i _ ws => i = .int .i64 0 ∧ ws = w1) (fun _ _ _ => 0)
    case atStart => exact ⟨rfl, rfl⟩
    case round =>
      obtain ⟨rfl, rfl⟩ := hrel
      go_wp2
      exact bodyPost_ret (v := .slice (some ⟨w.heap.size, 0, none⟩) 0 0) (by simp [results, Tryz.results28, go_sem]) rfl ⟨_, rfl, HB1.out⟩
set_option maxRecDepth 100000 in
set_option maxHeartbeats 1000000 in
theorem count_nil (w : World) : Calls Tryz.prog 29 #[.pointer none] w fun e w' => e = .returned (.int .i64 0) ∧ Below w.heap.size w w' := by
  go_enter Tryz.func29, Tryz.ntmps29
  go_wp2_with fail
  refine (of_nil _).mono ?_
  rintro e w1 ⟨g, rfl, hb⟩
  have HB1 := Lib.hid hb
  clear hb
  go_wp2
  go_loopw [9, 3] (fun i v ws => i = .int .i64 0 ∧ v = .int .i64 0 ∧ ws = w1) (fun _ _ _ => 0)
  case atStart => exact ⟨rfl, rfl, rfl⟩
  case round =>
    obtain ⟨rfl, rfl, rfl⟩ := hrel
    go_wp2
    exact bodyPost_ret (v := .int .i64 0) (by simp [results, Tryz.results29, go_sem]) rfl ⟨rfl, HB1.out⟩
set_option maxHeartbeats 400000 in
theorem vertices_nil (w : World) : Calls Tryz.prog 33 #[.pointer none] w fun e w' => e = .returned (.int .i64 0) ∧ w = w' := by
  go_enter Tryz.func33, Tryz.ntmps33
  go_wp2
  go_ret
  exact ⟨rfl, rfl⟩
set_option maxHeartbeats 400000 in
theorem loops_nil (w : World) : Calls Tryz.prog 19 #[.pointer none] w fun e w' => e = .returned (.slice none 0 0) ∧ w = w' := by
  go_enter Tryz.func19, Tryz.ntmps19
  go_wp2
  go_ret
  exact ⟨rfl, rfl⟩
set_option maxRecDepth 100000 in
set_option maxHeartbeats 2000000 in
theorem genus_nil (w : World) : Calls Tryz.prog 10 #[.pointer none] w fun e w' => ∃ g, e = .returned (.slice (some ⟨g, 0, none⟩) 0 0) ∧ w.heap.size ≤ g ∧ g < w'.heap.size ∧ Below w.heap.size w w' := by
  obtain ⟨i0, hi, hz0, hz1, hz2⟩ := info_parts info3
  obtain ⟨j0, hj, hy0, hy1, hy2⟩ := info_parts infoNum
  obtain ⟨W0, hW0⟩ : ∃ W0, W0 = w.alloc (.cells #[.pointer none] 26) := ⟨_, rfl⟩
  have hb0 : Below w.heap.size w W0 := by rw [hW0]; exact (Below.refl _ _).alloc (Nat.le_refl _) _
  have hr0 : RowIs W0 w.heap.size 26 [.pointer none] := by rw [hW0]; exact RowIs.made w 26 [.pointer none]
  have HB0 := Lib.hid hb0
  have HR0 := Lib.hid hr0
  have HW0 := Lib.hid hW0
  obtain ⟨xb, hxb⟩ : ∃ x, x = w.heap.size := ⟨_, rfl⟩
  rw [← hxb] at HR0
  have HXB := Lib.hid hxb
  clear hb0 hr0 hW0 hxb
  go_enter Tryz.func10, Tryz.ntmps10
  go_upto_region 1 with fail
  rw [← HW0.out, ← HXB.out]
  have c0 := HR0.out.cell (i := 0) rfl
  go_wp2_with fail
  refine (of_nil _).mono ?_
  rintro e w1 ⟨gl, rfl, hb1⟩
  obtain ⟨W1, hW1⟩ : ∃ W1, W1 = w1.alloc (.cells #[.slice (some ⟨gl, 0, none⟩) 0 0] 45) := ⟨_, rfl⟩
  have hb11 : Below w1.heap.size w1 W1 := by rw [hW1]; exact (Below.refl _ _).alloc (Nat.le_refl _) _
  obtain ⟨b3, hb3⟩ : ∃ x, x = w1.heap.size := ⟨_, rfl⟩
  have HR3 := Lib.hid (show RowIs W1 b3 45 [.slice (some ⟨gl, 0, none⟩) 0 0] from by rw [hW1, hb3]; exact RowIs.made w1 45 [.slice (some ⟨gl, 0, none⟩) 0 0])
  have HB01 := Lib.hid (below_more hb1 hb11 hb1.size)
  have HR01 := Lib.hid (HR0.out.after HB01.out)
  have HBW1 := Lib.hid (below_more HB0.out HB01.out HB0.out.size)
  have HW1 := Lib.hid hW1
  have HB3 := Lib.hid hb3
  have c1 := HR01.out.cell (i := 0) rfl
  clear hW1 hb11 hb3 hb1 c0
  go_upto_region 2 with fail
  rw [← HW1.out, ← HB3.out]
  go_wp2_with fail
  refine (count_nil _).mono ?_
  rintro e w2 ⟨rfl, hb2⟩
  have HB12 := Lib.hid hb2
  clear c1 hb2
  go_wp2_with (at_make; refine wpList_make_full _ rfl _ _ _ rfl w2.heap.size 33 j0 (.agg #[.int .i64 0, .int .i64 0, .int .i64 0, .int .i64 0, .int .i64 0, .int .i64 0]) 6 (by kernel_rfl) hj hy0 hy1 _ _ _ _ 0 rfl rfl rfl rfl (by rw [hy2]; omega) (by unfold maxLen; omega) (Nat.le_refl _) ?_)
  intro w3 hown hgr
  have hb23 : Below w2.heap.size w2 w3 := (Below.refl _ _).grown hgr (Nat.le_refl _) (by simp)
  have hlt3 : w2.heap.size < w3.heap.size := (RowIs.of_owns hown).lt
  obtain ⟨go, hgo⟩ : ∃ g, g = w2.heap.size := ⟨_, rfl⟩
  rw [← hgo] at hlt3 ⊢
  have HB23 := Lib.hid hb23
  have HGO := Lib.hid hgo
  clear hown hgr hb23 hgo
  go_upto_region 3 with fail
  go_wp2_with (at_make; refine wpList_make_full _ rfl _ _ _ rfl w3.heap.size 3 i0 (.int .i64 0) 1 (by kernel_rfl) hi hz0 hz1 _ _ _ _ 0 rfl rfl rfl rfl (by rw [hz2]; omega) (by unfold maxLen; omega) (by simp) ?_)
  intro W4 hown hgr
  have hb34 : Below w3.heap.size w3 W4 := (Below.refl _ _).grown hgr (Nat.le_refl _) (by simp)
  have hb14 : Below W1.heap.size W1 W4 := below_more HB12.out (below_more HB23.out hb34 (by have := HB23.out.size; omega)) HB12.out.size
  have q1 := (HR01.out.after hb14).cell (i := 0) rfl
  have q3 := (HR3.out.after hb14).cell (i := 0) rfl
  have HF := Lib.hid (below_more HBW1.out hb14 HBW1.out.size)
  have hlt4 : go < W4.heap.size := by have := hb34.size; omega
  have hgow : w.heap.size ≤ go := by rw [HGO.out]; have := HBW1.out.size; have := HB12.out.size; omega
  obtain ⟨gt, hgt⟩ : ∃ g, g = w3.heap.size := ⟨_, rfl⟩
  rw [← hgt]
  have HGW := Lib.hid hgow
  have HL4 := Lib.hid hlt4
  clear hown hgr hb34 hb14 hgt hlt3 hlt4 hgow HB01 HB12 HB23
  go_upto_region 6 with fail
  go_loopw [25] (fun i ws => i = .int .i64 0 ∧ ws = W4) (fun i _ => 0)
  case atStart => exact ⟨rfl, rfl⟩
  case round =>
  obtain ⟨rfl, hws⟩ := hrel
  rw [hws]
  clear hws
  go_wp2_with fail
  refine (vertices_nil _).mono ?_
  rintro e w5 ⟨rfl, hw5⟩
  rw [← hw5]
  clear hw5
  go_wp2
  go_loopw [66] (fun i ws => i = .int .i64 0 ∧ ws = W4) (fun i _ => 0)
  case atStart => exact ⟨rfl, rfl⟩
  case round =>
  obtain ⟨rfl, hws⟩ := hrel
  rw [hws]
  clear hws
  go_wp2_with fail
  refine (loops_nil _).mono ?_
  rintro e w5 ⟨rfl, hw5⟩
  rw [← hw5]
  clear hw5
  go_wp2
  go_loopw [83] (fun i ws => i = .int .i64 0 ∧ ws = W4) (fun i _ => 0)
  case atStart => exact ⟨rfl, rfl⟩
  case round =>
  obtain ⟨rfl, hws⟩ := hrel
  rw [hws]
  clear hws
  go_wp2
  go_loopw [102] (fun i ws => i = .int .i64 0 ∧ ws = W4) (fun i _ => 0)
  case atStart => exact ⟨rfl, rfl⟩
  case round =>
  obtain ⟨rfl, hws⟩ := hrel
  rw [hws]
  clear hws
  go_wp2
  go_ret
  exact ⟨go, rfl, HGW.out, HL4.out, HF.out⟩
set_option maxRecDepth 100000 in
set_option maxHeartbeats 2000000 in
theorem whole_nil (w : World) : Calls Tryz.prog 12 #[.pointer none] w fun e w' => e = .returned (.agg #[.int .i64 0, .int .i64 0, .int .i64 0, .int .i64 0, .int .i64 0, .int .i64 0]) ∧ Below w.heap.size w w' := by
  obtain ⟨W0, hW0⟩ : ∃ W0, W0 = (w.alloc (.cells #[.int .i64 0, .int .i64 0, .int .i64 0, .int .i64 0, .int .i64 0, .int .i64 0] 33)).alloc (.cells #[.int .i64 0, .int .i64 0, .int .i64 0, .int .i64 0, .int .i64 0, .int .i64 0] 33) := ⟨_, rfl⟩
  have hb0 : Below w.heap.size w W0 := by rw [hW0]; exact ((Below.refl _ _).alloc (Nat.le_refl _) _).alloc (by simp) _
  have hr0 : RowIs W0 w.heap.size 33 (iv (fun _ => 0) 6) := by rw [hW0]; exact (RowIs.made w 33 (iv (fun _ => 0) 6)).alloc _
  have hr1 : RowIs W0 (w.heap.size + 1) 33 (iv (fun _ => 0) 6) := by rw [hW0]; exact RowIs.made' _ _ (iv (fun _ => 0) 6) _ (by simp)
  have HG := Lib.hid (genus_nil W0)
  have HB0 := Lib.hid hb0
  have HR0 := Lib.hid hr0
  have HR1 := Lib.hid hr1
  have HW0 := Lib.hid hW0
  obtain ⟨xb, hxb⟩ : ∃ x, x = w.heap.size := ⟨_, rfl⟩
  rw [← hxb] at HR0 HR1
  have HXB := Lib.hid hxb
  clear hb0 hr0 hr1 hW0 hxb
  go_enter Tryz.func12, Tryz.ntmps12
  go_upto_region 2 with fail
  simp only [← HXB.out]
  rw [← HW0.out]
  go_wp2_with fail
  refine HG.out.mono ?_
  rintro e X ⟨go, rfl, hgo, hlt, hb1⟩
  have hr0 := HR0.out.after hb1
  have hr1 := HR1.out.after hb1
  have HB1 := Lib.hid (below_more HB0.out hb1 HB0.out.size)
  clear hgo hlt hb1 HG
  go_wp2
  go_loopw [9] (fun i ws => i = .int .i64 0 ∧ ws = X) (fun i _ => 0)
  case atStart => exact ⟨rfl, rfl⟩
  case round =>
  obtain ⟨rfl, hws⟩ := hrel
  rw [hws]
  clear hws
  have p0 := hr1.cell (iv_get (fun _ => 0) (show 0 < 6 by omega))
  have z0 := hr0.cell (iv_get (fun _ => 0) (show 0 < 6 by omega))
  have p1 := hr1.cell (iv_get (fun _ => 0) (show 1 < 6 by omega))
  have z1 := hr0.cell (iv_get (fun _ => 0) (show 1 < 6 by omega))
  have p2 := hr1.cell (iv_get (fun _ => 0) (show 2 < 6 by omega))
  have z2 := hr0.cell (iv_get (fun _ => 0) (show 2 < 6 by omega))
  have p3 := hr1.cell (iv_get (fun _ => 0) (show 3 < 6 by omega))
  have z3 := hr0.cell (iv_get (fun _ => 0) (show 3 < 6 by omega))
  have p4 := hr1.cell (iv_get (fun _ => 0) (show 4 < 6 by omega))
  have z4 := hr0.cell (iv_get (fun _ => 0) (show 4 < 6 by omega))
  have p5 := hr1.cell (iv_get (fun _ => 0) (show 5 < 6 by omega))
  have z5 := hr0.cell (iv_get (fun _ => 0) (show 5 < 6 by omega))
  have zf := fun i => hr0.free i
  have hrF := ((((((hr0.set 0 (.int .i64 0)).set 1 (.int .i64 0)).set 2 (.int .i64 0)).set 3 (.int .i64 0)).set 4 (.int .i64 0)).set 5 (.int .i64 0))
  rw [iv_set, iv_set, iv_set, iv_set, iv_set, iv_set] at hrF
  have y0 := hrF.cell (iv_get _ (show 0 < 6 by omega))
  rw [show upd (upd (upd (upd (upd (upd (fun _ => 0) 0 0) 1 0) 2 0) 3 0) 4 0) 5 0 0 = 0 from by simp [upd]] at y0
  have y1 := hrF.cell (iv_get _ (show 1 < 6 by omega))
  rw [show upd (upd (upd (upd (upd (upd (fun _ => 0) 0 0) 1 0) 2 0) 3 0) 4 0) 5 0 1 = 0 from by simp [upd]] at y1
  have y2 := hrF.cell (iv_get _ (show 2 < 6 by omega))
  rw [show upd (upd (upd (upd (upd (upd (fun _ => 0) 0 0) 1 0) 2 0) 3 0) 4 0) 5 0 2 = 0 from by simp [upd]] at y2
  have y3 := hrF.cell (iv_get _ (show 3 < 6 by omega))
  rw [show upd (upd (upd (upd (upd (upd (fun _ => 0) 0 0) 1 0) 2 0) 3 0) 4 0) 5 0 3 = 0 from by simp [upd]] at y3
  have y4 := hrF.cell (iv_get _ (show 4 < 6 by omega))
  rw [show upd (upd (upd (upd (upd (upd (fun _ => 0) 0 0) 1 0) 2 0) 3 0) 4 0) 5 0 4 = 0 from by simp [upd]] at y4
  have y5 := hrF.cell (iv_get _ (show 5 < 6 by omega))
  rw [show upd (upd (upd (upd (upd (upd (fun _ => 0) 0 0) 1 0) 2 0) 3 0) 4 0) 5 0 5 = 0 from by simp [upd]] at y5
  have HBF := Lib.hid (show Below w.heap.size w ((((((X.setCell ⟨xb, 0, none⟩ (.int .i64 0)).setCell ⟨xb, 1, none⟩ (.int .i64 0)).setCell ⟨xb, 2, none⟩ (.int .i64 0)).setCell ⟨xb, 3, none⟩ (.int .i64 0)).setCell ⟨xb, 4, none⟩ (.int .i64 0)).setCell ⟨xb, 5, none⟩ (.int .i64 0)) from by
    have hbw := HB1.out
    rw [HXB.out]
    exact (((((hbw.setCell (p := ⟨w.heap.size, 0, none⟩) (Nat.le_refl _) _).setCell (p := ⟨w.heap.size, 1, none⟩) (Nat.le_refl _) _).setCell (p := ⟨w.heap.size, 2, none⟩) (Nat.le_refl _) _).setCell (p := ⟨w.heap.size, 3, none⟩) (Nat.le_refl _) _).setCell (p := ⟨w.heap.size, 4, none⟩) (Nat.le_refl _) _).setCell (p := ⟨w.heap.size, 5, none⟩) (Nat.le_refl _) _)
  clear hr0 hr1 hrF
  go_wp2
  exact bodyPost_ret (v := .agg #[.int .i64 0, .int .i64 0, .int .i64 0, .int .i64 0, .int .i64 0, .int .i64 0]) (by simp [results, Tryz.results12, go_sem, y0, y1, y2, y3, y4, y5]) rfl ⟨rfl, HBF.out⟩
end Go.Proofs.YtbeefabboabfgaaGreat

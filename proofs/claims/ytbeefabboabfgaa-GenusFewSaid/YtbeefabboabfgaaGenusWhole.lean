/- genus.Whole: the numbers of all shells together. -/
import Derived.Test.YtbeefabboabfgaaGenusOf
namespace Go.Proofs.Ytbeefabboabfgaa
set_option linter.unusedVariables false
set_option linter.unusedSimpArgs false
open Go.RowKit
/-- The sums of the first k shells' numbers. -/
def sumF (Φ : Nat → Int) : Nat → Nat → Int
  | 0, _ => 0
  | k + 1, j => sumF Φ k j + Φ (6 * k + j)
theorem genF_le {T : List Tr} {L : Nat → Int} {n : Nat} (hn : n ≤ 4096) (ht : T.length ≤ 8192) (i : Nat) : -300000 ≤ genF T L n i ∧ genF T L n i ≤ 300000 := by
  have h1 := cntK_le (shV T L) n (i / 6)
  have h2 := cntK_le L T.length (i / 6)
  have h3 := cntK_le (keyB T L n) (headsB (bordE T (3 * T.length)) n).length (i / 6)
  have h4 := headsB_le (bordE T (3 * T.length)) n
  have h5 := twn_le T L (3 * T.length) (i / 6)
  have e1 : nV T L n (i / 6) ≤ 4096 := by unfold nV; omega
  have e2 : nF T L (i / 6) ≤ 8192 := by unfold nF; omega
  have e3 : nB T L n (i / 6) ≤ 4096 := by unfold nB; omega
  have e4 : nT T L (i / 6) ≤ 49152 := by unfold nT; omega
  unfold genF finF
  dsimp only
  generalize nV T L n (i / 6) = a at e1 ⊢
  generalize nF T L (i / 6) = b at e2 ⊢
  generalize nB T L n (i / 6) = c at e3 ⊢
  generalize nT T L (i / 6) = d at e4 ⊢
  have ht : ∀ x : Int, -100000 ≤ x → x ≤ 100000 → -300000 ≤ x.tdiv 2 ∧ x.tdiv 2 ≤ 300000 := fun x h1 h2 => by
    rcases Int.le_total 0 x with h | h
    · rw [Int.tdiv_eq_ediv_of_nonneg h]; omega
    · have := Int.neg_tdiv x 2
      have h3 : (-x).tdiv 2 = (-x) / 2 := Int.tdiv_eq_ediv_of_nonneg (by omega)
      omega
  have := ht ((2 : Int) - (c : Int) - ((a : Int) - ((d / 2 : Nat) : Int) + (b : Int))) (by omega) (by omega)
  repeat' split
  all_goals omega
theorem sumF_le {Φ : Nat → Int} (h : ∀ i, -300000 ≤ Φ i ∧ Φ i ≤ 300000) (j : Nat) : ∀ k : Nat, -300000 * (k : Int) ≤ sumF Φ k j ∧ sumF Φ k j ≤ 300000 * (k : Int)
  | 0 => by simp [sumF]
  | k + 1 => by
    have h1 := sumF_le h j k
    have h2 := h (6 * k + j)
    unfold sumF
    constructor <;> omega
set_option maxRecDepth 100000 in
set_option maxHeartbeats 4000000 in
theorem whole_ok (b n m : Nat) (T : List Tr) (L : Nat → Int) (w : World) (h : Tab w b n T) (hf : FirstAt w b T n) (hs : Surf n T) (hL : IsShells (Adj T) T.length L) (hm : (m : Int) = cnt L T.length) :
    Calls Try.prog 10 #[.pointer (some ⟨b, 0, none⟩)] w fun e w' => e = .returned (.agg #[.int .i64 (sumF (genF T L n) m 0), .int .i64 (sumF (genF T L n) m 1), .int .i64 (sumF (genF T L n) m 2), .int .i64 (sumF (genF T L n) m 3), .int .i64 (sumF (genF T L n) m 4), .int .i64 (sumF (genF T L n) m 5)]) ∧ Below w.heap.size w w' := by
  obtain ⟨W0, hW0⟩ : ∃ W0, W0 = (w.alloc (.cells #[.int .i64 0, .int .i64 0, .int .i64 0, .int .i64 0, .int .i64 0, .int .i64 0] 35)).alloc (.cells #[.int .i64 0, .int .i64 0, .int .i64 0, .int .i64 0, .int .i64 0, .int .i64 0] 35) := ⟨_, rfl⟩
  have hb0 : Below w.heap.size w W0 := by rw [hW0]; exact ((Below.refl _ _).alloc (Nat.le_refl _) _).alloc (by simp) _
  have hr0 : RowIs W0 w.heap.size 35 (iv (fun _ => 0) 6) := by rw [hW0]; exact (RowIs.made w 35 (iv (fun _ => 0) 6)).alloc _
  have hr1 : RowIs W0 (w.heap.size + 1) 35 (iv (fun _ => 0) 6) := by rw [hW0]; exact RowIs.made' _ _ (iv (fun _ => 0) 6) _ (by simp)
  have hn4 : n ≤ 4096 := by have := hs.n1; omega
  have ht8 := hs.t1
  have hmle : m ≤ 8192 := by have := hL.cnt_le; omega
  have HG := Lib.hid (genus_of b n m T L W0 (h.mono (Nat.le_refl _) hb0) (hf.mono (Nat.le_refl _) hb0) hs hL hm)
  obtain ⟨Φ, hΦ⟩ : ∃ Φ, Φ = genF T L n := ⟨_, rfl⟩
  have HLE := Lib.hid (show ∀ i, -300000 ≤ Φ i ∧ Φ i ≤ 300000 from fun i => by rw [hΦ]; exact genF_le hn4 ht8 i)
  rw [← hΦ] at HG ⊢
  have HB0 := Lib.hid hb0
  have HR0 := Lib.hid hr0
  have HR1 := Lib.hid hr1
  have HW0 := Lib.hid hW0
  obtain ⟨xb, hxb⟩ : ∃ x, x = w.heap.size := ⟨_, rfl⟩
  rw [← hxb] at HR0 HR1
  have HXB := Lib.hid hxb
  clear h hf hs hL hm hb0 hr0 hr1 hW0 hΦ ht8 hxb
  go_enter Try.func10, Try.ntmps10
  go_upto_region 2 with fail
  simp only [← HXB.out]
  rw [← HW0.out]
  go_wp2_with fail
  refine HG.out.mono ?_
  rintro e W1 ⟨go, rfl, hgo, hro, hb1⟩
  have HRO := Lib.hid hro
  have HB1 := Lib.hid hb1
  have hx0 := (HR0.out.lt)
  have hx1 := HR1.out.lt
  have HROW1 := Lib.hid (HR1.out.after hb1)
  have HROW0 := Lib.hid (HR0.out.after hb1)
  have hlt := hro.lt
  clear hro hb1 HG
  go_wp2
  go_loopw [9] (fun i ws => ∃ k : Nat, k ≤ m ∧ i = .int .i64 k ∧ RowIs ws (xb + 1) 35 (iv (sumF Φ k) 6) ∧ But W1.heap.size (xb + 1) W1 ws ∧ W1.heap.size ≤ ws.heap.size) (fun i _ => m - (intOf i).toNat)
  case atStart => exact ⟨0, by omega, rfl, HROW1.out, But.refl _ _ _, Nat.le_refl _⟩
  case round =>
  obtain ⟨k, hk, rfl, hrow, hbut, hsz⟩ := hrel
  obtain ⟨X, rfl⟩ : ∃ X : World, X = wr := ⟨_, rfl⟩
  have HROW := Lib.hid hrow
  have HBUT := Lib.hid hbut
  have HSZ := Lib.hid hsz
  clear hrow hbut hsz
  by_cases hkm : k < m
  case neg =>
    obtain rfl : m = k := by omega
    obtain ⟨s0, hs0⟩ : ∃ x, x = sumF Φ m 0 := ⟨_, rfl⟩
    have p0 := HROW.out.cell (iv_get (sumF Φ m) (show 0 < 6 by omega))
    rw [← hs0] at p0
    have HQ0 := Lib.hid hs0
    obtain ⟨s1, hs1⟩ : ∃ x, x = sumF Φ m 1 := ⟨_, rfl⟩
    have p1 := HROW.out.cell (iv_get (sumF Φ m) (show 1 < 6 by omega))
    rw [← hs1] at p1
    have HQ1 := Lib.hid hs1
    obtain ⟨s2, hs2⟩ : ∃ x, x = sumF Φ m 2 := ⟨_, rfl⟩
    have p2 := HROW.out.cell (iv_get (sumF Φ m) (show 2 < 6 by omega))
    rw [← hs2] at p2
    have HQ2 := Lib.hid hs2
    obtain ⟨s3, hs3⟩ : ∃ x, x = sumF Φ m 3 := ⟨_, rfl⟩
    have p3 := HROW.out.cell (iv_get (sumF Φ m) (show 3 < 6 by omega))
    rw [← hs3] at p3
    have HQ3 := Lib.hid hs3
    obtain ⟨s4, hs4⟩ : ∃ x, x = sumF Φ m 4 := ⟨_, rfl⟩
    have p4 := HROW.out.cell (iv_get (sumF Φ m) (show 4 < 6 by omega))
    rw [← hs4] at p4
    have HQ4 := Lib.hid hs4
    obtain ⟨s5, hs5⟩ : ∃ x, x = sumF Φ m 5 := ⟨_, rfl⟩
    have p5 := HROW.out.cell (iv_get (sumF Φ m) (show 5 < 6 by omega))
    rw [← hs5] at p5
    have HQ5 := Lib.hid hs5
    have hr0 := HBUT.out.row HROW0.out (by have := HROW0.out.lt; exact this) (by omega)
    have z0 := hr0.cell (iv_get (fun _ => 0) (show 0 < 6 by omega))
    have z1 := hr0.cell (iv_get (fun _ => 0) (show 1 < 6 by omega))
    have z2 := hr0.cell (iv_get (fun _ => 0) (show 2 < 6 by omega))
    have z3 := hr0.cell (iv_get (fun _ => 0) (show 3 < 6 by omega))
    have z4 := hr0.cell (iv_get (fun _ => 0) (show 4 < 6 by omega))
    have z5 := hr0.cell (iv_get (fun _ => 0) (show 5 < 6 by omega))
    have zf := fun i => hr0.free i
    have hrF := ((((((hr0.set 0 (.int .i64 s0)).set 1 (.int .i64 s1)).set 2 (.int .i64 s2)).set 3 (.int .i64 s3)).set 4 (.int .i64 s4)).set 5 (.int .i64 s5))
    rw [iv_set, iv_set, iv_set, iv_set, iv_set, iv_set] at hrF
    have y0 := hrF.cell (iv_get _ (show 0 < 6 by omega))
    rw [show upd (upd (upd (upd (upd (upd (fun _ => 0) 0 s0) 1 s1) 2 s2) 3 s3) 4 s4) 5 s5 0 = s0 from by simp [upd]] at y0
    have y1 := hrF.cell (iv_get _ (show 1 < 6 by omega))
    rw [show upd (upd (upd (upd (upd (upd (fun _ => 0) 0 s0) 1 s1) 2 s2) 3 s3) 4 s4) 5 s5 1 = s1 from by simp [upd]] at y1
    have y2 := hrF.cell (iv_get _ (show 2 < 6 by omega))
    rw [show upd (upd (upd (upd (upd (upd (fun _ => 0) 0 s0) 1 s1) 2 s2) 3 s3) 4 s4) 5 s5 2 = s2 from by simp [upd]] at y2
    have y3 := hrF.cell (iv_get _ (show 3 < 6 by omega))
    rw [show upd (upd (upd (upd (upd (upd (fun _ => 0) 0 s0) 1 s1) 2 s2) 3 s3) 4 s4) 5 s5 3 = s3 from by simp [upd]] at y3
    have y4 := hrF.cell (iv_get _ (show 4 < 6 by omega))
    rw [show upd (upd (upd (upd (upd (upd (fun _ => 0) 0 s0) 1 s1) 2 s2) 3 s3) 4 s4) 5 s5 4 = s4 from by simp [upd]] at y4
    have y5 := hrF.cell (iv_get _ (show 5 < 6 by omega))
    rw [show upd (upd (upd (upd (upd (upd (fun _ => 0) 0 s0) 1 s1) 2 s2) 3 s3) 4 s4) 5 s5 5 = s5 from by simp [upd]] at y5
    have HBF := Lib.hid (show Below w.heap.size w ((((((X.setCell ⟨xb, 0, none⟩ (.int .i64 s0)).setCell ⟨xb, 1, none⟩ (.int .i64 s1)).setCell ⟨xb, 2, none⟩ (.int .i64 s2)).setCell ⟨xb, 3, none⟩ (.int .i64 s3)).setCell ⟨xb, 4, none⟩ (.int .i64 s4)).setCell ⟨xb, 5, none⟩ (.int .i64 s5)) from by
      have hbw : Below xb w X := by
        rw [HXB.out]
        exact (below_more HB0.out HB1.out HB0.out.size).trans (HBUT.out.below (by rw [← HXB.out]; omega) (by rw [← HXB.out]; omega))
      rw [HXB.out] at hbw ⊢
      exact (((((hbw.setCell (p := ⟨w.heap.size, 0, none⟩) (Nat.le_refl _) _).setCell (p := ⟨w.heap.size, 1, none⟩) (Nat.le_refl _) _).setCell (p := ⟨w.heap.size, 2, none⟩) (Nat.le_refl _) _).setCell (p := ⟨w.heap.size, 3, none⟩) (Nat.le_refl _) _).setCell (p := ⟨w.heap.size, 4, none⟩) (Nat.le_refl _) _).setCell (p := ⟨w.heap.size, 5, none⟩) (Nat.le_refl _) _)
    clear hs0 hs1 hs2 hs3 hs4 hs5 hr0 hrF
    go_wp2
    exact bodyPost_ret (v := .agg #[.int .i64 s0, .int .i64 s1, .int .i64 s2, .int .i64 s3, .int .i64 s4, .int .i64 s5]) (by simp [results, Try.results10, go_sem, y0, y1, y2, y3, y4, y5]) rfl ⟨by rw [HQ0.out, HQ1.out, HQ2.out, HQ3.out, HQ4.out, HQ5.out], HBF.out⟩
  case pos =>
  have hro := HBUT.out.row HRO.out hlt (by omega)
  have p0 := hro.cell (iv_get Φ (show k * 6 < 6 * m by omega))
  have p1 := hro.cell (iv_get Φ (show k * 6 + 1 < 6 * m by omega))
  have p2 := hro.cell (iv_get Φ (show k * 6 + 2 < 6 * m by omega))
  have p3 := hro.cell (iv_get Φ (show k * 6 + 3 < 6 * m by omega))
  have p4 := hro.cell (iv_get Φ (show k * 6 + 4 < 6 * m by omega))
  have p5 := hro.cell (iv_get Φ (show k * 6 + 5 < 6 * m by omega))
  obtain ⟨f0, hf0⟩ : ∃ x, x = Φ (k * 6) := ⟨_, rfl⟩
  obtain ⟨f1, hf1⟩ : ∃ x, x = Φ (k * 6 + 1) := ⟨_, rfl⟩
  obtain ⟨f2, hf2⟩ : ∃ x, x = Φ (k * 6 + 2) := ⟨_, rfl⟩
  obtain ⟨f3, hf3⟩ : ∃ x, x = Φ (k * 6 + 3) := ⟨_, rfl⟩
  obtain ⟨f4, hf4⟩ : ∃ x, x = Φ (k * 6 + 4) := ⟨_, rfl⟩
  obtain ⟨f5, hf5⟩ : ∃ x, x = Φ (k * 6 + 5) := ⟨_, rfl⟩
  rw [← hf0] at p0
  rw [← hf1] at p1
  rw [← hf2] at p2
  rw [← hf3] at p3
  rw [← hf4] at p4
  rw [← hf5] at p5
  obtain ⟨X1, hX1⟩ : ∃ X1, X1 = X.alloc (.cells #[.int .i64 f0, .int .i64 f1, .int .i64 f2, .int .i64 f3, .int .i64 f4, .int .i64 f5] 35) := ⟨_, rfl⟩
  have hbX : Below X.heap.size X X1 := by rw [hX1]; exact (Below.refl _ _).alloc (Nat.le_refl _) _
  have hrX : RowIs X1 X.heap.size 35 [.int .i64 f0, .int .i64 f1, .int .i64 f2, .int .i64 f3, .int .i64 f4, .int .i64 f5] := by rw [hX1]; exact RowIs.made X 35 [.int .i64 f0, .int .i64 f1, .int .i64 f2, .int .i64 f3, .int .i64 f4, .int .i64 f5]
  have HX1 := Lib.hid hX1
  have HF0 := Lib.hid hf0
  have bf0 := HLE.out (k * 6)
  have HF1 := Lib.hid hf1
  have bf1 := HLE.out (k * 6 + 1)
  have HF2 := Lib.hid hf2
  have bf2 := HLE.out (k * 6 + 2)
  have HF3 := Lib.hid hf3
  have bf3 := HLE.out (k * 6 + 3)
  have HF4 := Lib.hid hf4
  have bf4 := HLE.out (k * 6 + 4)
  have HF5 := Lib.hid hf5
  have bf5 := HLE.out (k * 6 + 5)
  rw [← hf0] at bf0
  rw [← hf1] at bf1
  rw [← hf2] at bf2
  rw [← hf3] at bf3
  rw [← hf4] at bf4
  rw [← hf5] at bf5
  have hkm8 : k ≤ 8191 := by omega
  have o0 := (HROW.out.after hbX).cell (iv_get (sumF Φ k) (show 0 < 6 by omega))
  obtain ⟨s0, hs0⟩ : ∃ x, x = sumF Φ k 0 := ⟨_, rfl⟩
  rw [← hs0] at o0
  have bs0 := sumF_le HLE.out 0 k
  rw [← hs0] at bs0
  have HS0 := Lib.hid hs0
  have o1 := (HROW.out.after hbX).cell (iv_get (sumF Φ k) (show 1 < 6 by omega))
  obtain ⟨s1, hs1⟩ : ∃ x, x = sumF Φ k 1 := ⟨_, rfl⟩
  rw [← hs1] at o1
  have bs1 := sumF_le HLE.out 1 k
  rw [← hs1] at bs1
  have HS1 := Lib.hid hs1
  have o2 := (HROW.out.after hbX).cell (iv_get (sumF Φ k) (show 2 < 6 by omega))
  obtain ⟨s2, hs2⟩ : ∃ x, x = sumF Φ k 2 := ⟨_, rfl⟩
  rw [← hs2] at o2
  have bs2 := sumF_le HLE.out 2 k
  rw [← hs2] at bs2
  have HS2 := Lib.hid hs2
  have o3 := (HROW.out.after hbX).cell (iv_get (sumF Φ k) (show 3 < 6 by omega))
  obtain ⟨s3, hs3⟩ : ∃ x, x = sumF Φ k 3 := ⟨_, rfl⟩
  rw [← hs3] at o3
  have bs3 := sumF_le HLE.out 3 k
  rw [← hs3] at bs3
  have HS3 := Lib.hid hs3
  have o4 := (HROW.out.after hbX).cell (iv_get (sumF Φ k) (show 4 < 6 by omega))
  obtain ⟨s4, hs4⟩ : ∃ x, x = sumF Φ k 4 := ⟨_, rfl⟩
  rw [← hs4] at o4
  have bs4 := sumF_le HLE.out 4 k
  rw [← hs4] at bs4
  have HS4 := Lib.hid hs4
  have o5 := (HROW.out.after hbX).cell (iv_get (sumF Φ k) (show 5 < 6 by omega))
  obtain ⟨s5, hs5⟩ : ∃ x, x = sumF Φ k 5 := ⟨_, rfl⟩
  rw [← hs5] at o5
  have bs5 := sumF_le HLE.out 5 k
  rw [← hs5] at bs5
  have HS5 := Lib.hid hs5
  have q0 := hrX.cell (i := 0) rfl
  have q1 := hrX.cell (i := 1) rfl
  have q2 := hrX.cell (i := 2) rfl
  have q3 := hrX.cell (i := 3) rfl
  have q4 := hrX.cell (i := 4) rfl
  have q5 := hrX.cell (i := 5) rfl
  have a0 : -4000000000 ≤ s0 ∧ s0 ≤ 4000000000 := by omega
  have c0 : -300000 ≤ f0 ∧ f0 ≤ 300000 := bf0
  have a1 : -4000000000 ≤ s1 ∧ s1 ≤ 4000000000 := by omega
  have c1 : -300000 ≤ f1 ∧ f1 ≤ 300000 := bf1
  have a2 : -4000000000 ≤ s2 ∧ s2 ≤ 4000000000 := by omega
  have c2 : -300000 ≤ f2 ∧ f2 ≤ 300000 := bf2
  have a3 : -4000000000 ≤ s3 ∧ s3 ≤ 4000000000 := by omega
  have c3 : -300000 ≤ f3 ∧ f3 ≤ 300000 := bf3
  have a4 : -4000000000 ≤ s4 ∧ s4 ≤ 4000000000 := by omega
  have c4 : -300000 ≤ f4 ∧ f4 ≤ 300000 := bf4
  have a5 : -4000000000 ≤ s5 ∧ s5 ≤ 4000000000 := by omega
  have c5 : -300000 ≤ f5 ∧ f5 ≤ 300000 := bf5
  have of := fun i => (HROW.out.after hbX).free i
  obtain ⟨X2, hX2⟩ : ∃ X2, X2 = ((((((X1.setCell ⟨xb + 1, 0, none⟩ (.int .i64 (s0 + f0))).setCell ⟨xb + 1, 1, none⟩ (.int .i64 (s1 + f1))).setCell ⟨xb + 1, 2, none⟩ (.int .i64 (s2 + f2))).setCell ⟨xb + 1, 3, none⟩ (.int .i64 (s3 + f3))).setCell ⟨xb + 1, 4, none⟩ (.int .i64 (s4 + f4))).setCell ⟨xb + 1, 5, none⟩ (.int .i64 (s5 + f5))) := ⟨_, rfl⟩
  have HX2 := Lib.hid hX2
  have HR2 := Lib.hid (show RowIs X2 (xb + 1) 35 (iv (sumF Φ (k + 1)) 6) from by
    have h0 := (((((((HROW.out.after hbX).set 0 (.int .i64 (s0 + f0))).set 1 (.int .i64 (s1 + f1))).set 2 (.int .i64 (s2 + f2))).set 3 (.int .i64 (s3 + f3))).set 4 (.int .i64 (s4 + f4))).set 5 (.int .i64 (s5 + f5)))
    rw [iv_set, iv_set, iv_set, iv_set, iv_set, iv_set] at h0
    rw [hX2, iv_congr (h := upd (upd (upd (upd (upd (upd (sumF Φ k) 0 (s0 + f0)) 1 (s1 + f1)) 2 (s2 + f2)) 3 (s3 + f3)) 4 (s4 + f4)) 5 (s5 + f5)) (fun i hi => ?_)]
    · exact h0
    · unfold upd
      match i, hi with
      | 0, _ => simp [sumF, hs0, hf0, Nat.mul_comm]
      | 1, _ => simp [sumF, hs1, hf1, Nat.mul_comm]
      | 2, _ => simp [sumF, hs2, hf2, Nat.mul_comm]
      | 3, _ => simp [sumF, hs3, hf3, Nat.mul_comm]
      | 4, _ => simp [sumF, hs4, hf4, Nat.mul_comm]
      | 5, _ => simp [sumF, hs5, hf5, Nat.mul_comm])
  have hb1' := HBUT.out.more hbX HSZ.out
  have HB2 := Lib.hid (show But W1.heap.size (xb + 1) W1 X2 ∧ W1.heap.size ≤ X2.heap.size from by
    have hg := grown_tr (grown_tr (grown_tr (grown_tr (grown_tr (grown_set X1 (xb + 1) 0 (.int .i64 (s0 + f0))) (grown_set _ (xb + 1) 1 (.int .i64 (s1 + f1)))) (grown_set _ (xb + 1) 2 (.int .i64 (s2 + f2)))) (grown_set _ (xb + 1) 3 (.int .i64 (s3 + f3)))) (grown_set _ (xb + 1) 4 (.int .i64 (s4 + f4)))) (grown_set _ (xb + 1) 5 (.int .i64 (s5 + f5)))
    rw [← hX2] at hg
    have h1 := hbX.size
    have h2 := HSZ.out
    exact ⟨hb1'.grown hg (by omega) (fun q hq => .inr (by cases hq; rfl)), by have := hg.size; omega⟩)
  clear hf0 hs0 bf0 bs0 hf1 hs1 bf1 bs1 hf2 hs2 bf2 bs2 hf3 hs3 bf3 bs3 hf4 hs4 bf4 bs4 hf5 hs5 bf5 bs5 hX1 hX2 hbX hrX hro hb1'
  go_upto_region 5 with fail
  rw [← HX1.out]
  go_upto_region 6 with fail
  rw [← HX2.out]
  go_wp2
  go_roundw
  case rel => exact ⟨k + 1, by omega, by go_num, HR2.out, HB2.out.1, HB2.out.2⟩
  case measure => simp [intOf]; omega
end Go.Proofs.Ytbeefabboabfgaa

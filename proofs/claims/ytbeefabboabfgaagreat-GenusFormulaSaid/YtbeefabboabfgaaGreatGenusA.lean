/- corner.Table.Corner; genus.Of's 'at'; genus.Numbers.done. genus.Of: what its loops count. Plain. -/
import Derived.Test.YtbeefabboabfgaaGreatCornerNew
import Derived.Test.YtbeefabboabfgaaGreatFaceLaw
import Derived.Test.YtbeefabboabfgaaGreatRowFam
import Derived.BigQuiet
import Derived.StillTailTactics
import Derived.Test.YtbeefabboabfgaaGreatLoopsW
import Derived.Test.YtbeefabboabfgaaGreatShellG
namespace Go.Proofs.YtbeefabboabfgaaGreat
set_option linter.unusedVariables false
set_option linter.unusedSimpArgs false
open Go.RowKit
theorem firstF_has {N : Int} {T : List Tr} (hs : Surf N T) {v : Nat} (hv : (v : Int) < N) : ∃ c : Nat, firstF T 0 v = (c : Int) ∧ c < 3 * T.length ∧ vt T (c : Int) = (v : Int) := by
  obtain ⟨i, hi, hb⟩ := hs.used (v : Int) (by omega) hv
  obtain ⟨j, hj, e⟩ := hasB_iff.1 hb
  unfold firstF
  cases hf : (List.range' 0 (3 * T.length - 0)).find? fun (c : Nat) => vt T (c : Int) == (v : Int) with
  | none =>
    have := List.find?_eq_none.1 hf (3 * i + j) (by simp [List.mem_range'_1]; omega)
    have e2 := vt_tri T i j hj
    rw [e] at e2
    exact absurd (by simpa using e2) this
  | some c =>
    have h1 := List.mem_of_find?_eq_some hf
    have h2 := List.find?_some hf
    simp only [List.mem_range'_1] at h1
    exact ⟨c, rfl, by omega, by simpa using h2⟩
set_option maxRecDepth 100000 in
set_option maxHeartbeats 1000000 in
theorem corner_any (b n v : Nat) (T : List Tr) (w : World) (h : FirstAt w b T n) (hv : v < n) (hn : n ≤ 10000) :
    Calls Tryz.prog 31 #[.pointer (some ⟨b, 0, none⟩), .int .i64 (v : Int)] w fun e w' => e = .returned (.int .i64 (firstF T 0 v)) ∧ w' = w := by
  obtain ⟨f, h1, h2, h3⟩ := h
  have c0 := h3.cell (iv_get (firstF T 0) hv)
  generalize firstF T 0 v = z at c0 ⊢
  have d0 : decide ((v : Int) < 0) = false := by simp
  have d1 : decide ((v : Int) ≥ (n : Int)) = false := by simp; omega
  have d2 : decide ((n : Int) ≤ (v : Int)) = false := by simp; omega
  have d3 : decide (n ≤ v) = false := by simp; omega
  clear h3
  go_enter Tryz.func31, Tryz.ntmps31
  go_wp2
  go_ret
  exact ⟨rfl, rfl⟩
set_option maxRecDepth 100000 in
set_option maxHeartbeats 1000000 in
theorem at_any (b n v b1 b3 gl : Nat) (T : List Tr) (L : Nat → Int) (w : World) (hs : Surf n T) (h : FirstAt w b T n) (hv : v < n) (h1 : w.cell? ⟨b1, 0, none⟩ = some (.pointer (some ⟨b, 0, none⟩))) (h3 : w.cell? ⟨b3, 0, none⟩ = some (.slice (some ⟨gl, 0, none⟩) T.length T.length)) (hL : RowIs w gl 3 (iv L T.length)) :
    Calls Tryz.prog 30 #[.int .i64 (v : Int), .pointer (some ⟨b3, 0, none⟩), .pointer (some ⟨b1, 0, none⟩)] w fun e w' => e = .returned (.int .i64 (L ((firstF T 0 v).toNat / 3))) ∧ Below w.heap.size w w' := by
  obtain ⟨c, hc, hc3, -⟩ := firstF_has hs (v := v) (by omega)
  have hn4 : n ≤ 4096 := by have := hs.n1; omega
  have ht := hs.t1
  have HC := Lib.hid (show ∀ q, Calls Tryz.prog 31 #[.pointer (some ⟨b, 0, none⟩), .int .i64 (v : Int)] (w.drewN q) fun e w' => e = .returned (.int .i64 (c : Int)) ∧ ∃ r, w' = w.drewN r from fun q => by
    have := corner_any b n v T (w.drewN q) (h.mono (Nat.le_refl _) (by exact ⟨rfl, rfl, rfl, Nat.le_refl _, fun _ _ => rfl⟩)) hv (by omega)
    rw [hc] at this
    exact this.mono fun e w' ⟨h1, h2⟩ => ⟨h1, q, h2⟩)
  obtain ⟨k, hk⟩ : ∃ k, k = c / 3 := ⟨_, rfl⟩
  have hkl : k < T.length := by omega
  have s3 : (c : Int) / 3 = (k : Int) := by omega
  have c0 := hL.cell (iv_get L hkl)
  rw [hc, Int.toNat_natCast, ← hk]
  generalize L k = z at c0 ⊢
  obtain ⟨len, hlen⟩ : ∃ l, l = T.length := ⟨_, rfl⟩
  rw [← hlen] at h3 hkl ht
  clear hL hc hk hlen hs h
  go_enter Tryz.func30, Tryz.ntmps30
  go_upto_region 1 with fail
  go_quiet ((go_at_call 31; with_reducible exact HC.out _))
  go_wp2
  go_ret
  exact ⟨rfl, ⟨rfl, rfl, rfl, Nat.le_refl _, fun _ _ => rfl⟩⟩
set_option maxRecDepth 100000 in
set_option maxHeartbeats 2000000 in
theorem done_any (g o m6 : Nat) (Φ : Nat → Int) (V F B tw : Nat) (w : World) (hr : RowIs w g 33 (iv Φ m6)) (ho : o + 6 ≤ m6) (hV : Φ o = (V : Int)) (hF : Φ (o + 2) = (F : Int)) (hB : Φ (o + 3) = (B : Int)) (bV : V ≤ 100000) (bF : F ≤ 100000) (bB : B ≤ 100000) (bT : tw ≤ 100000) :
    Calls Tryz.prog 34 #[.pointer (some ⟨g, o, none⟩), .int .i64 (tw : Int)] w fun e w' => e = .returned (.tuple #[]) ∧ w.grownBy w' (some g) ∧
      RowIs w' g 33 (iv (upd (upd (upd Φ (o + 1) ((tw / 2 : Nat) : Int)) (o + 4) ((V : Int) - ((tw / 2 : Nat) : Int) + (F : Int))) (o + 5) (((2 : Int) - (B : Int) - ((V : Int) - ((tw / 2 : Nat) : Int) + (F : Int))).tdiv 2)) m6) := by
  obtain ⟨e, he⟩ : ∃ e, e = tw / 2 := ⟨_, rfl⟩
  have s2 : (tw : Int) / 2 = (e : Int) := by omega
  rw [← he]
  have be : e ≤ 50000 := by omega
  obtain ⟨eu, heu⟩ : ∃ x : Int, x = (V : Int) - (e : Int) + (F : Int) := ⟨_, rfl⟩
  have r0 := hr.set (o + 1) (.int .i64 (e : Int))
  rw [iv_set] at r0
  obtain ⟨w1, hw1⟩ : ∃ w1, w1 = w.setCell ⟨g, o + 1, none⟩ (.int .i64 (e : Int)) := ⟨_, rfl⟩
  rw [← hw1] at r0
  have HG1 := Lib.hid (show w.grownBy w1 (some g) from by rw [hw1]; exact grown_set _ _ _ _)
  have HR1 := Lib.hid r0
  have HW1 := Lib.hid hw1
  have f1 := hr.free (o + 1)
  have c1 := hr.cell (iv_get Φ (show o + 1 < m6 by omega))
  have u0 : upd Φ (o + 1) (e : Int) o = (V : Int) := by unfold upd; rw [if_neg (by omega)]; exact hV
  have u1 : upd Φ (o + 1) (e : Int) (o + 1) = (e : Int) := by unfold upd; rw [if_pos rfl]
  have u2 : upd Φ (o + 1) (e : Int) (o + 2) = (F : Int) := by unfold upd; rw [if_neg (by omega)]; exact hF
  have u3 : upd Φ (o + 1) (e : Int) (o + 3) = (B : Int) := by unfold upd; rw [if_neg (by omega)]; exact hB
  obtain ⟨Ψ, hΨ⟩ : ∃ Ψ, Ψ = upd Φ (o + 1) (e : Int) := ⟨_, rfl⟩
  rw [← hΨ] at u0 u1 u2 u3 HR1 ⊢
  have HPS := Lib.hid hΨ
  have x0 := HR1.out.cell (iv_get Ψ (show o < m6 by omega))
  have x1 := HR1.out.cell (iv_get Ψ (show o + 1 < m6 by omega))
  have x2 := HR1.out.cell (iv_get Ψ (show o + 2 < m6 by omega))
  have x4 := HR1.out.cell (iv_get Ψ (show o + 4 < m6 by omega))
  rw [u0] at x0
  rw [u1] at x1
  rw [u2] at x2
  have f4 := HR1.out.free (o + 4)
  have HU3 := Lib.hid u3
  generalize Φ (o + 1) = z1 at c1
  generalize Ψ (o + 4) = z4 at x4
  clear hw1 r0 hr he hV hF hB u0 u1 u2 u3 hΨ
  rw [← heu]
  have hse : (V : Int) - (e : Int) + (F : Int) = eu := heu.symm
  have beu : -100000 ≤ eu ∧ eu ≤ 200000 := by omega
  clear heu
  go_enter Tryz.func34, Tryz.ntmps34
  go_upto_region 1 with fail
  rw [← HW1.out]
  obtain ⟨Y, hY⟩ : ∃ Y, Y = w1.drew := ⟨_, rfl⟩
  have HY := Lib.hid hY
  have HRY := Lib.hid (show RowIs Y g 33 (iv Ψ m6) from by rw [hY]; exact HR1.out.drew1)
  have y4 : Y.cell? ⟨g, o + 4, none⟩ = some (.int .i64 z4) := by rw [hY]; exact x4
  have yf4 : Y.frozen? ⟨g, o + 4, none⟩ = false := by rw [hY]; exact f4
  clear hY
  go_still_tail 17, (by kernel_rfl)
  change wpList _ _ _ _ _ w1.drew
  rw [← HY.out]
  clear x4 f4
  obtain ⟨Y2, hY2⟩ : ∃ Y2, Y2 = Y.setCell ⟨g, o + 4, none⟩ (.int .i64 ((V : Int) - (e : Int) + (F : Int))) := ⟨_, rfl⟩
  have HY2 := Lib.hid hY2
  have HRY2 := Lib.hid (show RowIs Y2 g 33 (iv (upd Ψ (o + 4) eu) m6) from by
    have := HRY.out.set (o + 4) (.int .i64 eu)
    rw [iv_set] at this
    rw [hY2, hse]; exact this)
  have HSE := Lib.hid hse
  have HGY := Lib.hid (show w.grownBy Y2 (some g) from by
    rw [hY2]
    exact grown_tr (grown_tr HG1.out (by rw [HY.out]; exact ⟨rfl, rfl, rfl, Nat.le_refl _, fun _ _ _ => rfl⟩)) (grown_set _ _ _ _))
  clear hY2 hse
  go_upto_region 2 with fail
  rw [← HY2.out]
  have v3 : upd Ψ (o + 4) eu (o + 3) = (B : Int) := by unfold upd; rw [if_neg (by omega)]; exact HU3.out
  have v4 : upd Ψ (o + 4) eu (o + 4) = eu := by unfold upd; rw [if_pos rfl]
  obtain ⟨Θ, hΘ⟩ : ∃ Θ, Θ = upd Ψ (o + 4) eu := ⟨_, rfl⟩
  rw [← hΘ] at v3 v4 HRY2
  have HTH := Lib.hid hΘ
  obtain ⟨Z, hZ⟩ : ∃ Z, Z = Y2.drew := ⟨_, rfl⟩
  have HZ := Lib.hid hZ
  have HRZ := Lib.hid (show RowIs Z g 33 (iv Θ m6) from by rw [hZ]; exact HRY2.out.drew1)
  have z3 := HRY2.out.cell (iv_get Θ (show o + 3 < m6 by omega))
  have z4 := HRY2.out.cell (iv_get Θ (show o + 4 < m6 by omega))
  have z5 := HRZ.out.cell (iv_get Θ (show o + 5 < m6 by omega))
  rw [v3] at z3
  rw [v4] at z4
  have zf5 := HRZ.out.free (o + 5)
  generalize Θ (o + 5) = z5' at z5
  clear v3 v4 hΘ hZ y4 yf4
  go_still_tail 14, (by kernel_rfl)
  change wpList _ _ _ _ _ Y2.drew
  rw [← HZ.out]
  have HGF := Lib.hid (show w.grownBy (Z.setCell ⟨g, o + 5, none⟩ (.int .i64 (((2 : Int) - (B : Int) - eu).tdiv 2))) (some g) from
    grown_tr (grown_tr HGY.out (by rw [HZ.out]; exact ⟨rfl, rfl, rfl, Nat.le_refl _, fun _ _ _ => rfl⟩)) (grown_set _ _ _ _))
  have HRF := Lib.hid (show RowIs (Z.setCell ⟨g, o + 5, none⟩ (.int .i64 (((2 : Int) - (B : Int) - eu).tdiv 2))) g 33 (iv (upd (upd Ψ (o + 4) eu) (o + 5) (((2 : Int) - (B : Int) - eu).tdiv 2)) m6) from by
    have := HRZ.out.set (o + 5) (.int .i64 (((2 : Int) - (B : Int) - eu).tdiv 2))
    rw [iv_set, HTH.out] at this
    exact this)
  go_wp2
  exact bodyPost_end (v := .tuple #[]) (by simp [results, Tryz.results34, go_sem]) rfl ⟨rfl, HGF.out, HRF.out⟩
/-- How many of the first i have the key k. -/
def cntK (key : Nat → Int) (i k : Nat) : Nat := ((List.range i).filter fun t => decide (key t = (k : Int))).length
theorem cntK_zero (key : Nat → Int) (k : Nat) : cntK key 0 k = 0 := rfl
theorem cntK_succ (key : Nat → Int) (i k : Nat) : cntK key (i + 1) k = cntK key i k + if key i = (k : Int) then 1 else 0 := by
  unfold cntK
  rw [List.range_succ, List.filter_append, List.length_append]
  by_cases h : key i = (k : Int) <;> simp [h]
theorem cntK_le (key : Nat → Int) (i k : Nat) : cntK key i k ≤ i := by
  have := List.length_filter_le (fun t => decide (key t = (k : Int))) (List.range i)
  simpa [cntK] using this
/-- The ends of edges at the first c corners: one a corner, two on the border. -/
def twn (T : List Tr) (L : Nat → Int) (c k : Nat) : Nat := cntK (fun x => L (x / 3)) c k + ((List.range c).filter fun x => decide (L (x / 3) = (k : Int)) && decide (opp T (x : Nat) < 0)).length
theorem twn_succ (T : List Tr) (L : Nat → Int) (c k : Nat) : twn T L (c + 1) k = twn T L c k + (if L (c / 3) = (k : Int) then (if opp T (c : Nat) < 0 then 2 else 1) else 0) := by
  unfold twn
  rw [cntK_succ, List.range_succ, List.filter_append, List.length_append]
  by_cases h : L (c / 3) = (k : Int) <;> by_cases g : opp T (c : Nat) < 0 <;> simp [h, g] <;> omega
theorem twn_le (T : List Tr) (L : Nat → Int) (c k : Nat) : twn T L c k ≤ 2 * c := by
  have h1 := cntK_le (fun x => L (x / 3)) c k
  have h2 := List.length_filter_le (fun x => decide (L (x / 3) = (k : Int)) && decide (opp T (x : Nat) < 0)) (List.range c)
  rw [List.length_range] at h2
  unfold twn
  omega
/-- The shell of a vertex. -/
def shV (T : List Tr) (L : Nat → Int) (v : Nat) : Int := L ((firstF T 0 v).toNat / 3)
/-- The first vertices of the border loops. -/
def headsB (E : List (Int × Int)) (n : Nat) : List Nat := (List.range n).filter fun v => minB E (v : Int)
theorem loopsL_heads (E : List (Int × Int)) (n : Nat) : loopsL E n = (headsB E n).map fun (v : Nat) => orb E (v : Int) := rfl
theorem headsB_le (E : List (Int × Int)) (n : Nat) : (headsB E n).length ≤ n := by
  have := List.length_filter_le (fun v : Nat => minB E (v : Int)) (List.range n)
  simpa [headsB] using this
theorem headsB_mem {E : List (Int × Int)} {n v : Nat} : v ∈ headsB E n ↔ v < n ∧ minB E (v : Int) = true := by simp [headsB]
/-- A loop begins with its vertex. -/
theorem orb_head {E : List (Int × Int)} {v : Int} (hv : v ∈ E.map Prod.snd) : ∃ l, orb E v = v :: l := by
  unfold orb
  cases hb : nextB E v with
  | none => exact absurd hv (nextB_none.1 hb)
  | some b => exact ⟨_, rfl⟩
/-- The numbers under way. -/
def numF (V F B : Nat → Nat) : Nat → Int := fun i => if i % 6 = 0 then (V (i / 6) : Int) else if i % 6 = 2 then (F (i / 6) : Int) else if i % 6 = 3 then (B (i / 6) : Int) else 0
theorem numF_V (V F B : Nat → Nat) (s : Nat) : numF V F B (6 * s) = (V s : Int) := by
  unfold numF
  rw [if_pos (by omega), show 6 * s / 6 = s by omega]
theorem numF_F (V F B : Nat → Nat) (s : Nat) : numF V F B (6 * s + 2) = (F s : Int) := by
  unfold numF
  rw [if_neg (by omega), if_pos (by omega), show (6 * s + 2) / 6 = s by omega]
theorem numF_B (V F B : Nat → Nat) (s : Nat) : numF V F B (6 * s + 3) = (B s : Int) := by
  unfold numF
  rw [if_neg (by omega), if_neg (by omega), if_pos (by omega), show (6 * s + 3) / 6 = s by omega]
theorem numF_upF (V F F' B : Nat → Nat) (s : Nat) (h : ∀ k, F' k = F k + if k = s then 1 else 0) : upd (numF V F B) (6 * s + 2) ((F s : Int) + 1) = numF V F' B := by
  funext i
  unfold upd numF
  by_cases e : i = 6 * s + 2
  · subst e
    rw [if_pos rfl, if_neg (by omega), if_pos (by omega), show (6 * s + 2) / 6 = s by omega, h s, if_pos rfl]
    omega
  · rw [if_neg e]
    by_cases e2 : i % 6 = 2
    · rw [if_neg (by omega), if_pos e2, if_neg (by omega), if_pos e2, h (i / 6), if_neg (by omega)]
      rfl
    · by_cases e0 : i % 6 = 0
      · rw [if_pos e0, if_pos e0]
      · rw [if_neg e0, if_neg e2, if_neg e0, if_neg e2]
theorem numF_upV (V V' F B : Nat → Nat) (s : Nat) (h : ∀ k, V' k = V k + if k = s then 1 else 0) : upd (numF V F B) (6 * s) ((V s : Int) + 1) = numF V' F B := by
  funext i
  unfold upd numF
  by_cases e : i = 6 * s
  · subst e
    rw [if_pos rfl, if_pos (by omega), show 6 * s / 6 = s by omega, h s, if_pos rfl]
    omega
  · rw [if_neg e]
    by_cases e0 : i % 6 = 0
    · rw [if_pos e0, if_pos e0, h (i / 6), if_neg (by omega)]
      rfl
    · rw [if_neg e0, if_neg e0]
theorem numF_upB (V F B B' : Nat → Nat) (s : Nat) (h : ∀ k, B' k = B k + if k = s then 1 else 0) : upd (numF V F B) (6 * s + 3) ((B s : Int) + 1) = numF V F B' := by
  funext i
  unfold upd numF
  by_cases e : i = 6 * s + 3
  · subst e
    rw [if_pos rfl, if_neg (by omega), if_neg (by omega), if_pos (by omega), show (6 * s + 3) / 6 = s by omega, h s, if_pos rfl]
    omega
  · rw [if_neg e]
    by_cases e3 : i % 6 = 3
    · rw [if_neg (by omega), if_neg (by omega), if_pos e3, if_neg (by omega), if_neg (by omega), if_pos e3, h (i / 6), if_neg (by omega)]
      rfl
    · by_cases e0 : i % 6 = 0
      · rw [if_pos e0, if_pos e0]
      · rw [if_neg e0, if_neg e0]
        by_cases e2 : i % 6 = 2
        · rw [if_pos e2, if_pos e2]
        · rw [if_neg e2, if_neg e3, if_neg e2, if_neg e3]
/-- The numbers of a shell. -/
def finF (V F B tw : Nat → Nat) : Nat → Int := fun i =>
  let k := i / 6
  let eu := (V k : Int) - ((tw k / 2 : Nat) : Int) + (F k : Int)
  if i % 6 = 0 then (V k : Int) else if i % 6 = 1 then ((tw k / 2 : Nat) : Int) else if i % 6 = 2 then (F k : Int) else if i % 6 = 3 then (B k : Int) else if i % 6 = 4 then eu else ((2 : Int) - (B k : Int) - eu).tdiv 2
/-- Those of the first s shells done. -/
def dunF (V F B tw : Nat → Nat) (s : Nat) : Nat → Int := fun i => if i / 6 < s then finF V F B tw i else numF V F B i
theorem dunF_zero (V F B tw : Nat → Nat) : dunF V F B tw 0 = numF V F B := by
  funext i
  unfold dunF
  rw [if_neg (by omega)]
theorem dunF_here (V F B tw : Nat → Nat) (s j : Nat) (hj : j < 6) : dunF V F B tw s (6 * s + j) = numF V F B (6 * s + j) := by
  unfold dunF
  rw [if_neg (by omega)]
theorem dunF_step (V F B tw : Nat → Nat) (s : Nat) : upd (upd (upd (dunF V F B tw s) (6 * s + 1) ((tw s / 2 : Nat) : Int)) (6 * s + 4) ((V s : Int) - ((tw s / 2 : Nat) : Int) + (F s : Int))) (6 * s + 5) (((2 : Int) - (B s : Int) - ((V s : Int) - ((tw s / 2 : Nat) : Int) + (F s : Int))).tdiv 2) = dunF V F B tw (s + 1) := by
  funext i
  unfold upd dunF
  by_cases e5 : i = 6 * s + 5
  · subst e5
    rw [if_pos rfl, if_pos (by omega)]
    unfold finF
    rw [if_neg (by omega), if_neg (by omega), if_neg (by omega), if_neg (by omega), if_neg (by omega), show (6 * s + 5) / 6 = s by omega]
  · rw [if_neg e5]
    by_cases e4 : i = 6 * s + 4
    · subst e4
      rw [if_pos rfl, if_pos (by omega)]
      unfold finF
      rw [if_neg (by omega), if_neg (by omega), if_neg (by omega), if_neg (by omega), if_pos (by omega), show (6 * s + 4) / 6 = s by omega]
    · rw [if_neg e4]
      by_cases e1 : i = 6 * s + 1
      · subst e1
        rw [if_pos rfl, if_pos (by omega)]
        unfold finF
        rw [if_neg (by omega), if_pos (by omega), show (6 * s + 1) / 6 = s by omega]
      · rw [if_neg e1]
        by_cases hs : i / 6 < s
        · rw [if_pos hs, if_pos (by omega)]
        · rw [if_neg hs]
          by_cases h1 : i / 6 < s + 1
          · rw [if_pos h1]
            have hk : i / 6 = s := by omega
            unfold finF numF
            by_cases e0 : i % 6 = 0
            · rw [if_pos e0, if_pos e0]
            · have n1 : ¬ i % 6 = 1 := by omega
              rw [if_neg e0, if_neg e0, if_neg n1]
              by_cases e2 : i % 6 = 2
              · rw [if_pos e2, if_pos e2]
              · rw [if_neg e2, if_neg e2]
                by_cases e3 : i % 6 = 3
                · rw [if_pos e3, if_pos e3]
                · omega
          · rw [if_neg h1]
theorem madeCells_six (m : Nat) : (madeCells #[Value.int .i64 0, .int .i64 0, .int .i64 0, .int .i64 0, .int .i64 0, .int .i64 0] (m * 6)).toList = iv (fun _ => 0) (6 * m) := by
  apply List.ext_getElem
  · simp [madeCells, iv]; omega
  · intro i h1 h2
    have hm : i % 6 < 6 := Nat.mod_lt _ (by omega)
    simp only [madeCells, iv, Array.toList_map, Array.toList_range, List.getElem_map, List.getElem_range]
    generalize e : i % 6 = r at hm ⊢
    match r, hm with
    | 0, _ => simp [e]
    | 1, _ => simp [e]
    | 2, _ => simp [e]
    | 3, _ => simp [e]
    | 4, _ => simp [e]
    | 5, _ => simp [e]
end Go.Proofs.YtbeefabboabfgaaGreat

/- slices.Compare of two pairs; genus.kinds' comparison; slices.SortFunc of pairs by it. -/
import Derived.Test.YtbeefabboabfgaaGreatCmpW
import Derived.Test.YtbeefabboabfgaaGreatBordEdge
import Derived.BigQuiet
import Derived.Shelf.SlSortCmp.WholeK
namespace Go.Proofs.YtbeefabboabfgaaGreat
set_option linter.unusedVariables false
set_option linter.unusedSimpArgs false
open Go.RowKit Go.Lib Go.Sort
theorem Gr.drewN {W X : World} (h : Gr W X) (n : Nat) : Gr W (X.drewN n) := by
  obtain ⟨q, os, rfl⟩ := h
  exact ⟨q + n, os, by simp [Go.Sort.grow, World.drewN, Nat.add_assoc]⟩
/-- Pairs by the first, then by the second. -/
def cmpP (x y : Int × Int) : Int := if Lib.compareInt x.1 y.1 ≠ 0 then Lib.compareInt x.1 y.1 else Lib.compareInt x.2 y.2
theorem compare_eq (x y : Int) : Lib.compareInt x y = 0 ↔ x = y := by
  unfold Lib.compareInt
  by_cases h1 : x < y
  · simp [h1]; omega
  · by_cases h2 : y < x
    · simp [h1, h2]; omega
    · simp [h1, h2]; omega
set_option maxRecDepth 100000 in
set_option maxHeartbeats 1000000 in
theorem compare_two (p q : Nat) (a0 a1 b0 b1 : Int) (w : World) (x0 : w.cell? ⟨p, 0, none⟩ = some (.int .i64 a0)) (x1 : w.cell? ⟨p, 1, none⟩ = some (.int .i64 a1)) (y0 : w.cell? ⟨q, 0, none⟩ = some (.int .i64 b0)) (y1 : w.cell? ⟨q, 1, none⟩ = some (.int .i64 b1)) :
    Calls Tryz.prog 69 #[.slice (some ⟨p, 0, none⟩) 2 2, .slice (some ⟨q, 0, none⟩) 2 2] w fun e w' => e = .returned (.int .i64 (cmpP (a0, a1) (b0, b1))) ∧ w' = w := by
  obtain ⟨c0, hc0⟩ : ∃ c, c = Lib.compareInt a0 b0 := ⟨_, rfl⟩
  obtain ⟨c1, hc1⟩ : ∃ c, c = Lib.compareInt a1 b1 := ⟨_, rfl⟩
  have HC0 := Lib.hid (show ∀ X, Calls Tryz.prog 47 #[.int .i64 a0, .int .i64 b0] X fun e w' => e = .returned (.int .i64 c0) ∧ w' = X from fun X => by rw [hc0]; exact Tryz.cmp_Compare_int a0 b0 X)
  have HC1 := Lib.hid (show ∀ X, Calls Tryz.prog 47 #[.int .i64 a1, .int .i64 b1] X fun e w' => e = .returned (.int .i64 c1) ∧ w' = X from fun X => by rw [hc1]; exact Tryz.cmp_Compare_int a1 b1 X)
  obtain ⟨r, hr⟩ : ∃ r, r = cmpP (a0, a1) (b0, b1) := ⟨_, rfl⟩
  have HR := Lib.hid (show r = if c0 ≠ 0 then c0 else c1 from by rw [hr]; unfold cmpP; rw [hc0, hc1])
  have HZ := Lib.hid (show c0 = 0 → c1 = 0 → r = 0 from fun h0 h1 => by rw [HR.out, h0, h1]; simp)
  rw [← hr]
  clear hc0 hc1 hr
  go_enter Tryz.func69, Tryz.ntmps69
  go_wp2
  go_loopw [11] (fun i ws => ∃ k : Nat, k ≤ 2 ∧ i = .int .i64 k ∧ ws = w ∧ (1 ≤ k → c0 = 0) ∧ (2 ≤ k → c1 = 0)) (fun i _ => 2 - (intOf i).toNat)
  case atStart => exact ⟨0, by omega, rfl, rfl, by omega, by omega⟩
  case round =>
  obtain ⟨k, hk, rfl, hws, h0, h1⟩ := hrel
  rw [hws]
  clear hws
  have HH0 := Lib.hid h0
  have HH1 := Lib.hid h1
  clear h0 h1
  by_cases hk2 : k < 2
  case neg =>
    have hke : k = 2 := by omega
    have d0 : decide ((k : Int) < 2) = false := by simp; omega
    have HF := Lib.hid (HZ.out (HH0.out (by omega)) (HH1.out (by omega)))
    clear hke
    go_wp2
    exact bodyPost_ret (v := .int .i64 0) (by simp [results, Tryz.results69, go_sem]) rfl ⟨by rw [HF.out], rfl⟩
  case pos =>
  have d0 : decide ((k : Int) < 2) = true := by simp; omega
  have d1 : decide ((k : Int) ≥ 2) = false := by simp; omega
  have d2 : decide ((2 : Int) ≤ (k : Int)) = false := by simp; omega
  obtain ⟨a, b, c, xa, xb, HC, hcz⟩ : ∃ a b c : Int, w.cell? ⟨p, k, none⟩ = some (.int .i64 a) ∧ w.cell? ⟨q, k, none⟩ = some (.int .i64 b) ∧ Hid (∀ X, Calls Tryz.prog 47 #[.int .i64 a, .int .i64 b] X fun e w' => e = .returned (.int .i64 c) ∧ w' = X) ∧ (c ≠ 0 → r = c) ∧ (c = 0 → (1 ≤ k + 1 → c0 = 0) ∧ (2 ≤ k + 1 → c1 = 0)) := by
    by_cases hk0 : k = 0
    · subst hk0
      exact ⟨a0, b0, c0, x0, y0, HC0, fun h => by rw [HR.out, if_pos h], fun h => ⟨fun _ => h, fun h2 => by omega⟩⟩
    · obtain rfl : k = 1 := by omega
      exact ⟨a1, b1, c1, x1, y1, HC1, fun h => by rw [HR.out, if_neg (by rw [HH0.out (by omega)]; simp)], fun h => ⟨fun _ => HH0.out (by omega), fun _ => h⟩⟩
  have HCZ := Lib.hid hcz
  clear hcz x0 x1 y0 y1
  go_wp2_with fail
  refine (HC.out _).mono ?_
  rintro e w2 ⟨rfl, rfl⟩
  by_cases hc : c = 0
  case neg =>
    have d3 : (c != 0) = true := by simpa using hc
    have HF := Lib.hid (HCZ.out.1 hc)
    clear hc
    go_wp2
    exact bodyPost_ret (v := .int .i64 c) (by simp [results, Tryz.results69, go_sem]) rfl ⟨by rw [HF.out], rfl⟩
  case pos =>
  have d3 : (c != 0) = false := by simp [hc]
  have HF := Lib.hid (HCZ.out.2 hc)
  clear hc
  go_wp2
  go_roundw
  case rel => exact ⟨k + 1, by omega, by go_num, by trivial, HF.out.1, HF.out.2⟩
  case measure => simp [intOf]; omega
set_option maxRecDepth 100000 in
set_option maxHeartbeats 1000000 in
theorem kcmp_any (a0 a1 b0 b1 : Int) (w : World) :
    Calls Tryz.prog 68 #[.agg #[.int .i64 a0, .int .i64 a1], .agg #[.int .i64 b0, .int .i64 b1]] w fun e w' => e = .returned (.int .i64 (cmpP (a0, a1) (b0, b1))) ∧ Gr w w' := by
  obtain ⟨W0, hW0⟩ : ∃ W0, W0 = (w.alloc (.cells #[.int .i64 a0, .int .i64 a1] 79)).alloc (.cells #[.int .i64 b0, .int .i64 b1] 79) := ⟨_, rfl⟩
  have hr0 : RowIs W0 w.heap.size 79 [.int .i64 a0, .int .i64 a1] := by rw [hW0]; exact (RowIs.made w 79 [.int .i64 a0, .int .i64 a1]).alloc _
  have hr1 : RowIs W0 (w.heap.size + 1) 79 [.int .i64 b0, .int .i64 b1] := by rw [hW0]; exact RowIs.made' _ _ [.int .i64 b0, .int .i64 b1] _ (by simp)
  have HG0 := Lib.hid (show Gr w W0 from by rw [hW0]; exact ((Gr.refl w).alloc _).alloc _)
  have HC := Lib.hid (show ∀ q, Calls Tryz.prog 69 #[.slice (some ⟨w.heap.size, 0, none⟩) 2 2, .slice (some ⟨w.heap.size + 1, 0, none⟩) 2 2] (W0.drewN q) fun e w' => e = .returned (.int .i64 (cmpP (a0, a1) (b0, b1))) ∧ ∃ r, w' = W0.drewN r from fun q =>
    (compare_two w.heap.size (w.heap.size + 1) a0 a1 b0 b1 (W0.drewN q) ((hr0.drew q).cell (i := 0) rfl) ((hr0.drew q).cell (i := 1) rfl) ((hr1.drew q).cell (i := 0) rfl) ((hr1.drew q).cell (i := 1) rfl)).mono fun e w' ⟨h1, h2⟩ => ⟨h1, q, h2⟩)
  have HW0 := Lib.hid hW0
  generalize cmpP (a0, a1) (b0, b1) = r at HC ⊢
  clear hr0 hr1 hW0
  go_enter Tryz.func68, Tryz.ntmps68
  go_upto_region 1 with fail
  rw [← HW0.out]
  go_quiet ((go_at_call 69; with_reducible exact HC.out _))
  go_wp2
  go_ret
  exact ⟨rfl, HG0.out.drewN _⟩
end Go.Proofs.YtbeefabboabfgaaGreat

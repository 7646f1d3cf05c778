/- The order of witnesses: cmp.Or of two numbers; certify.All's comparison. -/
import Derived.Test.YtkjamheoihlekaaGreatRowl
import Derived.Test.YtkjamheoihlekaaGreatShelf
import Derived.Deep.RegionHeld3
namespace Go.Proofs.YtkjamheoihlekaaGreat
set_option linter.unusedVariables false
set_option linter.unusedSimpArgs false
open Go.RowKit
def orI (x y : Int) : Int := if x = 0 then y else x
set_option maxRecDepth 100000 in
set_option maxHeartbeats 1000000 in
theorem or_two (x y : Int) (b : Nat) (w : World) (h : RowIs w b 3 [.int .i64 x, .int .i64 y]) :
    Calls Tryz.prog 79 #[.slice (some ⟨b, 0, none⟩) 2 2] w fun e w' => e = .returned (.int .i64 (orI x y)) ∧ w' = w := by
  have h0 := h.cell (i := 0) rfl
  have h1 := h.cell (i := 1) rfl
  have HR := Lib.hid (show orI x y = if x = 0 then y else x from rfl)
  obtain ⟨r, hr⟩ : ∃ r, r = orI x y := ⟨_, rfl⟩
  rw [← hr] at HR ⊢
  clear hr h
  go_enter Tryz.func79, Tryz.ntmps79
  go_wp2
  go_loopw [8] (fun i ws => ∃ k : Nat, k ≤ 2 ∧ i = .int .i64 k ∧ (0 < k → x = 0) ∧ (1 < k → y = 0) ∧ ws = w) (fun i _ => 2 - (intOf i).toNat)
  case atStart => exact ⟨0, by omega, rfl, fun h => by omega, fun h => by omega, rfl⟩
  case round =>
    obtain ⟨k, hk, rfl, hx, hy, rfl⟩ := hrel
    obtain ⟨w, rfl⟩ : ∃ w : World, w = wr := ⟨_, rfl⟩
    by_cases k0 : k = 0
    · subst k0
      by_cases e : x = 0
      · have hb : (x == 0) = true := by simpa using e
        have hb2 : (x != 0) = false := by simpa using e
        have HX := Lib.hid e
        clear hx hy e
        go_wp2
        go_roundw
        case rel => exact ⟨0 + 1, by omega, by go_num, fun _ => HX.out, fun h => by omega, by trivial⟩
        case measure => simp [intOf]
      · have hb : (x == 0) = false := by simpa using e
        have hb2 : (x != 0) = true := by simpa using e
        have HF := Lib.hid (show r = x from by rw [HR.out, if_neg e])
        clear hx hy e
        go_wp2
        exact bodyPost_ret (v := .int .i64 x) (by simp [results, Tryz.results79, go_sem]) rfl ⟨by rw [HF.out], rfl⟩
    · by_cases k1 : k = 1
      · subst k1
        have hx0 := hx (by omega)
        by_cases e : y = 0
        · have hb : (y == 0) = true := by simpa using e
          have hb2 : (y != 0) = false := by simpa using e
          have HX := Lib.hid hx0
          have HY := Lib.hid e
          clear hx hy e hx0
          go_wp2
          go_roundw
          case rel => exact ⟨1 + 1, by omega, by go_num, fun _ => HX.out, fun _ => HY.out, by trivial⟩
          case measure => simp [intOf]
        · have hb : (y == 0) = false := by simpa using e
          have hb2 : (y != 0) = true := by simpa using e
          have HF := Lib.hid (show r = y from by rw [HR.out, if_pos hx0])
          clear hx hy e hx0
          go_wp2
          exact bodyPost_ret (v := .int .i64 y) (by simp [results, Tryz.results79, go_sem]) rfl ⟨by rw [HF.out], rfl⟩
      · obtain rfl : k = 2 := by omega
        have HF := Lib.hid (show r = 0 from by rw [HR.out, if_pos (hx (by omega)), hy (by omega)])
        clear hx hy
        go_wp2
        exact bodyPost_ret (v := .int .i64 0) (by simp [results, Tryz.results79, go_sem]) rfl ⟨by rw [HF.out], rfl⟩
/-- The order of witnesses: by B, then by A. -/
def cmpW (s t : Int × Int × Int) : Int := orI (Lib.compareInt s.2.2 t.2.2) (Lib.compareInt s.2.1 t.2.1)
theorem bel_alloc {w X : World} (h : Below w.heap.size w X) (o : Obj) : Below w.heap.size w (X.alloc o) := h.alloc h.size o
theorem bel_drew {w X : World} (h : Below w.heap.size w X) : Below w.heap.size w X.drew := h.drew
/-- Blocks laid, draws made, all else as it was. -/
def Gr (W w' : World) : Prop := ∃ q os, w' = Go.Sort.grow (W.drewN q) os
/-- The same, laid aside. -/
theorem hidB {W X : World} (h : Go.RowKit.Below W.heap.size W X) : Hid (Go.RowKit.Below W.heap.size W X) := h
theorem Gr.refl (W : World) : Gr W W := ⟨0, #[], by simp [Go.Sort.grow, World.drewN]⟩
theorem Gr.alloc {W X : World} (h : Gr W X) (o : Obj) : Gr W (X.alloc o) := by
  obtain ⟨q, os, rfl⟩ := h
  exact ⟨q, os ++ #[o], by rw [Go.Sort.alloc_eq_grow, Go.Sort.grow_grow]⟩
theorem Gr.drew {W X : World} (h : Gr W X) : Gr W X.drew := by
  obtain ⟨q, os, rfl⟩ := h
  exact ⟨q + 1, os, rfl⟩
set_option maxRecDepth 100000 in
set_option maxHeartbeats 1000000 in
theorem cmpw_any (k a b k' a' b' : Int) (w : World) :
    Calls Tryz.prog 129 #[.agg #[.int .i64 k, .int .i64 a, .int .i64 b], .agg #[.int .i64 k', .int .i64 a', .int .i64 b']] w fun e w' => e = .returned (.int .i64 (orI (Lib.compareInt b b') (Lib.compareInt a a'))) ∧ Gr w w' := by
  obtain ⟨c1, hc1⟩ : ∃ c, c = Lib.compareInt b b' := ⟨_, rfl⟩
  obtain ⟨c2, hc2⟩ : ∃ c, c = Lib.compareInt a a' := ⟨_, rfl⟩
  rw [← hc1, ← hc2]
  have HC1 := Lib.hid (show ∀ X, Calls Tryz.prog 80 #[.int .i64 b, .int .i64 b'] X fun e w' => e = .returned (.int .i64 c1) ∧ w' = X from fun X => by rw [hc1]; exact Tryz.cmp_Compare_int b b' X)
  have HC2 := Lib.hid (show ∀ X, Calls Tryz.prog 80 #[.int .i64 a, .int .i64 a'] X fun e w' => e = .returned (.int .i64 c2) ∧ w' = X from fun X => by rw [hc2]; exact Tryz.cmp_Compare_int a a' X)
  clear hc1 hc2
  go_enter Tryz.func129, Tryz.ntmps129
  go_upto_region 1 with fail
  obtain ⟨W0, hW0⟩ : ∃ W0, W0 = (w.alloc (.cells #[.int .i64 k, .int .i64 a, .int .i64 b] 55)).alloc (.cells #[.int .i64 k', .int .i64 a', .int .i64 b'] 55) := ⟨_, rfl⟩
  have hb0 : Below w.heap.size w W0 := by rw [hW0]; exact ((Below.refl _ _).alloc (Nat.le_refl _) _).alloc (by simp) _
  have hr0 : RowIs W0 w.heap.size 55 [.int .i64 k, .int .i64 a, .int .i64 b] := by rw [hW0]; exact (RowIs.made w 55 [.int .i64 k, .int .i64 a, .int .i64 b]).alloc _
  have hr1 : RowIs W0 (w.heap.size + 1) 55 [.int .i64 k', .int .i64 a', .int .i64 b'] := by
    rw [hW0]
    simpa using RowIs.made (w.alloc (.cells #[.int .i64 k, .int .i64 a, .int .i64 b] 55)) 55 [.int .i64 k', .int .i64 a', .int .i64 b']
  have HKS := Lib.hid (show ∀ X, Below W0.heap.size W0 X → X.cell? ⟨w.heap.size, 2, none⟩ = some (.int .i64 b) ∧ X.cell? ⟨w.heap.size + 1, 2, none⟩ = some (.int .i64 b') ∧ X.cell? ⟨w.heap.size, 1, none⟩ = some (.int .i64 a) ∧ X.cell? ⟨w.heap.size + 1, 1, none⟩ = some (.int .i64 a') from fun X hX =>
    ⟨(hr0.below hX hr0.lt).cell rfl, (hr1.below hX hr1.lt).cell rfl, (hr0.below hX hr0.lt).cell rfl, (hr1.below hX hr1.lt).cell rfl⟩)
  have HG0 := Lib.hid (show Gr w W0 from by rw [hW0]; exact ((Gr.refl w).alloc _).alloc _)
  have hgr := HG0.out
  have hbel : Below W0.heap.size W0 W0 := Below.refl _ _
  rw [← hW0]
  clear hW0 hb0 hr0 hr1
  go_region_held3 (fun w' => w'.cell? ⟨w.heap.size, 2, none⟩ = some (.int .i64 b) ∧ w'.cell? ⟨w.heap.size + 1, 2, none⟩ = some (.int .i64 b') ∧ w'.cell? ⟨w.heap.size, 1, none⟩ = some (.int .i64 a) ∧ w'.cell? ⟨w.heap.size + 1, 1, none⟩ = some (.int .i64 a'))
    (exact HKS.out _ (by repeat (first | exact hbel | with_reducible apply bel_alloc | with_reducible apply bel_drew)))
    (first | (go_at_call 80; (with_reducible refine (HC1.out _).mono ?_); rintro e w2 ⟨rfl, rfl⟩) | (go_at_call 80; (with_reducible refine (HC2.out _).mono ?_); rintro e w2 ⟨rfl, rfl⟩) | (go_at_call 79; (with_reducible refine (or_two c1 c2 _ _ (by repeat (first | with_reducible exact RowIs.made _ _ _ | with_reducible apply RowIs.drew1))).mono ?_); rintro e w2 ⟨rfl, rfl⟩))
  all_goals
    go_wp2
    exact bodyPost_ret (v := .int .i64 (orI c1 c2)) (by simp [results, Tryz.results129, go_sem]) rfl ⟨rfl, by repeat (first | exact hgr | with_reducible apply Gr.alloc | with_reducible apply Gr.drew)⟩
end Go.Proofs.YtkjamheoihlekaaGreat

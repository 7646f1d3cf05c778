/- gypsumref15.Has, beside. -/
import Derived.Test.YtknioobpoieohaaIs15Law
import Derived.Test.YtknioobpoieohaaCornerNew
import Derived.Deep.RegionHeld3
namespace Go.Proofs.Ytknioobpoieohaa
set_option linter.unusedVariables false
set_option linter.unusedSimpArgs false
open Go.RowKit
def tcc (t : Tr) : List Value := [.int .i64 t.1, .int .i64 t.2.1, .int .i64 t.2.2]
theorem tcc_get (t : Tr) {j : Nat} (hj : j < 3) : (tcc t)[j]? = some (.int .i64 (tg t j)) := by
  match j, hj with
  | 0, _ => rfl
  | 1, _ => rfl
  | 2, _ => rfl
set_option maxHeartbeats 400000 in
theorem has15 (x y z v : Int) (w : World) :
    Calls Try.prog 25 #[.agg #[.int .i64 x, .int .i64 y, .int .i64 z], .int .i64 v] w fun e w' => e = .returned (.bool (hasB (x, y, z) v)) ∧ Below w.heap.size w w' := by
  obtain ⟨r, hr⟩ : ∃ r, r = hasB (x, y, z) v := ⟨_, rfl⟩
  rw [← hr]
  unfold hasB at hr
  simp only at hr
  cases h1 : x == v <;> cases h2 : y == v <;> cases h3 : z == v <;> simp only [h1, h2, h3, Bool.or_false, Bool.or_true] at hr <;> subst hr
  all_goals
    go_enter Try.func25, Try.ntmps25
    go_wp2
    go_ret
    exact ⟨rfl, (Below.refl _ _).alloc (Nat.le_refl _) _⟩
set_option maxRecDepth 100000 in
set_option maxHeartbeats 1000000 in
theorem bes15 (t u : Tr) (w : World) :
    Calls Try.prog 38 #[.agg #[.int .i64 t.1, .int .i64 t.2.1, .int .i64 t.2.2], .agg #[.int .i64 u.1, .int .i64 u.2.1, .int .i64 u.2.2]] w fun e w' => e = .returned (.bool (besB t u)) ∧ Below w.heap.size w w' := by
  obtain ⟨r, hr⟩ : ∃ r, r = besB t u := ⟨_, rfl⟩
  rw [← hr]
  have HR := Lib.hid hr
  have H1 := Lib.hid ((RowIs.made w 42 (tcc t)).alloc (.cells #[.int .i64 u.1, .int .i64 u.2.1, .int .i64 u.2.2] 42))
  have H2 := Lib.hid (show RowIs ((w.alloc (.cells #[.int .i64 t.1, .int .i64 t.2.1, .int .i64 t.2.2] 42)).alloc (.cells #[.int .i64 u.1, .int .i64 u.2.1, .int .i64 u.2.2] 42)) (w.heap.size + 1) 42 (tcc u) from RowIs.made' _ _ (tcc u) _ (by simp))
  have HC := Lib.hid (fun (v : Int) (W : World) => has15 u.1 u.2.1 u.2.2 v W)
  clear hr
  go_enter Try.func38, Try.ntmps38
  go_wp2
  go_loopw [6, 5] (fun v n ws => ∃ i : Nat, i ≤ 3 ∧ v = .int .i64 i ∧ n = .int .i64 (cntH t u i : Nat) ∧ RowIs ws w.heap.size 42 (tcc t) ∧ RowIs ws (w.heap.size + 1) 42 (tcc u) ∧ Below w.heap.size w ws) (fun v _ _ => 3 - (intOf v).toNat)
  case atStart => exact ⟨0, by omega, rfl, rfl, H1.out, H2.out, ((Below.refl _ _).alloc (Nat.le_refl _) _).alloc (by simp) _⟩
  case round =>
    clear H1 H2
    obtain ⟨i, hi, rfl, rfl, h1, h2, hb⟩ := hrel
    obtain ⟨W1, rfl⟩ : ∃ W1 : World, W1 = wr := ⟨_, rfl⟩
    have hle := cntH_le t u i
    by_cases hi3 : i < 3
    · have HK := Lib.hid (show ∀ w', Hid (Below W1.heap.size W1 w') → w'.cell? ⟨w.heap.size, i, none⟩ = some (.int .i64 (tg t i)) ∧ w'.cell? ⟨w.heap.size + 1, 0, none⟩ = some (.int .i64 u.1) ∧ w'.cell? ⟨w.heap.size + 1, 1, none⟩ = some (.int .i64 u.2.1) ∧ w'.cell? ⟨w.heap.size + 1, 2, none⟩ = some (.int .i64 u.2.2) from fun w' hb' =>
        ⟨(h1.below hb'.out h1.lt).cell (tcc_get t hi3), (h2.below hb'.out h2.lt).cell rfl, (h2.below hb'.out h2.lt).cell rfl, (h2.below hb'.out h2.lt).cell rfl⟩)
      have HF := Lib.hid (show ∀ w', Below W1.heap.size W1 w' → RowIs w' w.heap.size 42 (tcc t) ∧ RowIs w' (w.heap.size + 1) 42 (tcc u) ∧ Below w.heap.size w w' from fun w' hb' => ⟨h1.below hb' h1.lt, h2.below hb' h2.lt, below_more hb hb' hb.size⟩)
      have HD := Lib.hid (show Below W1.heap.size W1 W1.drew from ⟨rfl, rfl, rfl, Nat.le_refl _, fun _ _ => rfl⟩)
      have hcs : cntH t u (i + 1) = cntH t u i + if hasB u (tg t i) then 1 else 0 := rfl
      obtain ⟨x, hx⟩ : ∃ x, Hid (tg t i = x) := ⟨_, rfl⟩
      obtain ⟨a, b, c⟩ := u
      obtain ⟨m, hm⟩ : ∃ m, m = cntH t (a, b, c) i := ⟨_, rfl⟩
      obtain ⟨m', hm'⟩ : ∃ m, m = cntH t (a, b, c) (i + 1) := ⟨_, rfl⟩
      rw [← hm, ← hm', hx.out] at hcs
      rw [← hm] at hle
      rw [hx.out] at HK
      rw [← hm]
      have HM := Lib.hid hm'
      simp only at HK HC HF
      cases hh : hasB (a, b, c) x
      · have HCC := Lib.hid (show ∀ w', Hid (Below W1.heap.size W1 w') → Calls Try.prog 25 #[.agg #[.int .i64 a, .int .i64 b, .int .i64 c], .int .i64 x] w' fun e w'' => e = .returned (.bool false) ∧ Hid (Below W1.heap.size W1 w'') from fun w' hb' => by
          have := HC.out x w'
          rw [hh] at this
          exact this.mono fun e w'' ⟨q1, q2⟩ => ⟨q1, below_more hb'.out q2 hb'.out.size⟩)
        rw [hh] at hcs
        have e2 : m' = m := by simpa using hcs
        subst e2
        clear hh hcs h1 h2 hb HC hm hm'
        go_upto_region 5 with fail
        go_region_held3 (fun w' => w'.cell? ⟨w.heap.size, i, none⟩ = some (.int .i64 x) ∧ w'.cell? ⟨w.heap.size + 1, 0, none⟩ = some (.int .i64 a) ∧ w'.cell? ⟨w.heap.size + 1, 1, none⟩ = some (.int .i64 b) ∧ w'.cell? ⟨w.heap.size + 1, 2, none⟩ = some (.int .i64 c)) (exact HK.out _ (by assumption))
          (first | (go_at_call 25; (with_reducible refine (HCC.out _ (by assumption)).mono ?_); rintro e wA ⟨rfl, hhA⟩))
        all_goals
          go_wp2
          go_roundw
          case rel => exact ⟨i + 1, by omega, by go_num, by rw [← HM.out], HF.out _ hhA.out⟩
          case measure => simp [intOf]; omega
      · have HCC := Lib.hid (show ∀ w', Hid (Below W1.heap.size W1 w') → Calls Try.prog 25 #[.agg #[.int .i64 a, .int .i64 b, .int .i64 c], .int .i64 x] w' fun e w'' => e = .returned (.bool true) ∧ Hid (Below W1.heap.size W1 w'') from fun w' hb' => by
          have := HC.out x w'
          rw [hh] at this
          exact this.mono fun e w'' ⟨q1, q2⟩ => ⟨q1, below_more hb'.out q2 hb'.out.size⟩)
        rw [hh] at hcs
        have e2 : m' = m + 1 := by simpa using hcs
        have E2 := Lib.hid e2
        clear hh hcs h1 h2 hb HC hm hm' e2
        go_upto_region 5 with fail
        go_region_held3 (fun w' => w'.cell? ⟨w.heap.size, i, none⟩ = some (.int .i64 x) ∧ w'.cell? ⟨w.heap.size + 1, 0, none⟩ = some (.int .i64 a) ∧ w'.cell? ⟨w.heap.size + 1, 1, none⟩ = some (.int .i64 b) ∧ w'.cell? ⟨w.heap.size + 1, 2, none⟩ = some (.int .i64 c)) (exact HK.out _ (by assumption))
          (first | (go_at_call 25; (with_reducible refine (HCC.out _ (by assumption)).mono ?_); rintro e wA ⟨rfl, hhA⟩))
        all_goals
          go_wp2
          go_roundw
          case rel => exact ⟨i + 1, by omega, by go_num, by rw [← HM.out, E2.out]; go_num, HF.out _ hhA.out⟩
          case measure => simp [intOf]; omega
    · obtain rfl : i = 3 := by omega
      have HF := Lib.hid (show r = decide (2 ≤ cntH t u 3) from HR.out)
      obtain ⟨m, hm⟩ : ∃ m, m = cntH t u 3 := ⟨_, rfl⟩
      rw [← hm] at hle HF ⊢
      have HB := Lib.hid hb
      clear h1 h2 hb hm
      by_cases h2 : 2 ≤ m
      · have hd : decide (((m : Nat) : Int) ≥ 2) = true := by simp; omega
        have hd2 : decide (m ≥ 2) = true := by simp; omega
        have HG := Lib.hid (show r = true from by rw [HF.out]; simp [h2])
        go_wp2
        exact bodyPost_ret (v := .bool true) (by simp [results, Try.results38, go_sem]) rfl ⟨by rw [HG.out], HB.out⟩
      · have hd : decide (((m : Nat) : Int) ≥ 2) = false := by simp; omega
        have hd2 : decide (m ≥ 2) = false := by simp; omega
        have HG := Lib.hid (show r = false from by rw [HF.out]; simp [h2])
        go_wp2
        exact bodyPost_ret (v := .bool false) (by simp [results, Try.results38, go_sem]) rfl ⟨by rw [HG.out], HB.out⟩
end Go.Proofs.Ytknioobpoieohaa

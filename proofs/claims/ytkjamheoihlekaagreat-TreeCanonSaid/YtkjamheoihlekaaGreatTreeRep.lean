/- slices.Repeat of a row of one number. -/
import Derived.Test.YtkjamheoihlekaaGreatQueue
import Derived.Test.YtkjamheoihlekaaGreatShelf
import Derived.Laws.CopyOwn
import Derived.Deep.RegionHeldLaw
import Derived.Deep.RegionHeld3
import Derived.BigQuiet
namespace Go.Proofs.YtkjamheoihlekaaGreat
set_option linter.unusedVariables false
set_option linter.unusedSimpArgs false
open Go.RowKit
theorem rep_splice (x : Int) (n m c : Nat) (hc : c ≤ n - m) : splice (iv (fun j => if j < m then x else 0) n) m (iv (fun _ => x) c) = iv (fun j => if j < m + c then x else 0) n := by
  have hl : (iv (fun _ => x) c).length = c := iv_length _ _
  unfold splice
  rw [hl]
  apply List.ext_getElem?
  intro i
  by_cases hi : i < n
  · rw [iv_get _ hi]
    by_cases h1 : i < m
    · rw [List.getElem?_append_left (by simp [iv_length]; omega), List.getElem?_take, if_pos h1, iv_get _ hi]
      simp [h1, show i < m + c by omega]
    · rw [List.getElem?_append_right (by simp [iv_length]; omega)]
      simp only [List.length_take, iv_length]
      by_cases h2 : i < m + c
      · rw [List.getElem?_append_left (by rw [hl]; omega), iv_get _ (by omega)]
        simp [h2]
      · rw [List.getElem?_append_right (by rw [hl]; omega), hl, List.getElem?_drop, show m + c + (i - min m n - c) = i by omega, iv_get _ hi]
        simp [h1, h2]
  · rw [List.getElem?_eq_none (by simp [iv_length]; omega), List.getElem?_eq_none (by rw [iv_length]; omega)]
theorem infoInt1 : (Tryz.prog.info? 3).map (·.size) = some 1 := by kernel_rfl
set_option maxRecDepth 100000 in
set_option maxHeartbeats 4000000 in
theorem repeat_ok (x : Int) (n : Nat) (h0 : 1 ≤ n) (hn : n ≤ 100000) (s : Nat) (w : World) (hs : RowIs w s 3 [.int .i64 x]) :
    Calls Tryz.prog 82 #[.slice (some ⟨s, 0, none⟩) 1 1, .int .i64 n] w fun e w' => ∃ g, e = .returned (.slice (some ⟨g, 0, none⟩) n n) ∧ w.heap.size ≤ g ∧ RowIs w' g 3 (iv (fun _ => x) n) ∧ Below w.heap.size w w' := by
  obtain ⟨i0, hi, hz0, hz1, hz2⟩ := info_parts info3
  have HM := Lib.hid (show Calls Tryz.prog 106 #[.int .u64 1, .int .u64 (n : Int)] w fun e w' => e = .returned (.tuple #[.int .u64 0, .int .u64 (n : Int)]) ∧ w' = w from by
    have := Tryz.bits_Mul 1 n (by omega) (by omega) w
    rw [show 1 * n / 18446744073709551616 = 0 by omega, show 1 * n % 18446744073709551616 = n by omega] at this
    exact this)
  have HS := Lib.hid hs
  have hn0 : decide ((n : Int) < 0) = false := by simp
  have wu : IntKind.u64.wrap (n : Int) = (n : Int) := by unfold IntKind.wrap; simp [IntKind.signed, IntKind.bits]; omega
  have wi : IntKind.i64.wrap (n : Int) = (n : Int) := IntWalk.i64_in _ (by omega)
  have hg1 : decide ((n : Int) > 9223372036854775807) = false := by simp; omega
  clear hs
  go_enter Tryz.func82, Tryz.ntmps82
  go_wp2_with fail
  refine HM.out.mono ?_
  rintro e w1 ⟨rfl, rfl⟩
  go_wp2_with (at_make; refine wpList_make_full _ rfl _ _ _ rfl w1.heap.size 3 i0 (.int .i64 0) 1 (by kernel_rfl) hi hz0 hz1 _ _ _ _ n rfl rfl rfl rfl (by rw [hz2]; omega) (by unfold maxLen; omega) (Nat.le_refl _) ?_)
  intro w2 hown hgrow
  rw [madeCells_iv] at hown
  have hrow := RowIs.of_owns hown
  have hb2 : Below w1.heap.size w1 w2 := (Below.refl _ _).grown hgrow (Nat.le_refl _) (by simp)
  have hsc := (HS.out.after hb2).cell (i := 0) rfl
  obtain ⟨g, hgg⟩ : ∃ g, g = w1.heap.size := ⟨_, rfl⟩
  have HG := Lib.hid hgg
  rw [← hgg] at hrow
  have HC0 := Lib.hid (show ∀ j v, (iv (fun _ => x) 1)[j]? = some v → w2.cell? ((⟨s, 0, none⟩ : Addr).add j) = some v from fun j v hv => by
    cases j with
    | zero => simp [iv] at hv; subst hv; exact hsc
    | succ j => simp [iv] at hv)
  have HB2 := Lib.hid hb2
  have HRW := Lib.hid (show RowIs w2 g 3 (iv (fun _ => 0) n) from hrow)
  have HL1 := Lib.hid (show (iv (fun _ => x) 1).length = Nat.min 1 n from by rw [iv_length]; exact (Nat.min_eq_left h0).symm)
  have HF1 := Lib.hid (show 0 + (iv (fun _ => x) 1).length ≤ (iv (fun _ => 0) n).length from by rw [iv_length, iv_length]; omega)
  have HO1 := Lib.hid (show ∀ c : Nat, ∀ v ∈ iv (fun _ => x) c, v.oneCell' = true from fun c v hv => by
    unfold iv at hv
    obtain ⟨j, -, rfl⟩ := List.mem_map.1 hv
    rfl)
  rw [← hgg]
  clear hown hgrow hrow hb2 hsc hgg
  go_wp2_with (refine wpList_copy_splice rfl (.tmp 31) (.tmp 32) 28 28 rfl 3 (by kernel_rfl) infoInt1 (some ⟨g, 0, none⟩) (some ⟨s, 0, none⟩) n n 1 1 rfl rfl g 0 (iv (fun _ => 0) n) 3 HRW.out (iv (fun _ => x) 1) HL1.out (fun _ => ⟨rfl, _, rfl, HC0.out⟩) HF1.out (HO1.out 1) w1.heap.size w1 HB2.out (Nat.le_of_eq HG.out.symm) ?_)
  intro w3 hg3 hb3
  have HR3 := Lib.hid (show RowIs w3 g 3 (iv (fun j => if j < 1 then x else 0) n) from by
    have e := rep_splice x n 0 1 (by omega)
    rw [iv_congr (h := fun _ => 0) (fun i _ => by simp), Nat.zero_add] at e
    rw [← e]
    exact hg3.out)
  have HB3 := Lib.hid hb3
  clear hg3 hb3 HRW HC0 HB2 HS
  simp only [iv_length]
  go_wp2
  go_loopw [8] (fun v ws => ∃ m : Nat, 1 ≤ m ∧ m ≤ n ∧ v = .int .i64 m ∧ RowIs ws g 3 (iv (fun j => if j < m then x else 0) n) ∧ Below w1.heap.size w1 ws) (fun v _ => n - (intOf v).toNat)
  case atStart => exact ⟨1, Nat.le_refl _, h0, rfl, HR3.out, HB3.out⟩
  case round =>
  clear HR3 HB3
  obtain ⟨m, hm0, hmn, rfl, hr, hb⟩ := hrel
  obtain ⟨X, rfl⟩ : ∃ X : World, X = wr := ⟨_, rfl⟩
  by_cases hlt : m < n
  case neg =>
    obtain rfl : m = n := by omega
    have HF := Lib.hid (show RowIs X g 3 (iv (fun _ => x) m) from by
      rw [iv_congr (h := fun _ => x) (fun i hi => by simp [hi])] at hr
      exact hr)
    have HBF := Lib.hid hb
    clear hr hb
    go_wp2
    exact bodyPost_ret (v := .slice (some ⟨g, 0, none⟩) m m) (by simp [results, Tryz.results82, go_sem]) rfl ⟨g, rfl, Nat.le_of_eq HG.out.symm, HF.out, HBF.out⟩
  case pos =>
  obtain ⟨c, hc⟩ : ∃ c, c = Nat.min m (n - m) := ⟨_, rfl⟩
  have hc1 : 1 ≤ c := by rw [hc]; exact Nat.le_min.2 ⟨hm0, by omega⟩
  have hc2 : c ≤ n - m := by rw [hc]; exact Nat.min_le_right _ _
  have hc3 : c ≤ m := by rw [hc]; exact Nat.min_le_left _ _
  have HL := Lib.hid (show (iv (fun _ => x) c).length = Nat.min m (n - m) from by rw [iv_length]; exact hc)
  have HFT := Lib.hid (show m + (iv (fun _ => x) c).length ≤ (iv (fun j => if j < m then x else 0) n).length from by rw [iv_length, iv_length]; omega)
  have HSR := Lib.hid (show ∀ j v, (iv (fun _ => x) c)[j]? = some v → X.cell? ((⟨g, 0, none⟩ : Addr).add j) = some v from fun j v hv => by
    have hj : j < c := by
      have := (List.getElem?_eq_some_iff.1 hv).1
      rwa [iv_length] at this
    rw [iv_get _ hj] at hv
    have := hr.cell (i := j) (iv_get _ (show j < n by omega))
    simp only [show j < m by omega, if_true] at this
    have e : (⟨g, 0, none⟩ : Addr).add j = ⟨g, j, none⟩ := by
      simp [Addr.add]
      try omega
    rw [e, this]
    exact hv)
  have HRX := Lib.hid hr
  have HBX := Lib.hid hb
  have hnm : ¬ n = m := by omega
  have hmc : IntKind.i64.wrap ((m : Int) + (c : Int)) = ((m + c : Nat) : Int) := by rw [IntWalk.i64_in _ (by omega)]; omega
  have hmc2 : IntKind.i64.wrap ((m : Int) + ((Nat.min m (n - m) : Nat) : Int)) = ((m + c : Nat) : Int) := by rw [← hc]; exact hmc
  have hsub : ((n : Int) - (m : Int)).toNat = n - m := by omega
  clear hr hb
  have HRD := Lib.hid (show X.drew.heap[g]? = some (.cells (iv (fun j => if j < m then x else 0) n).toArray 3 (0, 0)) from HRX.out)
  have HBD := Lib.hid (show Below w1.heap.size w1 X.drew from HBX.out.drew)
  have HGE := Lib.hid (Nat.le_of_eq HG.out.symm)
  go_upto_region 9 with fail
  refine wp_region_held_drew (S := (fun _ => True)) (by kernel_rfl) ?_ (fun hHeld0 => ?_)
  · ((try dsimp only); try trivial)
  refine wpAnyH_take (i := 0) (v := ?_) rfl (by kernel_rfl) (by kernel_rfl) (by kernel_rfl) (fun _ _ _ h => h) (Or.inl ⟨by rfl, ?_⟩) (by assumption) ?_
  rotate_left
  · (intro w hSw; (try dsimp only at hSw); go_simp; try with_reducible rfl)
  try simp only [List.getElem_toArray, List.getElem_cons_succ, List.getElem_cons_zero, Act.put, List.setIfInBounds_toArray, List.set_cons_zero, List.set_cons_succ]
  refine wpAnyH_take (i := 1) (v := ?_) rfl (by kernel_rfl) (by kernel_rfl) (by kernel_rfl) (fun _ _ _ h => h) (Or.inl ⟨by rfl, ?_⟩) (by assumption) ?_
  rotate_left
  · (intro w hSw; (try dsimp only at hSw); go_simp; try with_reducible rfl)
  try simp only [List.getElem_toArray, List.getElem_cons_succ, List.getElem_cons_zero, Act.put, List.setIfInBounds_toArray, List.set_cons_zero, List.set_cons_succ]
  refine wpAnyH_take (i := 2) (v := ?_) rfl (by kernel_rfl) (by kernel_rfl) (by kernel_rfl) (fun _ _ _ h => h) (Or.inl ⟨by rfl, ?_⟩) (by assumption) ?_
  rotate_left
  · (intro w hSw; (try dsimp only at hSw); go_simp; try with_reducible rfl)
  try simp only [List.getElem_toArray, List.getElem_cons_succ, List.getElem_cons_zero, Act.put, List.setIfInBounds_toArray, List.set_cons_zero, List.set_cons_succ]
  refine wpAnyH_take (i := 3) (v := ?_) rfl (by kernel_rfl) (by kernel_rfl) (by kernel_rfl) (fun _ _ _ h => h) (Or.inl ⟨by rfl, ?_⟩) (by assumption) ?_
  rotate_left
  · (intro w hSw; (try dsimp only at hSw); go_simp; try with_reducible rfl)
  try simp only [List.getElem_toArray, List.getElem_cons_succ, List.getElem_cons_zero, Act.put, List.setIfInBounds_toArray, List.set_cons_zero, List.set_cons_succ]
  refine wpAnyH_take (i := 4) (v := ?_) rfl (by kernel_rfl) (by kernel_rfl) (by kernel_rfl) (fun _ _ _ h => h) (Or.inl ⟨by rfl, ?_⟩) (by assumption) ?_
  rotate_left
  · (intro w hSw; (try dsimp only at hSw); go_simp; try with_reducible rfl)
  try simp only [List.getElem_toArray, List.getElem_cons_succ, List.getElem_cons_zero, Act.put, List.setIfInBounds_toArray, List.set_cons_zero, List.set_cons_succ]
  refine wpAnyH_take (i := 5) (v := ?_) rfl (by kernel_rfl) (by kernel_rfl) (by kernel_rfl) (fun _ _ _ h => h) (Or.inl ⟨by rfl, ?_⟩) (by assumption) ?_
  rotate_left
  · (intro w hSw; (try dsimp only at hSw); go_simp; try with_reducible rfl)
  try simp only [List.getElem_toArray, List.getElem_cons_succ, List.getElem_cons_zero, Act.put, List.setIfInBounds_toArray, List.set_cons_zero, List.set_cons_succ]
  refine wpAnyH_take (i := 6) (v := ?_) rfl (by kernel_rfl) (by kernel_rfl) (by kernel_rfl) (fun _ _ _ h => h) (Or.inl ⟨by rfl, ?_⟩) (by assumption) ?_
  rotate_left
  · (intro w hSw; (try dsimp only at hSw); go_simp; try with_reducible rfl)
  try simp only [List.getElem_toArray, List.getElem_cons_succ, List.getElem_cons_zero, Act.put, List.setIfInBounds_toArray, List.set_cons_zero, List.set_cons_succ]
  refine wpAnyH_ready (rs := [7]) (by kernel_rfl) (by simp) ?_
  refine AllReadyH.cons rfl (fun K hK => ?_) AllReadyH.nil
  refine step_copy_splice rfl (.tmp 41) (.tmp 44) 28 28 rfl 3 (by kernel_rfl) infoInt1 (some ⟨g, m, none⟩) (some ⟨g, 0, none⟩) (n - m) (n - m) m n rfl rfl g m (iv (fun j => if j < m then x else 0) n) 3 HRD.out (iv (fun _ => x) c) HL.out (fun _ => ⟨rfl, _, rfl, HSR.out⟩) HFT.out (HO1.out c) w1.heap.size w1 HBD.out HGE.out ?_
  intro w4 hg4 hb4
  refine hK.out _ _ ?_ (fun hHeld1 => ?_)
  · ((try dsimp only); try trivial)
  clear hK K hHeld0
  refine wpAnyH_take (i := 8) (v := ?_) rfl (by kernel_rfl) (by kernel_rfl) (by kernel_rfl) (fun _ _ _ h => h) (Or.inl ⟨by rfl, ?_⟩) (by assumption) ?_
  rotate_left
  · (intro w hSw; (try dsimp only at hSw); go_simp; try with_reducible rfl)
  try simp only [List.getElem_toArray, List.getElem_cons_succ, List.getElem_cons_zero, Act.put, List.setIfInBounds_toArray, List.set_cons_zero, List.set_cons_succ]
  refine wpAnyH_take (i := 9) (v := ?_) rfl (by kernel_rfl) (by kernel_rfl) (by kernel_rfl) (fun _ _ _ h => h) (Or.inl ⟨by rfl, ?_⟩) (by assumption) ?_
  rotate_left
  · (intro w hSw; (try dsimp only at hSw); go_simp; try with_reducible rfl)
  try simp only [List.getElem_toArray, List.getElem_cons_succ, List.getElem_cons_zero, Act.put, List.setIfInBounds_toArray, List.set_cons_zero, List.set_cons_succ]
  refine wpAnyH_done (by kernel_rfl) ?_ _
  clear hHeld1
  simp only [iv_length]
  have HR4 := Lib.hid (show RowIs w4 g 3 (iv (fun j => if j < m + c then x else 0) n) from by
    rw [← rep_splice x n m c hc2]
    exact hg4.out)
  have HB4 := Lib.hid hb4
  clear hg4 hb4
  go_wp2
  go_roundw
  case rel => exact ⟨m + c, by omega, by omega, by go_num, HR4.out, HB4.out⟩
  case measure => simp [intOf]; omega
end Go.Proofs.YtkjamheoihlekaaGreat

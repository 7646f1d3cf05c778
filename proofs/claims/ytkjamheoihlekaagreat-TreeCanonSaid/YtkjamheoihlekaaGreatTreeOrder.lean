/- slices.Compare of rows of numbers; tree.order; tree.plain. -/
import Derived.Test.YtkjamheoihlekaaGreatPathLaw
import Derived.Test.YtkjamheoihlekaaGreatSortELay
import Derived.Test.YtkjamheoihlekaaGreatRowl
import Derived.Deep.RegionHeld3
import Derived.Deep.RegionHeldLaw
import Derived.BigQuiet
namespace Go.Proofs.YtkjamheoihlekaaGreat
set_option linter.unusedVariables false
set_option linter.unusedSimpArgs false
open Go.RowKit
theorem cmpR_step {A B : List Int} {i : Nat} (ha : i < A.length) (hb : i < B.length) : cmpR (A.drop i) (B.drop i) = if I! A i < I! B i then -1 else if I! B i < I! A i then 1 else cmpR (A.drop (i + 1)) (B.drop (i + 1)) := by
  rw [List.drop_eq_getElem_cons ha, List.drop_eq_getElem_cons hb]
  have e1 : I! A i = A[i] := by simp [I!, ha]
  have e2 : I! B i = B[i] := by simp [I!, hb]
  rw [e1, e2]
  rfl
theorem cmpR_over {A B : List Int} {i : Nat} (ha : i < A.length) (hb : B.length ≤ i) : cmpR (A.drop i) (B.drop i) = 1 := by
  rw [List.drop_eq_getElem_cons ha, List.drop_eq_nil_of_le hb]
  rfl
theorem cmpR_end {A B : List Int} {i : Nat} (ha : A.length = i) (hb : i ≤ B.length) : cmpR (A.drop i) (B.drop i) = if A.length < B.length then -1 else 0 := by
  rw [List.drop_eq_nil_of_le (by omega : A.length ≤ i)]
  by_cases h : i < B.length
  · rw [List.drop_eq_getElem_cons h, if_pos (by omega)]
    rfl
  · rw [List.drop_eq_nil_of_le (by omega : B.length ≤ i), if_neg (by omega)]
    rfl
theorem cmpR_pair (a0 a1 b0 b1 : Int) : cmpR [a0, a1] [b0, b1] = cmpP (a0, a1) (b0, b1) := by
  unfold cmpP Lib.compareInt
  simp only [cmpR]
  by_cases h1 : a0 < b0
  · simp [h1]
  · by_cases h2 : b0 < a0
    · simp [h1, h2]
    · simp [h1, h2]
set_option maxRecDepth 100000 in
set_option maxHeartbeats 2000000 in
theorem compare_rows (A B : List Int) (ao bo : Option Addr) (ac bc : Nat) (w : World) (hA : IntsAt w ao A) (hB : IntsAt w bo B) (la : A.length ≤ 1000000) (lb : B.length ≤ 1000000) :
    Calls Tryz.prog 58 #[.slice ao A.length ac, .slice bo B.length bc] w fun e w' => e = .returned (.int .i64 (cmpR A B)) ∧ w = w' := by
  obtain ⟨an, han⟩ : ∃ n, n = A.length := ⟨_, rfl⟩
  obtain ⟨bn, hbn⟩ : ∃ n, n = B.length := ⟨_, rfl⟩
  have HA := Lib.hid hA
  have HB := Lib.hid hB
  have HAN := Lib.hid han
  have HBN := Lib.hid hbn
  rw [← han, ← hbn]
  rw [← han] at la
  rw [← hbn] at lb
  have HCC := Lib.hid (fun (x y : Int) => Tryz.cmp_Compare_int x y w)
  clear hA hB han hbn
  go_enter Tryz.func58, Tryz.ntmps58
  go_wp2
  go_loopw [11] (fun v ws => ∃ i : Nat, i ≤ an ∧ i ≤ bn ∧ v = .int .i64 i ∧ Hid (w = ws) ∧ Hid (cmpR A B = cmpR (A.drop i) (B.drop i))) (fun v _ => an - (intOf v).toNat)
  case atStart => exact ⟨0, by omega, by omega, rfl, Lib.hid rfl, Lib.hid (by simp)⟩
  case round =>
  obtain ⟨i, hia, hib, rfl, HW, HC⟩ := hrel
  obtain rfl : w = wr := HW.out
  by_cases hlt : i < an
  case neg =>
    obtain rfl : i = an := by omega
    have he := cmpR_end (A := A) (B := B) (i := i) HAN.out.symm (by rw [← HBN.out]; exact hib)
    rw [← HC.out, ← HAN.out, ← HBN.out] at he
    by_cases h2 : i < bn
    · have g1 : decide ((i : Int) < (bn : Int)) = true := by simp; omega
      rw [if_pos h2] at he
      have HE := Lib.hid he
      clear he
      go_wp2
      go_ret
      exact ⟨by rw [HE.out]; rfl, rfl⟩
    · have g1 : decide ((i : Int) < (bn : Int)) = false := by simp; omega
      rw [if_neg h2] at he
      have HE := Lib.hid he
      clear he
      go_wp2
      go_ret
      exact ⟨by rw [HE.out]; rfl, rfl⟩
  case pos =>
  obtain ⟨ab, aoff, rfl, hab, hac⟩ := HA.out (by intro e; rw [e] at HAN; have := HAN.out; simp at this; omega)
  have ca := hac i (by rw [← HAN.out]; exact hlt)
  have bi : (0 : Int) ≤ (i : Int) ∧ (i : Int) < (an : Int) := by omega
  by_cases hb : i < bn
  case neg =>
    have g1 : decide ((i : Int) ≥ (bn : Int)) = true := by simp; omega
    have HE := Lib.hid (cmpR_over (A := A) (B := B) (i := i) (by rw [← HAN.out]; exact hlt) (by rw [← HBN.out]; omega))
    generalize I! A i = x at ca
    clear hac
    go_wp2
    go_ret
    exact ⟨by rw [HC.out, HE.out]; rfl, rfl⟩
  case pos =>
  obtain ⟨bb, boff, rfl, hbb, hbc⟩ := HB.out (by intro e; rw [e] at HBN; have := HBN.out; simp at this; omega)
  have cb := hbc i (by rw [← HBN.out]; exact hb)
  have g1 : decide ((i : Int) ≥ (bn : Int)) = false := by simp; omega
  have bj : (0 : Int) ≤ (i : Int) ∧ (i : Int) < (bn : Int) := by omega
  have hst := cmpR_step (A := A) (B := B) (i := i) (by rw [← HAN.out]; exact hlt) (by rw [← HBN.out]; exact hb)
  obtain ⟨x, hx⟩ : ∃ x, x = I! A i := ⟨_, rfl⟩
  obtain ⟨y, hy⟩ : ∃ y, y = I! B i := ⟨_, rfl⟩
  rw [← hx] at ca hst
  rw [← hy] at cb hst
  have HST := Lib.hid hst
  have HCM := Lib.hid (HCC.out x y)
  obtain ⟨cm, hcm⟩ : ∃ c, c = Lib.compareInt x y := ⟨_, rfl⟩
  rw [← hcm] at HCM
  have HCE := Lib.hid hcm
  clear hac hbc hst hx hy hcm
  by_cases h0 : cm = 0
  case pos =>
    have hxy : x = y := (compare_eq x y).1 (by rw [← HCE.out]; exact h0)
    have g2 : (cm != 0) = false := by simp [h0]
    have HN := Lib.hid (show cmpR A B = cmpR (A.drop (i + 1)) (B.drop (i + 1)) from by
      rw [HC.out, HST.out, if_neg (by omega), if_neg (by omega)])
    subst h0
    clear hxy
    go_wp2_with fail
    refine HCM.out.mono ?_
    rintro e w' ⟨rfl, hw'⟩
    subst hw'
    go_wp2
    go_roundw
    case rel => exact ⟨i + 1, by omega, by omega, by go_num, (by first | exact Lib.hid rfl | trivial), HN⟩
    case measure => simp [intOf]; omega
  case neg =>
    have g2 : (cm != 0) = true := by simpa using h0
    have HE := Lib.hid (show cmpR A B = cm from by
      rw [HC.out, HST.out, HCE.out]
      have h0' := h0
      rw [HCE.out] at h0'
      unfold Lib.compareInt at h0' ⊢
      by_cases p : x < y
      · simp [p]
      · by_cases q : y < x
        · simp [p, q]
        · simp [p, q] at h0')
    go_wp2_with fail
    refine HCM.out.mono ?_
    rintro e w' ⟨rfl, hw'⟩
    subst hw'
    go_wp2
    go_ret
    exact ⟨by rw [HE.out]; rfl, rfl⟩
set_option maxRecDepth 100000 in
set_option maxHeartbeats 2000000 in
theorem order_cmp : CmpE 47 := by
  intro a0 a1 b0 b1 w
  rw [← cmpR_pair]
  obtain ⟨c, hc⟩ : ∃ c, c = cmpR [a0, a1] [b0, b1] := ⟨_, rfl⟩
  rw [← hc]
  obtain ⟨W0, hW0⟩ : ∃ W0, W0 = (w.alloc (.cells #[.int .i64 a0, .int .i64 a1] 40)).alloc (.cells #[.int .i64 b0, .int .i64 b1] 40) := ⟨_, rfl⟩
  have hr0 : RowIs W0 w.heap.size 40 [.int .i64 a0, .int .i64 a1] := by rw [hW0]; exact (RowIs.made w 40 [.int .i64 a0, .int .i64 a1]).alloc _
  have hr1 : RowIs W0 (w.heap.size + 1) 40 [.int .i64 b0, .int .i64 b1] := by rw [hW0]; exact RowIs.made' _ _ [.int .i64 b0, .int .i64 b1] _ (by simp)
  have two : ∀ (X : World) (g : Nat) (x y : Int), RowIs X g 40 [.int .i64 x, .int .i64 y] → IntsAt X (some ⟨g, 0, none⟩) [x, y] := fun X g x y h _ => ⟨g, 0, rfl, h.lt, fun i hi => by
    match i, hi with
    | 0, _ => exact h.cell rfl
    | 1, _ => exact h.cell rfl⟩
  have HCM := Lib.hid (show ∀ n, Calls Tryz.prog 58 #[.slice (some ⟨w.heap.size, 0, none⟩) 2 2, .slice (some ⟨w.heap.size + 1, 0, none⟩) 2 2] (W0.drewN n) fun e w' => e = .returned (.int .i64 c) ∧ ∃ r, w' = W0.drewN r from fun n => by
    have := compare_rows [a0, a1] [b0, b1] (some ⟨w.heap.size, 0, none⟩) (some ⟨w.heap.size + 1, 0, none⟩) 2 2 (W0.drewN n) (two _ _ _ _ (hr0.drew n)) (two _ _ _ _ (hr1.drew n)) (by simp) (by simp)
    rw [← hc] at this
    refine this.mono ?_
    rintro e w' ⟨h1, h2⟩
    exact ⟨h1, n, h2.symm⟩)
  have HG0 := Lib.hid (show Gr w W0 from by rw [hW0]; exact ((Gr.refl w).alloc _).alloc _)
  have HW0 := Lib.hid hW0
  clear hW0 hr0 hr1 two hc
  go_enter Tryz.func47, Tryz.ntmps47
  go_upto_region 1 with fail
  rw [← HW0.out]
  go_quiet ((go_at_call 58; with_reducible exact HCM.out _))
  rename_i nq
  have HGN := Lib.hid (HG0.out.drewN nq)
  go_wp2
  exact bodyPost_ret (v := .int .i64 c) (by simp [results, Tryz.results47, go_sem]) rfl ⟨rfl, HGN.out⟩
set_option maxRecDepth 100000 in
set_option maxHeartbeats 2000000 in
theorem plain_ok (x y : Int) (w : World) :
    Calls Tryz.prog 44 #[.agg #[.int .i64 x, .int .i64 y]] w fun e w' => e = .returned (.agg #[.int .i64 (min x y), .int .i64 (max x y)]) ∧ Below w.heap.size w w' := by
  have hmn : ∀ ats ty (a b : Int) (w : World), (Builtin.min_ ats ty #[.int .i64 a, .int .i64 b]).run Tryz.prog w = .ok (.int .i64 (min a b)) w := fun ats ty a b w => by
    simp [Builtin.min_, Builtin.min2, Int.min_def]; split <;> split <;> first | rfl | omega | (congr 2; omega)
  have hmx : ∀ ats ty (a b : Int) (w : World), (Builtin.max_ ats ty #[.int .i64 a, .int .i64 b]).run Tryz.prog w = .ok (.int .i64 (max a b)) w := fun ats ty a b w => by
    simp [Builtin.max_, Builtin.max2, Int.max_def]; split <;> split <;> first | rfl | omega | (congr 2; omega)
  go_enter Tryz.func44, Tryz.ntmps44
  go_wp2
  have hr : RowIs ((w.alloc (.cells #[.int .i64 x, .int .i64 y] 40)).alloc (.cells #[.int .i64 (min x y), .int .i64 (max x y)] 40)) (w.heap.size + 1) 40 [.int .i64 (min x y), .int .i64 (max x y)] := RowIs.made' _ _ [.int .i64 (min x y), .int .i64 (max x y)] _ (by simp)
  have e0 := hr.cell (i := 0) rfl
  have e1 := hr.cell (i := 1) rfl
  exact bodyPost_ret (v := .agg #[.int .i64 (min x y), .int .i64 (max x y)]) (by simp [results, Tryz.results44, go_sem, e0, e1]) rfl ⟨rfl, ((Below.refl _ _).alloc (Nat.le_refl _) _).alloc (by simp) _⟩
end Go.Proofs.YtkjamheoihlekaaGreat

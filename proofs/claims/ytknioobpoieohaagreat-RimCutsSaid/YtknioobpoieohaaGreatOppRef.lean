/- gypsumref15.Opp; gypsumref12.Lists. -/
import Derived.Test.YtknioobpoieohaaGreatRef15
import Derived.Test.YtknioobpoieohaaGreatRowsLaw
import Derived.Test.YtknioobpoieohaaGreatIs15
namespace Go.Proofs.YtknioobpoieohaaGreat
set_option linter.unusedVariables false
set_option linter.unusedSimpArgs false
open Go.RowKit
theorem Surf.face_is {N : Int} {T : List Tr} (hs : Surf N T) {a b r : Int} (h : FacePost T a b r) : r = facing T (a, b) := by
  rcases h with ⟨c, rfl, hc, he⟩ | ⟨rfl, hno⟩
  · obtain ⟨d, hd, hdl, hde⟩ := facing_some (facing_of hc he)
    rw [hd]
    have := hs.edge_c hc hdl (he.trans hde.symm)
    omega
  · rcases facing_lt T (a, b) with h | h
    · by_cases h0 : 0 ≤ facing T (a, b)
      · obtain ⟨d, hd, hdl, hde⟩ := facing_some h0
        exact absurd hde (hno d hdl)
      · unfold facing at h h0 ⊢
        unfold faceFrom at h h0 ⊢
        cases hh : (List.range' 0 (3 * T.length - 0)).find? fun c : Nat => edgeAt T c == (a, b) with
        | none => rfl
        | some v => rw [hh] at h0; simp at h0
    · exact h.symm
set_option maxRecDepth 100000 in
set_option maxHeartbeats 2000000 in
theorem opp15 (N : Int) (ao : Option Addr) (cap : Nat) (T : List Tr) (c : Nat) (w : World) (hT : TrisAt w ao T) (hs : Surf N T) (hc : c < 3 * T.length) :
    Calls Tryz.prog 57 #[.agg #[.int .i64 N, .slice ao T.length cap], .int .i64 (c : Int)] w fun e w' => e = .returned (.int .i64 (opp T (c : Nat))) ∧ Below w.heap.size w w' := by
  have hl : T.length ≤ 10000 := by have := hs.t1; omega
  obtain ⟨W0, hW0⟩ : ∃ W0, W0 = w.alloc (.cells #[.int .i64 N, .slice ao T.length cap] 24) := ⟨_, rfl⟩
  have hb0 : Below w.heap.size w W0 := by rw [hW0]; exact (Below.refl _ _).alloc (Nat.le_refl _) _
  have hr0 : RowIs W0 w.heap.size 24 [.int .i64 N, .slice ao T.length cap] := by rw [hW0]; exact RowIs.made w 24 [.int .i64 N, .slice ao T.length cap]
  have hT0 := hT.mono (Nat.le_refl _) hb0
  obtain ⟨p, hp⟩ : ∃ p, p = vt T (nxn c : Nat) := ⟨_, rfl⟩
  obtain ⟨q, hq⟩ : ∃ q, q = vt T (pvn c : Nat) := ⟨_, rfl⟩
  obtain ⟨r, hr⟩ : ∃ r, r = opp T (c : Nat) := ⟨_, rfl⟩
  obtain ⟨nc, hnc⟩ : ∃ x, x = nxn c := ⟨_, rfl⟩
  obtain ⟨pc, hpc⟩ : ∃ x, x = pvn c := ⟨_, rfl⟩
  have HN := Lib.hid (show ∀ w', Calls Tryz.prog 52 #[.int .i64 (c : Int)] w' fun e w'' => e = .returned (.int .i64 (nc : Int)) ∧ w' = w'' from fun w' => by rw [hnc]; exact next15 c w' (by omega))
  have HP := Lib.hid (show ∀ w', Calls Tryz.prog 53 #[.int .i64 (c : Int)] w' fun e w'' => e = .returned (.int .i64 (pc : Int)) ∧ w' = w'' from fun w' => by rw [hpc]; exact prev15 c w' (by omega))
  have HV1 := Lib.hid (show ∀ w', Hid (Below W0.heap.size W0 w') → Calls Tryz.prog 46 #[.agg #[.int .i64 N, .slice ao T.length cap], .int .i64 (nc : Int)] w' fun e w'' => e = .returned (.int .i64 p) ∧ Hid (Below W0.heap.size W0 w'') from fun w' h => by
    rw [hp, hnc]
    exact (v15 N ao cap T (nxn c) w' (hT0.mono (Nat.le_refl _) h.out) hl (nxn_lt hc)).mono fun e w'' h2 => ⟨h2.1, below_more h.out h2.2 h.out.size⟩)
  have HV2 := Lib.hid (show ∀ w', Hid (Below W0.heap.size W0 w') → Calls Tryz.prog 46 #[.agg #[.int .i64 N, .slice ao T.length cap], .int .i64 (pc : Int)] w' fun e w'' => e = .returned (.int .i64 q) ∧ Hid (Below W0.heap.size W0 w'') from fun w' h => by
    rw [hq, hpc]
    exact (v15 N ao cap T (pvn c) w' (hT0.mono (Nat.le_refl _) h.out) hl (pvn_lt hc)).mono fun e w'' h2 => ⟨h2.1, below_more h.out h2.2 h.out.size⟩)
  have HFC := Lib.hid (show ∀ w', Hid (Below W0.heap.size W0 w') → Calls Tryz.prog 21 #[.agg #[.int .i64 N, .slice ao T.length cap], .int .i64 q, .int .i64 p] w' fun e w'' => e = .returned (.int .i64 r) ∧ Hid (Below W0.heap.size W0 w'') from fun w' h =>
    (facing15 N ao cap T q p w' (hT0.mono (Nat.le_refl _) h.out) hl).mono fun e w'' ⟨r', he, hf, h2⟩ => ⟨by rw [he, hs.face_is hf, hr, opp_nat, hp, hq], below_more h.out h2 h.out.size⟩)
  have HK := Lib.hid (show ∀ w', Hid (Below W0.heap.size W0 w') → w'.cell? ⟨w.heap.size, 0, none⟩ = some (.int .i64 N) ∧ w'.cell? ⟨w.heap.size, 1, none⟩ = some (.slice ao T.length cap) from fun w' h => ⟨(hr0.after h.out).cell (i := 0) rfl, (hr0.after h.out).cell (i := 1) rfl⟩)
  have HD0 := Lib.hid (show Below W0.heap.size W0 W0.drew from ⟨rfl, rfl, rfl, Nat.le_refl _, fun _ _ => rfl⟩)
  have HB0 := Lib.hid hb0
  have HW0 := Lib.hid hW0
  obtain ⟨len, hlen⟩ : ∃ n, n = T.length := ⟨_, rfl⟩
  rw [← hlen] at HV1 HV2 HFC HK HW0 hl ⊢
  rw [← hr]
  obtain ⟨xb, hxb⟩ : ∃ x, x = w.heap.size := ⟨_, rfl⟩
  rw [← hxb] at HK
  have HXB := Lib.hid hxb
  have hc3 : (c : Int) ≤ 30000 := by omega
  clear hT hb0 hr0 hT0 hW0 hp hq hr hnc hpc hlen hs hc hxb
  go_enter Tryz.func57, Tryz.ntmps57
  go_upto_region 1 with fail
  rw [← HW0.out, ← HXB.out]
  go_region_held3 (fun w' => w'.cell? ⟨xb, 0, none⟩ = some (.int .i64 N) ∧ w'.cell? ⟨xb, 1, none⟩ = some (.slice ao len cap))
    (exact HK.out _ (by assumption))
    (first
      | (go_at_call 52; (with_reducible refine (HN.out _).mono ?_); rintro e wN ⟨rfl, rfl⟩)
      | (go_at_call 53; (with_reducible refine (HP.out _).mono ?_); rintro e wP ⟨rfl, rfl⟩)
      | (go_at_call 46; (with_reducible refine (HV1.out _ (by assumption)).mono ?_); rintro e wV ⟨rfl, hV1⟩)
      | (go_at_call 46; (with_reducible refine (HV2.out _ (by assumption)).mono ?_); rintro e wV ⟨rfl, hV2⟩)
      | (go_at_call 21; (with_reducible refine (HFC.out _ (by assumption)).mono ?_); rintro e wV ⟨rfl, hV3⟩))
  all_goals
    go_wp2
    go_ret
    exact ⟨rfl, below_more HB0.out hV3.out HB0.out.size⟩
/-- Are two lists of lists the same? -/
def SameMat (m m' : Nat) (R R' : Nat → List Int) : Prop := m = m' ∧ ∀ i, i < m → R i = R' i
set_option maxRecDepth 100000 in
set_option maxHeartbeats 2000000 in
theorem lists12 (ao bo : Option Addr) (ca cb m m' : Nat) (R R' : Nat → List Int) (w : World) (hm : m ≤ 100000) (hl : ∀ i, i < m → (R i).length ≤ 100000) (hA : MatAt w ao m R) (hB : MatAt w bo m' R') :
    Calls Tryz.prog 26 #[.slice ao m ca, .slice bo m' cb] w (BoolPost (SameMat m m' R R') w) := by
  by_cases hmm : m = m'
  case neg =>
    have HF := Lib.hid (show ¬ SameMat m m' R R' from fun h => hmm h.1)
    have d0 : ((m : Int) != (m' : Int)) = true := by simp; omega
    have d1 : ((m : Int) == (m' : Int)) = false := by simp; omega
    have d2 : (m == m') = false := by simpa using hmm
    clear hA hB hmm
    go_enter Tryz.func26, Tryz.ntmps26
    go_wp2
    exact bodyPost_ret (v := .bool false) (by simp [results, Tryz.results26, go_sem]) rfl ⟨_, rfl, says_no HF.out, Below.refl _ _⟩
  case pos =>
  subst hmm
  have HA := Lib.hid hA
  have HB := Lib.hid hB
  have HLE := Lib.hid hl
  clear hA hB hl
  go_enter Tryz.func26, Tryz.ntmps26
  go_wp2
  go_loopw [5] (fun i ws => ∃ k : Nat, k ≤ m ∧ i = .int .i64 k ∧ (∀ j, j < k → R j = R' j) ∧ Below w.heap.size w ws) (fun i _ => m - (intOf i).toNat)
  case atStart => exact ⟨0, by omega, rfl, fun j h => by omega, Below.refl _ _⟩
  case round =>
  obtain ⟨k, hk, rfl, hpre, hb⟩ := hrel
  obtain ⟨X, rfl⟩ : ∃ X : World, X = wr := ⟨_, rfl⟩
  have HP := Lib.hid hpre
  have HBX := Lib.hid hb
  clear hpre hb
  by_cases hlt : k < m
  case neg =>
    obtain rfl : k = m := by omega
    have HF := Lib.hid (show SameMat k k R R' from ⟨rfl, HP.out⟩)
    go_wp2
    exact bodyPost_ret (v := .bool true) (by simp [results, Tryz.results26, go_sem]) rfl ⟨_, rfl, says_yes HF.out, HBX.out⟩
  case pos =>
  obtain ⟨ab, aoff, rfl, hab, hac⟩ := HA.out (by omega)
  obtain ⟨bb, boff, rfl, hbb, hbc⟩ := HB.out (by omega)
  obtain ⟨ra, rc, hra, hIA⟩ := hac k hlt
  obtain ⟨rb, rd, hrb, hIB⟩ := hbc k hlt
  have hra' := fun (Y : World) (h : Below w.heap.size w Y) => (h.cell (p := ⟨ab, aoff + k, none⟩) hab).trans hra
  have hrb' := fun (Y : World) (h : Below w.heap.size w Y) => (h.cell (p := ⟨bb, boff + k, none⟩) hbb).trans hrb
  obtain ⟨xs, hxs⟩ : ∃ xs, xs = R k := ⟨_, rfl⟩
  obtain ⟨ys, hys⟩ : ∃ ys, ys = R' k := ⟨_, rfl⟩
  rw [← hxs] at hra' hIA
  rw [← hys] at hrb' hIB
  have hxl : xs.length ≤ 100000 := by rw [hxs]; exact HLE.out k hlt
  have HIA := Lib.hid hIA
  have HIB := Lib.hid hIB
  have HXS := Lib.hid hxs
  have HYS := Lib.hid hys
  obtain ⟨xl, hxle⟩ : ∃ l, l = xs.length := ⟨_, rfl⟩
  obtain ⟨yl, hyle⟩ : ∃ l, l = ys.length := ⟨_, rfl⟩
  rw [← hxle] at hra' hxl
  rw [← hyle] at hrb'
  have HXL := Lib.hid hxle
  have HYL := Lib.hid hyle
  have HRA := Lib.hid hra'
  have HRB := Lib.hid hrb'
  have c0 := HRA.out X HBX.out
  have c1 := HRB.out X HBX.out
  clear hac hbc hra hrb hra' hrb' hIA hIB hxs hys hxle hyle
  by_cases hll : xl = yl
  case neg =>
    have HF := Lib.hid (show ¬ SameMat m m R R' from fun h => hll (by have := h.2 k hlt; rw [HXL.out, HYL.out, HXS.out, HYS.out, this]))
    have d0 : ((xl : Int) != (yl : Int)) = true := by simp; omega
    have d1 : ((xl : Int) == (yl : Int)) = false := by simp; omega
    have d2 : (xl == yl) = false := by simpa using hll
    clear hll
    go_wp2
    go_quiet (fail)
    go_wp2
    exact bodyPost_ret (v := .bool false) (by simp [results, Tryz.results26, go_sem]) rfl ⟨_, rfl, says_no HF.out, HBX.out.trans ⟨rfl, rfl, rfl, Nat.le_refl _, fun _ _ => rfl⟩⟩
  case pos =>
  subst hll
  go_wp2
  go_quiet (fail)
  go_wp2
  clear c0 c1
  go_loopw [6] (fun i ws => ∃ j : Nat, j ≤ xl ∧ i = .int .i64 j ∧ (∀ q, q < j → I! xs q = I! ys q) ∧ Below w.heap.size w ws) (fun i _ => xl - (intOf i).toNat)
  case atStart => exact ⟨0, by omega, rfl, fun j h => by omega, HBX.out.trans ⟨rfl, rfl, rfl, Nat.le_refl _, fun _ _ => rfl⟩⟩
  case round =>
  obtain ⟨j, hj, rfl, hpre, hb⟩ := hrel
  obtain ⟨Y, rfl⟩ : ∃ X : World, X = wr := ⟨_, rfl⟩
  have HPJ := Lib.hid hpre
  have HBY := Lib.hid hb
  have c0 := HRA.out Y hb
  have c1 := HRB.out Y hb
  clear hpre hb
  by_cases hjl : j < xl
  case neg =>
    obtain rfl : j = xl := by omega
    have HP2 := Lib.hid (show ∀ i, i < k + 1 → R i = R' i from fun i hi => by
      by_cases e : i = k
      · subst e
        rw [← HXS.out, ← HYS.out]
        exact ints_ext (by rw [← HXL.out, ← HYL.out]) (by rw [← HXL.out]; exact HPJ.out)
      · exact HP.out i (by omega))
    go_wp2
    go_roundw
    case rel => exact ⟨k + 1, by omega, by go_num, HP2.out, HBY.out⟩
    case measure => simp [intOf]; omega
  case pos =>
  obtain ⟨pb, poff, x, rfl, hx, g0, hp1, hp2⟩ := HIA.out.get (Nat.le_refl _) HBY.out (i := j) (by rw [← HXL.out]; exact hjl)
  obtain ⟨qb, qoff, y, rfl, hy, g1, hq1, hq2⟩ := HIB.out.get (Nat.le_refl _) HBY.out (i := j) (by rw [← HYL.out]; exact hjl)
  have hj0 : (0 : Int) ≤ (j : Int) := by omega
  have hj1 : (j : Int) < (xl : Int) := by omega
  by_cases hxy : x = y
  · subst hxy
    have d0 : (x != x) = false := by simp
    have HP2 := Lib.hid (show ∀ q, q < j + 1 → I! xs q = I! ys q from fun q hq => by
      by_cases e : q = j
      · subst e; rw [hx.out, hy.out]
      · exact HPJ.out q (by omega))
    go_wp2
    go_quiet (fail)
    go_wp2
    go_roundw
    case rel => exact ⟨j + 1, by omega, by go_num, HP2.out, HBY.out.trans ⟨rfl, rfl, rfl, Nat.le_refl _, fun _ _ => rfl⟩⟩
    case measure => simp [intOf]; omega
  · have d0 : (x != y) = true := by simpa using hxy
    have d1 : (x == y) = false := by simpa using hxy
    have HF := Lib.hid (show ¬ SameMat m m R R' from fun h => hxy (by have := h.2 k hlt; rw [← HXS.out, ← HYS.out] at this; rw [← hx.out, ← hy.out, this]))
    clear hxy
    go_wp2
    go_quiet (fail)
    go_wp2
    exact bodyPost_ret (v := .bool false) (by simp [results, Tryz.results26, go_sem]) rfl ⟨_, rfl, says_no HF.out, HBY.out.trans ⟨rfl, rfl, rfl, Nat.le_refl _, fun _ _ => rfl⟩⟩
end Go.Proofs.YtknioobpoieohaaGreat

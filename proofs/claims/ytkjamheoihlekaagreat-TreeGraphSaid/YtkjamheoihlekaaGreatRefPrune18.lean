/- gypsumref18.Prune: contract. -/
import Derived.Test.YtkjamheoihlekaaGreatRefTree1
import Derived.Test.YtkjamheoihlekaaGreatTreeDel
namespace Go.Proofs.YtkjamheoihlekaaGreat
set_option linter.unusedVariables false
set_option linter.unusedSimpArgs false
open Go.RowKit
theorem filter_take {E : List (Int × Int)} {p : Int × Int → Bool} {j : Nat} (hj : j < E.length) : (E.take (j + 1)).filter p = (E.take j).filter p ++ (if p (E! E j) then [E! E j] else []) := by
  have e : E.take (j + 1) = E.take j ++ [E! E j] := by
    rw [List.take_add_one, List.getElem?_eq_getElem hj]
    simp [E!, hj]
  rw [e, List.filter_append]
  by_cases h : p (E! E j) <;> simp [h]
set_option maxRecDepth 100000 in
set_option maxHeartbeats 4000000 in
theorem rprune18 (E : List (Int × Int)) (ao : Option Addr) (cap : Nat) (w : World) (hE : EdgesAt w ao E) (hl : E.length ≤ 100000) :
    Calls Tryz.prog 20 #[.slice ao E.length cap] w fun e w' => ∃ ao' cap', e = .returned (.slice ao' (pruneE E).length cap') ∧ EdgesAt w' ao' (pruneE E) ∧ Below w.heap.size w w' := by
  obtain ⟨i0, hi0, hz0, hz1, hz2⟩ := info_parts infoEdge
  have HE := Lib.hid hE
  have HLE := Lib.hid hl
  obtain ⟨n, hn⟩ : ∃ n, n = E.length := ⟨_, rfl⟩
  have HN := Lib.hid hn
  rw [← hn]
  clear hE hl hn
  go_enter Tryz.func20, Tryz.ntmps20
  go_wp2
  go_loopw [0] (fun v ws => ∃ (k : Nat) (a : Option Addr) (c : Nat) (L : List (Int × Int)), v = .slice a L.length c ∧ Hid (L = pruneN k E) ∧ EdgesAt ws a L ∧ Below w.heap.size w ws) (fun v _ => lenV v)
  case atStart => exact ⟨0, ao, cap, E, by rw [HN.out], Lib.hid rfl, HE.out, Below.refl _ _⟩
  case round =>
  obtain ⟨k, a, c, L, rfl, HL, hEA, hb⟩ := hrel
  obtain ⟨X, rfl⟩ : ∃ X : World, X = wr := ⟨_, rfl⟩
  have hll : L.length ≤ 100000 := by
    have := (prune_sub E k).length_le
    have := HLE.out
    rw [HL.out]
    omega
  obtain ⟨ll, hll'⟩ : ∃ l, l = L.length := ⟨_, rfl⟩
  have HLL := Lib.hid hll'
  have HEA := Lib.hid hEA
  have HBX := Lib.hid hb
  obtain ⟨b1, hb1⟩ : ∃ b, b = X.heap.size := ⟨_, rfl⟩
  have HB1 := Lib.hid hb1
  have HDG := Lib.hid (show ∀ (Y : World) (v : Int), Below b1 X Y → Calls Tryz.prog 22 #[.slice a ll c, .int .i64 v] Y fun e w' => e = .returned (.int .i64 (degE L v : Nat)) ∧ Y = w' from fun Y v hY => by
    rw [hll']
    exact degree18 L a c v Y (hEA.mono (by rw [hb1]; exact Nat.le_refl _) hY) hll)
  have HO0 := Lib.hid (show (X.alloc (.cells #[] 40)).ownsRow b1 40 2 (.slice (some ⟨b1, 0, none⟩) 0 0) 0 (ecells ((L.take 0).filter (keepE L))) from by
    rw [hb1]
    exact World.ownsRow_made X #[] 0 (Nat.le_refl _) (Nat.zero_le _) rfl)
  have HB0 := Lib.hid (show Below b1 X (X.alloc (.cells #[] 40)) from by rw [hb1]; exact (Below.refl _ _).alloc (Nat.le_refl _) _)
  have hlb : ll ≤ 100000 := by rw [hll']; exact hll
  rw [← hll']
  clear hll hll' hEA hb hb1
  go_wp2
  simp only [← HB1.out]
  go_loopw [3, 4] (fun ov iv' ws => ∃ (j m : Nat), j ≤ ll ∧ iv' = .int .i64 j ∧ Hid (m = ((L.take j).filter (keepE L)).length) ∧ ws.ownsRow b1 40 2 ov m (ecells ((L.take j).filter (keepE L))) ∧ Below b1 X ws ∧ m ≤ j ∧ b1 ≤ ws.heap.size) (fun _ iv' _ => ll - (intOf iv').toNat)
  case atStart => exact ⟨0, 0, by omega, rfl, Lib.hid (by simp), HO0.out, HB0.out, Nat.le_refl _, by simp [HB1.out]⟩
  case round =>
  clear HO0 HB0
  obtain ⟨j, m, hj, rfl, HM, hown, hbY, hmj, hsz⟩ := hrel
  obtain ⟨Y, rfl⟩ : ∃ X : World, X = wr := ⟨_, rfl⟩
  obtain ⟨oa, oc, rfl⟩ := owns_slice hown
  have HOW := Lib.hid hown
  have HBY := Lib.hid hbY
  by_cases hlt : j < ll
  case neg =>
    obtain rfl : j = ll := by omega
    have hsh : (L.take j).filter (keepE L) = shave L := by rw [HLL.out, List.take_length]; rfl
    rw [hsh] at hown
    have hm : m = (shave L).length := by rw [HM.out, hsh]
    have hEA2 : EdgesAt Y oa (shave L) := by
      have h2 := hown
      rw [hm] at h2
      obtain ⟨a2, c2, e2, h3⟩ := owns_edges h2
      simp only [Value.slice.injEq, true_and] at e2
      rw [e2.1]
      exact h3
    have HE2 := Lib.hid hEA2
    have HMM := Lib.hid hm
    have HBW := Lib.hid (show Below w.heap.size w Y from HBX.out.trans (hbY.mono (by rw [HB1.out]; exact HBX.out.size)))
    have hle : m ≤ j := by rw [hm, HLL.out]; exact shave_le L
    clear hown hsh hEA2 hbY hm
    by_cases he : m = j
    case pos =>
      have HP := Lib.hid (show pruneE E = shave L from by
        have := (prune_end (E := E) (k := k) (by rw [← HL.out, ← HMM.out, ← HLL.out]; exact he)).2
        rw [this, HL.out]
        rfl)
      have g1 : ((m : Int) == (j : Int)) = true := by rw [he]; simp
      go_wp2
      refine bodyPost_ret (v := .slice oa m oc) (by simp [results, Tryz.results20, go_sem, he]) rfl ⟨oa, oc, ?_, ?_, ?_⟩
      · rw [HP.out, ← HMM.out]
      · rw [HP.out]; exact HE2.out
      · exact HBW.out
    case neg =>
      have g1 : ((m : Int) == (j : Int)) = false := by simp; omega
      go_wp2
      go_roundw
      case rel => exact ⟨k + 1, oa, oc, shave L, by rw [HMM.out], Lib.hid (by rw [HL.out]; rfl), HE2.out, HBW.out⟩
      case measure => simp [lenV]; omega
  case pos =>
  obtain ⟨eb, off, rfl, -, hc⟩ := (HEA.out.mono (by rw [HB1.out]; exact Nat.le_refl _) hbY) (by intro e; have := HLL.out; rw [e] at this; simp at this; omega)
  obtain ⟨c1, c2⟩ := hc j (by rw [← HLL.out]; exact hlt)
  have hft := filter_take (E := L) (p := keepE L) (j := j) (by rw [← HLL.out]; exact hlt)
  obtain ⟨⟨x, y⟩, hx⟩ : ∃ x, x = E! L j := ⟨_, rfl⟩
  rw [← hx] at c1 c2 hft
  have HD1 := Lib.hid (HDG.out Y x hbY)
  have HD2 := Lib.hid (HDG.out Y y hbY)
  have bj : (0 : Int) ≤ (j : Int) ∧ (j : Int) < (ll : Int) := by omega
  obtain ⟨d1, hd1⟩ : ∃ d, d = degE L x := ⟨_, rfl⟩
  obtain ⟨d2, hd2⟩ : ∃ d, d = degE L y := ⟨_, rfl⟩
  have hkeep : keepE L (x, y) = (decide (d1 ≠ 1) && decide (d2 ≠ 1)) := by rw [hd1, hd2]; rfl
  rw [← hd1] at HD1
  rw [← hd2] at HD2
  have HFT := Lib.hid hft
  have HKP := Lib.hid hkeep
  clear hc hx hft hd1 hd2 hkeep hown hbY
  by_cases h1 : d1 = 1
  case pos =>
    have g1 : ((d1 : Int) != 1) = false := by simp; omega
    have HS := Lib.hid (show (L.take (j + 1)).filter (keepE L) = (L.take j).filter (keepE L) from by rw [HFT.out, HKP.out]; simp [h1])
    clear h1
    go_wp2_with fail
    refine HD1.out.mono ?_
    rintro e w' ⟨rfl, rfl⟩
    go_wp2
    go_roundw
    case rel => exact ⟨j + 1, m, by omega, by go_num, Lib.hid (by rw [HS.out]; exact HM.out), by rw [HS.out]; exact HOW.out, HBY.out, by omega, hsz⟩
    case measure => simp [intOf]; omega
  case neg =>
  have g1 : ((d1 : Int) != 1) = true := by simp; omega
  by_cases h2 : d2 = 1
  case pos =>
    have g2 : ((d2 : Int) != 1) = false := by simp; omega
    have HS := Lib.hid (show (L.take (j + 1)).filter (keepE L) = (L.take j).filter (keepE L) from by rw [HFT.out, HKP.out]; simp [h2])
    clear h1 h2
    go_wp2_with fail
    refine HD1.out.mono ?_
    rintro e w' ⟨rfl, rfl⟩
    go_wp2_with fail
    refine HD2.out.mono ?_
    rintro e w' ⟨rfl, rfl⟩
    go_wp2
    go_roundw
    case rel => exact ⟨j + 1, m, by omega, by go_num, Lib.hid (by rw [HS.out]; exact HM.out), by rw [HS.out]; exact HOW.out, HBY.out, by omega, hsz⟩
    case measure => simp [intOf]; omega
  case neg =>
  have g2 : ((d2 : Int) != 1) = true := by simp; omega
  have HS := Lib.hid (show (L.take (j + 1)).filter (keepE L) = (L.take j).filter (keepE L) ++ [(x, y)] from by rw [HFT.out, HKP.out]; simp [h1, h2])
  have HAL := Lib.hid (HOW.out.alloc (.cells #[.int .i64 x, .int .i64 y] 40))
  have HQ1 := Lib.hid (show m + 1 ≤ maxLen by unfold maxLen; omega)
  have HQ2 := Lib.hid (show (m + 1) * 16 ≤ 140737488355328 by omega)
  have HQ3 := Lib.hid (show b1 ≤ (Y.alloc (.cells #[.int .i64 x, .int .i64 y] 40)).heap.size by simp; omega)
  clear h1 h2
  go_wp2_with fail
  refine HD1.out.mono ?_
  rintro e w' ⟨rfl, rfl⟩
  go_wp2_with fail
  refine HD2.out.mono ?_
  rintro e w' ⟨rfl, hw'⟩
  subst hw'
  go_wp2_with (at_builtin; refine wpList_append_lies _ rfl _ _ 34 rfl b1 40 i0 (.agg #[.int .i64 0, .int .i64 0]) 2 16 (by kernel_rfl) hi0 hz0 hz1 hz2 rfl (by decide) _ _ _ rfl HAL.out ⟨Y.heap.size, 0, none⟩ 1 1 [.int .i64 x, .int .i64 y] rfl rfl (World.news_of_block (heap_alloc_new Y _)) (by intro u hu; simp at hu; rcases hu with rfl | rfl <;> rfl) (by decide) HQ1.out HQ2.out HQ3.out _ rfl ?_)
  intro g2' cap2 X2 hown2 hgr2 hat2 hlt2
  have HN2 := Lib.hid (show X2.ownsRow b1 40 2 (.slice (some ⟨g2', 0, none⟩) (m + 1) cap2) (m + 1) (ecells ((L.take (j + 1)).filter (keepE L))) from by rw [HS.out, ecells_snoc]; exact hown2)
  have HB2 := Lib.hid (show Below b1 X X2 ∧ b1 ≤ X2.heap.size from ⟨(HBY.out.alloc hsz _).grown hgr2 (by simp; omega) (fun q hq => (HAL.out.lt q hq).1), by have := hgr2.size; simp at this; omega⟩)
  clear hown2 hgr2 hat2 hlt2 HAL
  go_wp2
  go_roundw
  case rel => exact ⟨j + 1, m + 1, by omega, by go_num, Lib.hid (by rw [HS.out, List.length_append, ← HM.out]; rfl), HN2.out, HB2.out.1, by omega, HB2.out.2⟩
  case measure => simp [intOf]; omega
end Go.Proofs.YtkjamheoihlekaaGreat

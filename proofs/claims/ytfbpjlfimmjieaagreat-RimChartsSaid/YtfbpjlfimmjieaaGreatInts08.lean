/- gypsumref08.Ints. -/
import Derived.Test.YtfbpjlfimmjieaaGreatIntsDef
namespace Go.Proofs.YtfbpjlfimmjieaaGreat
set_option linter.unusedVariables false
set_option linter.unusedSimpArgs false
open Go.RowKit
set_option maxRecDepth 100000 in
set_option maxHeartbeats 1000000 in
theorem ints08 (ao bo : Option Addr) (cap cap' : Nat) (T U : List Int) (w : World) (hl : T.length ≤ 100000) (hT : IntsAt w ao T) (hU : IntsAt w bo U) :
    Calls Tryz.prog 17 #[.slice ao T.length cap, .slice bo U.length cap'] w fun e w' => e = .returned (.bool (decide (T = U))) ∧ Below w.heap.size w w' := by
  obtain ⟨len, hlen⟩ : ∃ n, n = T.length := ⟨_, rfl⟩
  by_cases hne : T.length = U.length
  · rw [← hne, ← hlen]
    rw [← hlen] at hl
    have HT := Lib.hid hT
    have HU := Lib.hid hU
    have HL := Lib.hid hlen
    have HNE := Lib.hid hne
    obtain ⟨r, hr⟩ : ∃ r, r = decide (T = U) := ⟨_, rfl⟩
    rw [← hr]
    have HR := Lib.hid hr
    clear hT hU hlen hne hr
    go_enter Tryz.func17, Tryz.ntmps17
    go_wp2
    go_loopw [5] (fun i ws => ∃ k : Nat, k ≤ len ∧ i = .int .i64 k ∧ (∀ i, i < k → I! T i = I! U i) ∧ Below w.heap.size w ws) (fun i _ => len - (intOf i).toNat)
    case atStart => exact ⟨0, by omega, rfl, fun i h => by omega, Below.refl _ _⟩
    case round =>
      obtain ⟨k, hk, rfl, hpre, hb⟩ := hrel
      obtain ⟨W1, rfl⟩ : ∃ W1 : World, W1 = wr := ⟨_, rfl⟩
      have HP := Lib.hid hpre
      have HB := Lib.hid hb
      clear hpre hb
      by_cases hlt : k < len
      · obtain ⟨b, off, x, rfl, ht, g0, hbs, hbs'⟩ := HT.out.get (Nat.le_refl _) HB.out (i := k) (by have := HL.out; omega)
        obtain ⟨b', off', x', rfl, ht', g0', hcs, hcs'⟩ := HU.out.get (Nat.le_refl _) HB.out (i := k) (by have := HL.out; have := HNE.out; omega)
        by_cases he : x = x'
        · subst he
          have HP' := Lib.hid (show ∀ i, i < k + 1 → I! T i = I! U i from fun i h => by
            by_cases e : i = k
            · subst e; rw [ht.out, ht'.out]
            · exact HP.out i (by omega))
          clear ht ht' hbs hcs
          go_wp2
          go_quiet (fail)
          go_wp2
          go_roundw
          case rel => exact ⟨k + 1, by omega, by go_num, HP'.out, HB.out.trans ⟨rfl, rfl, rfl, Nat.le_refl _, fun _ _ => rfl⟩⟩
          case measure => simp [intOf]; omega
        · have HF := Lib.hid (show r = false from by
            rw [HR.out]
            simp only [decide_eq_false_iff_not]
            rintro rfl
            exact he (ht.out.symm.trans ht'.out))
          have hq : (x == x') = false := by simp [he]
          have hq2 : (x != x') = true := by simp [he]
          clear ht ht' he hbs hcs
          go_wp2
          go_quiet (fail)
          go_wp2
          exact bodyPost_ret (v := .bool false) (by simp [results, Tryz.results17, go_sem]) rfl ⟨by rw [HF.out], HB.out.trans ⟨rfl, rfl, rfl, Nat.le_refl _, fun _ _ => rfl⟩⟩
      · obtain rfl : k = len := by omega
        have HF := Lib.hid (show r = true from by
            rw [HR.out]
            simp only [decide_eq_true_eq]
            exact ints_ext HNE.out (by rw [← HL.out]; exact HP.out))
        go_wp2
        exact bodyPost_ret (v := .bool true) (by simp [results, Tryz.results17, go_sem]) rfl ⟨by rw [HF.out], HB.out⟩
  · obtain ⟨len', hlen'⟩ : ∃ n, n = U.length := ⟨_, rfl⟩
    have HF := Lib.hid (show decide (T = U) = false from by simp only [decide_eq_false_iff_not]; exact fun e => hne (by rw [e]))
    rw [← hlen, ← hlen'] at hne
    rw [HF.out, ← hlen, ← hlen']
    have hb : (len == len') = false := by simp [hne]
    have hb2 : (len != len') = true := by simp [hne]
    clear hT hU hlen hlen' hl
    go_enter Tryz.func17, Tryz.ntmps17
    go_wp2
    exact bodyPost_ret (v := .bool false) (by simp [results, Tryz.results17, go_sem]) rfl ⟨rfl, Below.refl _ _⟩
end Go.Proofs.YtfbpjlfimmjieaaGreat

/- slices.Equal of triangles, soup.Same, ints. -/
import Derived.Test.YtkggphfekeiejaaCornerNew
import Derived.ChangeKeysEq
import Derived.Laws.StructEq
namespace Go.Proofs.Ytkggphfekeiejaa
set_option linter.unusedVariables false
set_option linter.unusedSimpArgs false
open Go.RowKit
theorem tris_ext {T U : List Tr} (hl : T.length = U.length) (h : ∀ i, i < T.length → T! T i = T! U i) : T = U := by
  apply List.ext_getElem hl
  intro i h1 h2
  have := h i h1
  unfold T! at this
  simpa [List.getD_eq_getElem?_getD, List.getElem?_eq_getElem h1, List.getElem?_eq_getElem h2] using this
theorem part_tri (a b c : Value) (w : World) : (part 3 #[a, b, c] 0).run Try.prog w = .ok a w ∧ (part 3 #[a, b, c] 1).run Try.prog w = .ok b w ∧ (part 3 #[a, b, c] 2).run Try.prog w = .ok c w := ⟨by kernel_rfl, by kernel_rfl, by kernel_rfl⟩
theorem tri_equal (x y z x' y' z' : Int) (w : World) :
    (Op.equalIn 10000 49 (.agg #[.int .i64 x, .int .i64 y, .int .i64 z]) (.agg #[.int .i64 x', .int .i64 y', .int .i64 z'])).run Try.prog w = .ok (x == x' && (y == y' && z == z')) w := by
  obtain ⟨i0, hi, -⟩ := info_parts info3
  have hc : Try.prog.cellsOf 3 = 1 := by kernel_rfl
  have hu : Try.prog.underlying 3 = some (.int .i64) := by kernel_rfl
  rw [run_equalIn_array (P := Try.prog) w 9999 (t := 49) (e := 3) (n := 3) (i := i0) _ _ (by kernel_rfl) hi, hc]
  simp only [List.range_succ, List.range_zero, List.nil_append, List.cons_append, Op.eqItems, Sem.run_bind, Nat.mul_one, (part_tri _ _ _ _).1, (part_tri _ _ _ _).2.1, (part_tri _ _ _ _).2.2, Result.andThen_ok, run_equalIn_int (P := Try.prog) _ _ _ _ _ _ _ hu]
  by_cases h1 : x = x' <;> by_cases h2 : y = y' <;> by_cases h3 : z = z' <;> simp [h1, h2, h3, (part_tri _ _ _ _).2.1, (part_tri _ _ _ _).2.2, run_equalIn_int (P := Try.prog) _ _ _ _ _ _ _ hu]
set_option maxRecDepth 100000 in
set_option maxHeartbeats 1000000 in
theorem equal_any (ao bo : Option Addr) (cap cap' : Nat) (T U : List Tr) (w : World) (hl : T.length ≤ 100000) (hT : TrisAt w ao T) (hU : TrisAt w bo U) :
    Calls Try.prog 36 #[.slice ao T.length cap, .slice bo U.length cap'] w fun e w' => e = .returned (.bool (decide (T = U))) ∧ Below w.heap.size w w' := by
  obtain ⟨len, hlen⟩ : ∃ n, n = T.length := ⟨_, rfl⟩
  by_cases hne : T.length = U.length
  · rw [← hne, ← hlen]
    rw [← hlen] at hl
    have HT := Lib.hid hT
    have HU := Lib.hid hU
    have HL := Lib.hid hlen
    have HNE := Lib.hid hne
    obtain ⟨r, hr⟩ : ∃ r, r = decide (T = U) := ⟨_, rfl⟩
    rw [← hr]
    have HR := Lib.hid hr
    clear hT hU hlen hne hr
    go_enter Try.func36, Try.ntmps36
    go_wp2
    go_loopw [13] (fun i ws => ∃ k : Nat, k ≤ len ∧ i = .int .i64 k ∧ (∀ i, i < k → T! T i = T! U i) ∧ Below w.heap.size w ws) (fun i _ => len - (intOf i).toNat)
    case atStart => exact ⟨0, by omega, rfl, fun i h => by omega, Below.refl _ _⟩
    case round =>
      obtain ⟨k, hk, rfl, hpre, hb⟩ := hrel
      obtain ⟨W1, rfl⟩ : ∃ W1 : World, W1 = wr := ⟨_, rfl⟩
      have HP := Lib.hid hpre
      have HB := Lib.hid hb
      clear hpre hb
      by_cases hlt : k < len
      · obtain ⟨b, off, x, y, z, rfl, ht, g0, g1, g2, hbs, hbs'⟩ := HT.out.get (Nat.le_refl _) HB.out (i := k) (by have := HL.out; omega)
        obtain ⟨b', off', x', y', z', rfl, ht', g0', g1', g2', hcs, hcs'⟩ := HU.out.get (Nat.le_refl _) HB.out (i := k) (by have := HL.out; have := HNE.out; omega)
        by_cases he : (x, y, z) = (x', y', z')
        · cases he
          have HP' := Lib.hid (show ∀ i, i < k + 1 → T! T i = T! U i from fun i h => by
            by_cases e : i = k
            · subst e; rw [ht.out, ht'.out]
            · exact HP.out i (by omega))
          have hq : ∀ w, (Op.equalIn 10000 49 (.agg #[.int .i64 x, .int .i64 y, .int .i64 z]) (.agg #[.int .i64 x, .int .i64 y, .int .i64 z])).run Try.prog w = .ok true w := fun w => by rw [tri_equal]; simp
          clear ht ht' hbs hcs
          go_wp2
          go_quiet (fail)
          go_wp2
          go_roundw
          case rel => exact ⟨k + 1, by omega, by go_num, HP'.out, HB.out.trans ⟨rfl, rfl, rfl, Nat.le_refl _, fun _ _ => rfl⟩⟩
          case measure => simp [intOf]; omega
        · have HF := Lib.hid (show r = false from by
            rw [HR.out]
            simp only [decide_eq_false_iff_not]
            rintro rfl
            exact he (ht.out.symm.trans ht'.out))
          have hq : (x == x' && (y == y' && z == z')) = false := by
            simp only [Prod.mk.injEq] at he
            simp only [Bool.and_eq_false_iff, beq_eq_false_iff_ne]
            by_cases h1 : x = x' <;> by_cases h2 : y = y' <;> simp_all
          have hq : ∀ w, (Op.equalIn 10000 49 (.agg #[.int .i64 x, .int .i64 y, .int .i64 z]) (.agg #[.int .i64 x', .int .i64 y', .int .i64 z'])).run Try.prog w = .ok false w := fun w => by rw [tri_equal, hq]
          clear ht ht' he hbs hcs
          go_wp2
          go_quiet (fail)
          go_wp2
          exact bodyPost_ret (v := .bool false) (by simp [results, Try.results36, go_sem]) rfl ⟨by rw [HF.out], HB.out.trans ⟨rfl, rfl, rfl, Nat.le_refl _, fun _ _ => rfl⟩⟩
      · obtain rfl : k = len := by omega
        have HF := Lib.hid (show r = true from by
            rw [HR.out]
            simp only [decide_eq_true_eq]
            exact tris_ext HNE.out (by rw [← HL.out]; exact HP.out))
        go_wp2
        exact bodyPost_ret (v := .bool true) (by simp [results, Try.results36, go_sem]) rfl ⟨by rw [HF.out], HB.out⟩
  · obtain ⟨len', hlen'⟩ : ∃ n, n = U.length := ⟨_, rfl⟩
    have HF := Lib.hid (show decide (T = U) = false from by simp only [decide_eq_false_iff_not]; exact fun e => hne (by rw [e]))
    rw [← hlen, ← hlen'] at hne
    rw [HF.out, ← hlen, ← hlen']
    have hb : (len == len') = false := by simp [hne]
    have hb2 : (len != len') = true := by simp [hne]
    clear hT hU hlen hlen' hl
    go_enter Try.func36, Try.ntmps36
    go_wp2
    exact bodyPost_ret (v := .bool false) (by simp [results, Try.results36, go_sem]) rfl ⟨rfl, Below.refl _ _⟩
set_option maxRecDepth 100000 in
set_option maxHeartbeats 1000000 in
theorem same_any (N M : Int) (ao bo : Option Addr) (cap cap' : Nat) (T U : List Tr) (w : World) (hl : T.length ≤ 100000) (hT : TrisAt w ao T) (hU : TrisAt w bo U) :
    Calls Try.prog 19 #[.agg #[.int .i64 N, .slice ao T.length cap], .agg #[.int .i64 M, .slice bo U.length cap']] w fun e w' => e = .returned (.bool (decide (N = M ∧ T = U))) ∧ Below w.heap.size w w' := by
  have hb0 : Below w.heap.size w ((w.alloc (.cells #[.int .i64 N, .slice ao T.length cap] 24)).alloc (.cells #[.int .i64 M, .slice bo U.length cap'] 24)) := ((Below.refl _ _).alloc (Nat.le_refl _) _).alloc (by simp) _
  have HE := Lib.hid (equal_any ao bo cap cap' T U _ hl (hT.mono (Nat.le_refl _) hb0) (hU.mono (Nat.le_refl _) hb0))
  have HB := Lib.hid hb0
  obtain ⟨len, hlen⟩ : ∃ n, n = T.length := ⟨_, rfl⟩
  obtain ⟨len', hlen'⟩ : ∃ n, n = U.length := ⟨_, rfl⟩
  obtain ⟨r, hr⟩ : ∃ r, r = decide (T = U) := ⟨_, rfl⟩
  have hres : decide (N = M ∧ T = U) = (decide (N = M) && r) := by rw [hr]; simp
  rw [hres]
  rw [← hlen, ← hlen', ← hr] at HE
  rw [← hlen, ← hlen'] at HB ⊢
  clear hT hU hlen hlen' hl hr hres hb0
  by_cases he : N = M
  · subst he
    have hd : decide (N = N) = true := by simp
    rw [hd, Bool.true_and]
    clear hd
    go_enter Try.func19, Try.ntmps19
    go_wp2_with fail
    refine HE.out.mono ?_
    rintro e w2 ⟨rfl, hb2⟩
    have HB2 := Lib.hid (below_more HB.out hb2 HB.out.size)
    clear hb2
    go_wp2
    exact bodyPost_ret (v := .bool r) (by simp [results, Try.results19, go_sem]) rfl ⟨rfl, HB2.out⟩
  · have h1 : (N == M) = false := by simp [he]
    have h2 : decide (N = M) = false := by simp [he]
    rw [h2, Bool.false_and]
    clear h2
    go_enter Try.func19, Try.ntmps19
    go_wp2
    exact bodyPost_ret (v := .bool false) (by simp [results, Try.results19, go_sem]) rfl ⟨rfl, HB.out⟩
end Go.Proofs.Ytkggphfekeiejaa

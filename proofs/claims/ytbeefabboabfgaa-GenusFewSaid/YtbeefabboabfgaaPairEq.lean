/- slices.Equal of two lists of pairs. -/
import Derived.Test.YtbeefabboabfgaaPairSort
import Derived.ChangeKeysEq
import Derived.Laws.StructEq
namespace Go.Proofs.Ytbeefabboabfgaa
set_option linter.unusedVariables false
set_option linter.unusedSimpArgs false
open Go.RowKit
theorem part_two (a b : Value) (w : World) : (part 3 #[a, b] 0).run Try.prog w = .ok a w ∧ (part 3 #[a, b] 1).run Try.prog w = .ok b w := ⟨by kernel_rfl, by kernel_rfl⟩
theorem two_equal (x y x' y' : Int) (w : World) :
    (Op.equalIn 10000 57 (.agg #[.int .i64 x, .int .i64 y]) (.agg #[.int .i64 x', .int .i64 y'])).run Try.prog w = .ok (x == x' && y == y') w := by
  obtain ⟨i0, hi, -⟩ := info_parts info3
  have hc : Try.prog.cellsOf 3 = 1 := by kernel_rfl
  have hu : Try.prog.underlying 3 = some (.int .i64) := by kernel_rfl
  rw [run_equalIn_array (P := Try.prog) w 9999 (t := 57) (e := 3) (n := 2) (i := i0) _ _ (by kernel_rfl) hi, hc]
  simp only [List.range_succ, List.range_zero, List.nil_append, List.cons_append, Op.eqItems, Sem.run_bind, Nat.mul_one, (part_two _ _ _).1, (part_two _ _ _).2, Result.andThen_ok, run_equalIn_int (P := Try.prog) _ _ _ _ _ _ _ hu]
  by_cases h1 : x = x' <;> by_cases h2 : y = y' <;> simp [h1, h2, (part_two _ _ _).1, (part_two _ _ _).2, run_equalIn_int (P := Try.prog) _ _ _ _ _ _ _ hu]
theorem E!_ext {E F : List (Int × Int)} (hl : E.length = F.length) (h : ∀ i, i < E.length → E! E i = E! F i) : E = F := by
  apply List.ext_getElem hl
  intro i h1 h2
  have := h i h1
  simpa [E!, h1, h2] using this
set_option maxRecDepth 100000 in
set_option maxHeartbeats 1000000 in
theorem pairs_equal (ao bo : Option Addr) (cap cap' : Nat) (E F : List (Int × Int)) (w : World) (hl : E.length ≤ 1000000) (hl' : F.length ≤ 1000000) (hE : EdgesAt w ao E) (hF : EdgesAt w bo F) :
    Calls Try.prog 28 #[.slice ao E.length cap, .slice bo F.length cap'] w fun e w' => e = .returned (.bool (decide (E = F))) ∧ ∃ n, w' = w.drewN n := by
  obtain ⟨m, hm⟩ : ∃ m, m = E.length := ⟨_, rfl⟩
  obtain ⟨m', hm'⟩ : ∃ m, m = F.length := ⟨_, rfl⟩
  rw [← hm] at hl ⊢
  rw [← hm'] at hl' ⊢
  obtain ⟨r, hr⟩ : ∃ r, r = decide (E = F) := ⟨_, rfl⟩
  rw [← hr]
  have HNE := Lib.hid (show m ≠ m' → r = false from fun h => by rw [hr]; exact decide_eq_false fun e => h (by rw [hm, hm', e]))
  have HN := Lib.hid (show ∀ k, k < m → E! E k ≠ E! F k → r = false from fun k hk h => by rw [hr]; exact decide_eq_false fun e => h (by rw [e]))
  have HY := Lib.hid (show m = m' → (∀ k, k < m → E! E k = E! F k) → r = true from fun h1 h2 => by rw [hr]; exact decide_eq_true (E!_ext (by omega) (by rw [← hm]; exact h2)))
  have HE := Lib.hid (show ∀ k, k < m → ∃ b off, ao = some ⟨b, off, none⟩ ∧ b < w.heap.size ∧ w.cell? ⟨b, off + k * 2, none⟩ = some (.int .i64 (E! E k).1) ∧ w.cell? ⟨b, off + k * 2 + 1, none⟩ = some (.int .i64 (E! E k).2) from fun k hk => by
    obtain ⟨b, off, h1, h2, h3⟩ := hE (List.ne_nil_of_length_pos (by omega))
    exact ⟨b, off, h1, h2, h3 k (by omega)⟩)
  have HF := Lib.hid (show ∀ k, k < m' → ∃ b off, bo = some ⟨b, off, none⟩ ∧ b < w.heap.size ∧ w.cell? ⟨b, off + k * 2, none⟩ = some (.int .i64 (E! F k).1) ∧ w.cell? ⟨b, off + k * 2 + 1, none⟩ = some (.int .i64 (E! F k).2) from fun k hk => by
    obtain ⟨b, off, h1, h2, h3⟩ := hF (List.ne_nil_of_length_pos (by omega))
    exact ⟨b, off, h1, h2, h3 k (by omega)⟩)
  obtain ⟨ε, hε⟩ : ∃ ε, ε = E! E := ⟨_, rfl⟩
  obtain ⟨φ, hφ⟩ : ∃ ε, ε = E! F := ⟨_, rfl⟩
  rw [← hε] at HN HY HE
  rw [← hφ] at HN HY HF
  clear hE hF hr hm hm' hε hφ
  by_cases hmm : m = m'
  case neg =>
    have d0 : ((m : Int) != (m' : Int)) = true := by simp; omega
    have HR := Lib.hid (HNE.out hmm)
    clear hmm
    go_enter Try.func28, Try.ntmps28
    go_wp2
    exact bodyPost_ret (v := .bool false) (by simp [results, Try.results28, go_sem]) rfl ⟨by rw [HR.out], 0, rfl⟩
  case pos =>
  subst hmm
  go_enter Try.func28, Try.ntmps28
  go_wp2
  go_loopw [13] (fun i ws => ∃ k : Nat, k ≤ m ∧ i = .int .i64 k ∧ (∃ n, ws = w.drewN n) ∧ Hid (∀ j, j < k → ε j = φ j)) (fun i _ => m - (intOf i).toNat)
  case atStart => exact ⟨0, by omega, rfl, ⟨0, rfl⟩, fun j hj => by omega⟩
  case round =>
  obtain ⟨k, hk, rfl, ⟨q, hws⟩, hall⟩ := hrel
  rw [hws]
  clear hws
  by_cases hlt : k < m
  case neg =>
    have HR := Lib.hid (HY.out trivial fun j hj => hall.out j (by omega))
    go_wp2
    exact bodyPost_ret (v := .bool true) (by simp [results, Try.results28, go_sem]) rfl ⟨by rw [HR.out], q, rfl⟩
  case pos =>
  obtain ⟨b, off, rfl, hb, g0, g1⟩ := HE.out k hlt
  obtain ⟨b', off', rfl, hb', g0', g1'⟩ := HF.out k hlt
  obtain ⟨x, hx⟩ : ∃ x, x = ε k := ⟨_, rfl⟩
  obtain ⟨y, hy⟩ : ∃ x, x = φ k := ⟨_, rfl⟩
  rw [← hx] at g0 g1
  rw [← hy] at g0' g1'
  obtain ⟨x0, x1⟩ := x
  obtain ⟨y0, y1⟩ := y
  obtain ⟨t, ht⟩ : ∃ t, t = (x0 == y0 && x1 == y1) := ⟨_, rfl⟩
  have hte : ∀ w, (Op.equalIn 10000 57 (.agg #[.int .i64 x0, .int .i64 x1]) (.agg #[.int .i64 y0, .int .i64 y1])).run Try.prog w = .ok t w := fun w => by rw [ht]; exact two_equal x0 x1 y0 y1 w
  have HT := Lib.hid (show (t = false → r = false) ∧ (t = true → ε k = φ k) from ⟨fun h => HN.out k hlt (fun e => by rw [← hx, ← hy] at e; injection e with e1 e2; rw [h, e1, e2] at ht; simp at ht), fun h => by
    rw [h] at ht
    simp only [Bool.true_eq, Bool.and_eq_true, beq_iff_eq] at ht
    rw [← hx, ← hy, ht.1, ht.2]⟩)
  have hk0 : (0 : Int) ≤ (k : Int) := by omega
  have hk1 : (k : Int) < (m : Int) := by omega
  clear hx hy ht
  cases t
  case false =>
    have HR := Lib.hid (HT.out.1 rfl)
    go_upto_region 6 with fail
    go_quiet (fail)
    go_wp2
    exact bodyPost_ret (v := .bool false) (by simp [results, Try.results28, go_sem]) rfl ⟨by rw [HR.out], _, rfl⟩
  case true =>
    have HR := Lib.hid (show ∀ j, j < k + 1 → ε j = φ j from fun j hj => by
      by_cases e : j = k
      · rw [e]; exact HT.out.2 rfl
      · exact hall.out j (by omega))
    go_upto_region 6 with fail
    go_quiet (fail)
    go_wp2
    go_roundw
    case rel => exact ⟨k + 1, by omega, by go_num, ⟨_, rfl⟩, HR⟩
    case measure => simp [intOf]; omega
end Go.Proofs.Ytbeefabboabfgaa

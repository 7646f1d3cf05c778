/- gypsumref13.Neighbours: have two triangles an edge in common, the one this way, the other one the other way round? -/
import Derived.Test.YtkggphfekeiejaaRowl
import Derived.Test.YtkggphfekeiejaaCert1
namespace Go.Proofs.Ytkggphfekeiejaa
set_option linter.unusedVariables false
set_option linter.unusedSimpArgs false
open Go.RowKit
def nbP (t u : Tr) (i k : Nat) : Bool := tg t i == tg u ((k + 1) % 3) && tg t ((i + 1) % 3) == tg u k
def nbB (t u : Tr) : Bool := (List.range 3).any fun i => (List.range 3).any fun k => nbP t u i k
theorem nbB_no {t u : Tr} (h : ∀ i k, i < 3 → k < 3 → nbP t u i k = false) : nbB t u = false := by
  unfold nbB
  simp only [List.any_eq_false, List.mem_range, Bool.not_eq_true]
  exact fun i hi k hk => h i k hi hk
theorem nbB_yes {t u : Tr} {i k : Nat} (hi : i < 3) (hk : k < 3) (h : nbP t u i k = true) : nbB t u = true := by
  unfold nbB
  simp only [List.any_eq_true, List.mem_range]
  exact ⟨i, hi, k, hk, h⟩
def tc (t : Tr) : List Value := [.int .i64 t.1, .int .i64 t.2.1, .int .i64 t.2.2]
theorem tc_get (t : Tr) {j : Nat} (hj : j < 3) : (tc t)[j]? = some (.int .i64 (tg t j)) := by
  match j, hj with
  | 0, _ => rfl
  | 1, _ => rfl
  | 2, _ => rfl
set_option maxRecDepth 100000 in
set_option maxHeartbeats 1000000 in
theorem nb_tri (x y z a b c : Int) (w : World) :
    Calls Try.prog 35 #[.agg #[.int .i64 x, .int .i64 y, .int .i64 z], .agg #[.int .i64 a, .int .i64 b, .int .i64 c]] w fun e w' => e = .returned (.bool (nbB (x, y, z) (a, b, c))) ∧ Below w.heap.size w w' := by
  obtain ⟨r, hr⟩ : ∃ r, r = nbB (x, y, z) (a, b, c) := ⟨_, rfl⟩
  rw [← hr]
  have HR := Lib.hid hr
  have H1 := Lib.hid ((RowIs.made w 49 (tc (x, y, z))).alloc (.cells #[.int .i64 a, .int .i64 b, .int .i64 c] 49))
  have H2 := Lib.hid (RowIs.made (w.alloc (.cells #[.int .i64 x, .int .i64 y, .int .i64 z] 49)) 49 (tc (a, b, c)))
  clear hr
  go_enter Try.func35, Try.ntmps35
  go_wp2
  go_loopw [5] (fun v ws => ∃ i : Nat, i ≤ 3 ∧ v = .int .i64 i ∧ (∀ i' k', i' < i → k' < 3 → nbP (x, y, z) (a, b, c) i' k' = false) ∧ RowIs ws w.heap.size 49 (tc (x, y, z)) ∧ RowIs ws (w.heap.size + 1) 49 (tc (a, b, c)) ∧ Below w.heap.size w ws) (fun v _ => 3 - (intOf v).toNat)
  case atStart => exact ⟨0, by omega, rfl, fun _ _ h => by omega, H1.out, by have := H2.out; simp at this; exact this, ((Below.refl _ _).alloc (Nat.le_refl _) _).alloc (by simp) _⟩
  case round =>
    clear H1 H2
    obtain ⟨i, hi, rfl, hno, h1, h2, hb⟩ := hrel
    obtain ⟨W1, rfl⟩ : ∃ W1 : World, W1 = wr := ⟨_, rfl⟩
    have HNO := Lib.hid hno
    have H1 := Lib.hid h1
    have H2 := Lib.hid h2
    have HB := Lib.hid hb
    clear hno h1 h2 hb
    by_cases hi3 : i < 3
    · go_wp2
      go_loopw [6] (fun v ws => ∃ k : Nat, k ≤ 3 ∧ v = .int .i64 k ∧ (∀ k', k' < k → nbP (x, y, z) (a, b, c) i k' = false) ∧ RowIs ws w.heap.size 49 (tc (x, y, z)) ∧ RowIs ws (w.heap.size + 1) 49 (tc (a, b, c)) ∧ Below w.heap.size w ws) (fun v _ => 3 - (intOf v).toNat)
      case atStart => exact ⟨0, by omega, rfl, fun _ h => by omega, H1.out, H2.out, HB.out⟩
      case round =>
        clear H1 H2 HB
        obtain ⟨k, hk, rfl, hn2, h1, h2, hb⟩ := hrel
        obtain ⟨W2, rfl⟩ : ∃ W2 : World, W2 = wr := ⟨_, rfl⟩
        have HN2 := Lib.hid hn2
        have H1 := Lib.hid h1
        have H2 := Lib.hid h2
        have HB := Lib.hid hb
        clear hn2 h1 h2 hb
        by_cases hk3 : k < 3
        · obtain ⟨i1, hi1⟩ : ∃ j, j = (i + 1) % 3 := ⟨_, rfl⟩
          obtain ⟨k1, hk1⟩ : ∃ j, j = (k + 1) % 3 := ⟨_, rfl⟩
          have li : i1 < 3 := by omega
          have lk : k1 < 3 := by omega
          have s1 : ((i : Int) + 1) % 3 = (i1 : Int) := by omega
          have s2 : ((k : Int) + 1) % 3 = (k1 : Int) := by omega
          have p1 := H1.out.cell (tc_get (x, y, z) hi3)
          have p2 := H1.out.cell (tc_get (x, y, z) li)
          have q1 := H2.out.cell (tc_get (a, b, c) hk3)
          have q2 := H2.out.cell (tc_get (a, b, c) lk)
          have HP := Lib.hid (show nbP (x, y, z) (a, b, c) i k = (tg (x, y, z) i == tg (a, b, c) k1 && tg (x, y, z) i1 == tg (a, b, c) k) from by rw [hi1, hk1]; rfl)
          clear hi1 hk1
          obtain ⟨e1, he1⟩ : ∃ e, e = tg (x, y, z) i := ⟨_, rfl⟩
          obtain ⟨e2, he2⟩ : ∃ e, e = tg (x, y, z) i1 := ⟨_, rfl⟩
          obtain ⟨e3, he3⟩ : ∃ e, e = tg (a, b, c) k1 := ⟨_, rfl⟩
          obtain ⟨e4, he4⟩ : ∃ e, e = tg (a, b, c) k := ⟨_, rfl⟩
          rw [← he1] at p1
          rw [← he2] at p2
          rw [← he3] at q2
          rw [← he4] at q1
          rw [← he1, ← he2, ← he3, ← he4] at HP
          clear he1 he2 he3 he4
          cases g1 : e1 == e3
          · have HF := Lib.hid (show nbP (x, y, z) (a, b, c) i k = false from by rw [HP.out, g1]; rfl)
            clear p2 q1 s1
            go_wp2
            go_quiet (fail)
            go_wp2
            go_roundw
            case rel => exact ⟨k + 1, by omega, by go_num, fun k' h => by
              by_cases e : k' = k
              · subst e; exact HF.out
              · exact HN2.out k' (by omega), by first | exact H1.out | exact H1.out.drew1 | exact H1.out.drew _, by first | exact H2.out | exact H2.out.drew1 | exact H2.out.drew _, HB.out.trans ⟨rfl, rfl, rfl, Nat.le_refl _, fun _ _ => rfl⟩⟩
            case measure => simp [intOf]; omega
          · cases g2 : e2 == e4
            · have HF := Lib.hid (show nbP (x, y, z) (a, b, c) i k = false from by rw [HP.out, g1, g2]; rfl)
              go_wp2
              go_quiet (fail)
              go_wp2
              go_roundw
              case rel => exact ⟨k + 1, by omega, by go_num, fun k' h => by
                by_cases e : k' = k
                · subst e; exact HF.out
                · exact HN2.out k' (by omega), by first | exact H1.out | exact H1.out.drew1 | exact H1.out.drew _, by first | exact H2.out | exact H2.out.drew1 | exact H2.out.drew _, HB.out.trans ⟨rfl, rfl, rfl, Nat.le_refl _, fun _ _ => rfl⟩⟩
              case measure => simp [intOf]; omega
            · have HF := Lib.hid (show r = true from by rw [HR.out]; exact nbB_yes hi3 hk3 (by rw [HP.out, g1, g2]; rfl))
              go_wp2
              go_quiet (fail)
              go_wp2
              exact bodyPost_ret (v := .bool true) (by simp [results, Try.results35, go_sem]) rfl ⟨by rw [HF.out], HB.out.trans ⟨rfl, rfl, rfl, Nat.le_refl _, fun _ _ => rfl⟩⟩
        · obtain rfl : k = 3 := by omega
          go_wp2
          go_roundw
          case rel => exact ⟨i + 1, by omega, by go_num, fun i' k' h h' => by
              by_cases e : i' = i
              · subst e; exact HN2.out k' h'
              · exact HNO.out i' k' (by omega) h', H1.out, H2.out, HB.out⟩
          case measure => simp [intOf]; omega
    · obtain rfl : i = 3 := by omega
      have HF := Lib.hid (show r = false from by rw [HR.out]; exact nbB_no HNO.out)
      go_wp2
      exact bodyPost_ret (v := .bool false) (by simp [results, Try.results35, go_sem]) rfl ⟨by rw [HF.out], HB.out⟩
end Go.Proofs.Ytkggphfekeiejaa

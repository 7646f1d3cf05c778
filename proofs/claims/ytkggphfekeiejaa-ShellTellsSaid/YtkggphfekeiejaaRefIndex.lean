/- gypsumref09.index: the list is empty only if the numbers are in range. -/
import Derived.Test.YtkggphfekeiejaaRefPairs
import Derived.Test.YtkggphfekeiejaaFacing
namespace Go.Proofs.Ytkggphfekeiejaa
set_option linter.unusedVariables false
set_option linter.unusedSimpArgs false
open Go.RowKit
theorem VIn.of_three {N : Int} {T : List Tr} (h : ∀ i, i < T.length → ∀ j, j < 3 → 0 ≤ tg (T! T i) j ∧ tg (T! T i) j < N) : VIn N T := fun i hi j => by
  match j with
  | 0 => exact h i hi 0 (by omega)
  | 1 => exact h i hi 1 (by omega)
  | 2 => exact h i hi 2 (by omega)
  | j + 3 => exact h i hi 2 (by omega)
set_option maxRecDepth 100000 in
set_option maxHeartbeats 1000000 in
theorem rindex_any (N : Int) (ao : Option Addr) (cap : Nat) (T : List Tr) (w : World) (hT : TrisAt w ao T) (hl : T.length ≤ 10000) :
    Calls Try.prog 57 #[.agg #[.int .i64 N, .slice ao T.length cap]] w fun e w' => ∃ v, e = .returned v ∧
      Wits w' w.heap.size v (0 ≤ N ∧ N ≤ 4096 ∧ T.length ≤ 8192 ∧ VIn N T) ∧ Below w.heap.size w w' := by
  obtain ⟨i0, hi, hz0, hz1, hz2⟩ := info_parts info95
  obtain ⟨len, hlen⟩ : ∃ n, n = T.length := ⟨_, rfl⟩
  rw [← hlen] at hl ⊢
  have HL := Lib.hid hlen
  have HT := Lib.hid hT
  clear hlen hT
  by_cases hbig : N < 0 ∨ 4096 < N ∨ 8192 < len
  · have hfin : ∀ g : Nat, RowIs (((w.alloc (.cells #[.int .i64 N, .slice ao len cap] 24)).alloc (.cells #[.int .i64 1, .int .i64 (-1), .int .i64 0] 95))) (w.heap.size + 1) 95 [.int .i64 1, .int .i64 (-1), .int .i64 0] := fun _ => by
      have := RowIs.made (w.alloc (.cells #[.int .i64 N, .slice ao len cap] 24)) 95 [.int .i64 1, .int .i64 (-1), .int .i64 0]
      simpa using this
    have HF := Lib.hid ((hfin 0).owns (base := w.heap.size) (size := 3) (n := 1) (by omega) rfl (by decide))
    have HB := Lib.hid (((Below.refl w.heap.size w).alloc (Nat.le_refl _) (.cells #[.int .i64 N, .slice ao len cap] 24)).alloc (by simp) (.cells #[.int .i64 1, .int .i64 (-1), .int .i64 0] 95))
    clear hfin
    by_cases h1 : N < 0
    · clear hbig
      go_enter Try.func57, Try.ntmps57
      go_wp2
      go_ret
      exact ⟨_, rfl, ⟨1, _, HF.out, by omega, fun h => by omega⟩, HB.out⟩
    · have d1 : decide (N < 0) = false := by simpa using h1
      by_cases h2 : 4096 < N
      · clear hbig
        go_enter Try.func57, Try.ntmps57
        go_wp2
        go_ret
        exact ⟨_, rfl, ⟨1, _, HF.out, by omega, fun h => by omega⟩, HB.out⟩
      · have d2 : decide (4096 < N) = false := by simpa using h2
        have h3 : 8192 < len := by omega
        clear hbig
        go_enter Try.func57, Try.ntmps57
        go_wp2
        go_ret
        exact ⟨_, rfl, ⟨1, _, HF.out, by omega, fun h => by omega⟩, HB.out⟩
  · have h1 : ¬ N < 0 := fun h => hbig (.inl h)
    have h2 : ¬ 4096 < N := fun h => hbig (.inr (.inl h))
    have h3 : ¬ 8192 < len := fun h => hbig (.inr (.inr h))
    have d1 : decide (N < 0) = false := by simpa using h1
    have d2 : decide (4096 < N) = false := by simpa using h2
    have d3 : decide (8192 < len) = false := by simpa using h3
    clear hbig
    go_enter Try.func57, Try.ntmps57
    go_wp2
    clear d1 d2 d3
    go_loopw [4, 3] (fun i v ws => ∃ (k m : Nat) (xs : List Value), k ≤ len ∧ m ≤ k ∧ i = .int .i64 k ∧ ws.ownsRow (w.heap.size + 1) 95 3 v m xs ∧ (m = 0 → ∀ i, i < k → ∀ j, j < 3 → 0 ≤ tg (T! T i) j ∧ tg (T! T i) j < N) ∧
        Below (w.heap.size + 1) (w.alloc (.cells #[.int .i64 N, .slice ao len cap] 24)) ws) (fun i _ _ => len - (intOf i).toNat)
    case atStart => exact ⟨0, 0, [], by omega, by omega, rfl, World.ownsRow_nil _ _ _ _, fun _ i h => by omega, Below.refl _ _⟩
    case round =>
      obtain ⟨k, m, xs, hk, hm, rfl, hown, hno, hb⟩ := hrel
      have HW := Lib.hid hown
      have HNO := Lib.hid hno
      obtain ⟨hc0, hc1, hbw, hsz⟩ := box_soup hb
      have HB := Lib.hid hb
      clear hown hno hb
      by_cases hlt : k < len
      · have HAT := Lib.hid (fun (j : Nat) (hj : j < 3) => HT.out.at (i := k) (j := j) (by have := HL.out; omega) hj)
        obtain ⟨b, off, rfl, -, hbs⟩ := HAT.out 0 (by omega)
        go_wp2
        go_loopw [6, 5] (fun i v ys => ∃ (j : Nat) (β : Bool), j ≤ 3 ∧ i = .int .i64 j ∧ v = .bool β ∧ (β = false → ∀ l, l < j → 0 ≤ tg (T! T k) l ∧ tg (T! T k) l < N) ∧ ∃ q, ys = wr.drewN q) (fun i _ _ => 3 - (intOf i).toNat)
        case atStart => exact ⟨0, false, by omega, rfl, rfl, fun _ l h => by omega, 0, rfl⟩
        case round =>
          obtain ⟨j, β, hj, rfl, rfl, hbad, q, rfl⟩ := hrel
          have HBad := Lib.hid hbad
          clear hbad
          by_cases hj3 : j < 3
          · obtain ⟨b', off', hE, hcell, -⟩ := HAT.out j hj3
            cases hE
            obtain ⟨x, hx⟩ : ∃ x, Hid (tg (T! T k) j = x) := ⟨_, rfl⟩
            rw [hx.out] at hcell
            have hcx : wr.cell? ⟨b, off + k * 3 + j, none⟩ = some (.int .i64 x) := (hbw.cell (p := ⟨b, _, none⟩) hbs).trans hcell
            have hk' : (k : Int) < len := by omega
            have hj' : (j : Int) < 3 := by omega
            clear hcell
            cases β
            · by_cases hx0 : x < 0
              · have dx : decide (x < 0) = true := by simpa using hx0
                go_wp2
                go_quiet (fail)
                go_wp2
                go_roundw
                case rel => exact ⟨j + 1, true, by omega, by go_num, rfl, (fun h => by cases h), _, rfl⟩
                case measure => simp [intOf]; omega
              · have dx : decide (x < 0) = false := by simpa using hx0
                have hOK := Lib.hid (show decide (N ≤ x) = false → ∀ l, l < j + 1 → 0 ≤ tg (T! T k) l ∧ tg (T! T k) l < N from fun h l hl => by
                  by_cases e : l = j
                  · subst e
                    rw [hx.out]
                    have : ¬ N ≤ x := by simpa using h
                    omega
                  · exact HBad.out rfl l (by omega))
                obtain ⟨γ, hγ⟩ : ∃ γ, decide (N ≤ x) = γ := ⟨_, rfl⟩
                rw [hγ] at hOK
                go_wp2
                go_quiet (fail)
                go_wp2
                go_roundw
                case rel => exact ⟨j + 1, γ, by omega, by go_num, rfl, hOK.out, _, rfl⟩
                case measure => simp [intOf]; omega
            · go_wp2
              go_quiet (fail)
              go_wp2
              go_roundw
              case rel => exact ⟨j + 1, true, by omega, by go_num, rfl, (fun h => by cases h), _, rfl⟩
              case measure => simp [intOf]; omega
          · obtain rfl : j = 3 := by omega
            have HW' := Lib.hid (show (wr.drewN q).ownsRow _ _ _ _ _ _ from HW.out)
            have HB' := Lib.hid (HB.out.trans (show Below _ wr (wr.drewN q) from ⟨rfl, rfl, rfl, Nat.le_refl _, fun _ _ => rfl⟩))
            cases β
            · go_wp2
              go_roundw
              case rel => exact ⟨k + 1, m, xs, by omega, by omega, by go_num, HW'.out, fun h i hi j hj => by
                by_cases e : i = k
                · subst e; exact HBad.out rfl j hj
                · exact HNO.out h i (by omega) j hj, HB'.out⟩
              case measure => simp [intOf]; omega
            · go_wp2_with (at_builtin; refine wpList_append_new _ rfl _ _ 84 rfl (w.heap.size + 1) 95 i0 _ 3 24 (by kernel_rfl) hi hz0 hz1 hz2 rfl (by decide) _ _ _ rfl HW'.out _ _ _ rfl (by first | rfl | simp) rfl ?_ ?_ ?_ ?_ ?_)
              · exact ⟨rfl, rfl, rfl⟩
              · unfold maxLen; omega
              · omega
              · simp; omega
              · intro v' w3 hown3 hbel hgr
                have HW3 := Lib.hid hown3
                have HB3 := Lib.hid (hbel (w.heap.size + 1) _ (Nat.le_refl _) HB'.out)
                clear hown3 hbel hgr
                go_wp2
                go_roundw
                case rel => exact ⟨k + 1, m + 1, _, by omega, by omega, by go_num, HW3.out, fun h => by omega, HB3.out⟩
                case measure => simp [intOf]; omega
      · obtain rfl : len = k := by omega
        go_wp2
        go_ret
        exact ⟨_, rfl, ⟨m, xs, owns_base HW.out (by omega), by omega, fun h => ⟨by omega, by omega, by have := HL.out; omega, VIn.of_three (fun i hi => HNO.out h i (by have := HL.out; omega))⟩⟩, hbw⟩
end Go.Proofs.Ytkggphfekeiejaa

/- gypsumref09.pairs, for kind 4 (mirrored): the list is empty only if no two triangles have the same vertices. -/
import Derived.Test.YtkggphfekeiejaaRefPairs
namespace Go.Proofs.Ytkggphfekeiejaa
set_option linter.unusedVariables false
set_option linter.unusedSimpArgs false
open Go.RowKit
def mirB (t u : Tr) : Bool := hasB u t.1 && hasB u t.2.1 && hasB u t.2.2
set_option maxRecDepth 100000 in
set_option maxHeartbeats 1000000 in
theorem pairs4 (N : Int) (ao : Option Addr) (cap : Nat) (T : List Tr) (w : World) (hT : TrisAt w ao T) (hl : T.length ≤ 10000) :
    Calls Try.prog 58 #[.agg #[.int .i64 N, .slice ao T.length cap], .int .i64 4] w fun e w' => ∃ v m xs, e = .returned v ∧
      w'.ownsRow w.heap.size 95 3 v m xs ∧ m ≤ 10000 * 10000 ∧ (m = 0 → ∀ b a, b < T.length → a < b → mirB (T! T a) (T! T b) = false) ∧ Below w.heap.size w w' := by
  obtain ⟨i0, hi, hz0, hz1, hz2⟩ := info_parts info95
  obtain ⟨len, hlen⟩ : ∃ n, n = T.length := ⟨_, rfl⟩
  rw [← hlen] at hl ⊢
  have HL := Lib.hid hlen
  have HT := Lib.hid hT
  clear hlen hT
  go_enter Try.func58, Try.ntmps58
  go_wp2
  go_loopw [6, 5] (fun i v ws => ∃ (k m : Nat) (xs : List Value), k ≤ len ∧ m ≤ 10000 * k ∧ i = .int .i64 k ∧ ws.ownsRow (w.heap.size + 1) 95 3 v m xs ∧ (m = 0 → ∀ b a, b < k → a < b → mirB (T! T a) (T! T b) = false) ∧
      ws.cell? ⟨w.heap.size, 1, none⟩ = some (.slice ao len cap) ∧ Below w.heap.size w ws ∧ w.heap.size < ws.heap.size) (fun i _ _ => len - (intOf i).toNat)
  case atStart => exact ⟨0, 0, [], by omega, by omega, rfl, World.ownsRow_nil _ _ _ _, fun _ b a h => by omega, (RowIs.made w 24 [_, _]).cell (i := 1) rfl, (Below.refl _ _).alloc (Nat.le_refl _) _, by simp⟩
  case round =>
    obtain ⟨k, m, xs, hk, hm, rfl, hown, hno, hcell, hb, hsz⟩ := hrel
    have HW := Lib.hid hown
    have HNO := Lib.hid hno
    have HB := Lib.hid hb
    clear hown hno hb
    by_cases hlt : k < len
    · go_wp2
      go_loopw [7, 5] (fun i v xs => ∃ (j m : Nat) (ys : List Value), j ≤ k ∧ m ≤ 10000 * k + j ∧ i = .int .i64 j ∧ xs.ownsRow (w.heap.size + 1) 95 3 v m ys ∧
          (m = 0 → (∀ b a, b < k → a < b → mirB (T! T a) (T! T b) = false) ∧ ∀ a, a < j → mirB (T! T a) (T! T k) = false) ∧
          xs.cell? ⟨w.heap.size, 1, none⟩ = some (.slice ao len cap) ∧ Below w.heap.size w xs ∧ w.heap.size < xs.heap.size) (fun i _ _ => k - (intOf i).toNat)
      case atStart => exact ⟨0, m, xs, by omega, by omega, rfl, HW.out, fun h => ⟨HNO.out h, fun a ha => by omega⟩, hcell, HB.out, hsz⟩
      case round =>
        clear hcell HW HNO HB
        obtain ⟨j, m, ys, hj, hm, rfl, hown, hno, hcell, hb, hsz⟩ := hrel
        by_cases hjk : j < k
        · obtain ⟨b, off, x, y, z, rfl, ht, g0, g1, g2, hbs, hbs'⟩ := HT.out.get (Nat.le_refl _) hb (i := j) (by have := HL.out; omega)
          obtain ⟨b', off', x', y', z', hE, ht', g0', g1', g2', -, -⟩ := HT.out.get (Nat.le_refl _) hb (i := k) (by have := HL.out; omega)
          cases hE
          have HW := Lib.hid hown
          have HNO := Lib.hid hno
          have HB := Lib.hid hb
          clear hown hno hb
          have hjl : j ≤ 10000 * k + j := by omega
          have q1 := fun w => has_tri x' y' z' x w
          have q2 := fun w => has_tri x' y' z' y w
          have q3 := fun w => has_tri x' y' z' z w
          have hmir : mirB (x, y, z) (x', y', z') = (hasB (x', y', z') x && hasB (x', y', z') y && hasB (x', y', z') z) := rfl
          cases h1 : hasB (x', y', z') x
          · skip
            rw [h1] at q1
            have C1 := Lib.hid q1
            clear q1 q2 q3
            have HF := Lib.hid (show mirB (x, y, z) (x', y', z') = false from by rw [hmir, h1]; simp)
            clear hmir h1
            go_wp2
            go_region
            all_goals
              go_wp2_with fail
              refine (C1.out _).mono ?_
              rintro e u1 ⟨rfl, hb1⟩
              have S1 := Lib.hid (show Below wr.heap.size wr u1 from (((Below.refl _ _).alloc (Nat.le_refl _) _).alloc (by simp) _).drew.trans (hb1.mono (by simp; omega)))
              have Q1 := Lib.hid hb1
              clear hb1
              have Hst := S1.out
              have HB2 := Lib.hid (below_more HB.out Hst (by omega))
              have HW2 := Lib.hid (owns_below HW.out Hst)
              have hcb : u1.cell? ⟨w.heap.size, 1, none⟩ = some (.slice (some ⟨b, off, none⟩) len cap) := (Hst.cell (p := ⟨w.heap.size, 1, none⟩) hsz).trans hcell
              have hs2 := Hst.size
              clear Hst
              go_wp2
              go_roundw
              case rel => exact ⟨j + 1, m, ys, by omega, by omega, by go_num, HW2.out, fun h => ⟨(HNO.out h).1, fun a ha => by
                by_cases e : a = j
                · subst e; rw [ht.out, ht'.out]; exact HF.out
                · exact (HNO.out h).2 a (by omega)⟩, hcb, HB2.out, by omega⟩
              case measure => simp [intOf]; omega
          · cases h2 : hasB (x', y', z') y
            · skip
              rw [h1] at q1
              have C1 := Lib.hid q1
              rw [h2] at q2
              have C2 := Lib.hid q2
              clear q1 q2 q3
              have HF := Lib.hid (show mirB (x, y, z) (x', y', z') = false from by rw [hmir, h1, h2]; simp)
              clear hmir h1 h2
              go_wp2
              go_region
              all_goals
                go_wp2_with fail
                refine (C1.out _).mono ?_
                rintro e u1 ⟨rfl, hb1⟩
                have S1 := Lib.hid (show Below wr.heap.size wr u1 from (((Below.refl _ _).alloc (Nat.le_refl _) _).alloc (by simp) _).drew.trans (hb1.mono (by simp; omega)))
                have Q1 := Lib.hid hb1
                clear hb1
                obtain ⟨hc1, hf1⟩ := bcell Q1.out
                go_wp2_with fail
                refine (C2.out _).mono ?_
                rintro e u2 ⟨rfl, hb2⟩
                have S2 := Lib.hid (below_more S1.out hb2 S1.out.size)
                have Q2 := Lib.hid (below_more Q1.out hb2 Q1.out.size)
                clear hc1 hf1
                clear hb2
                have Hst := S2.out
                have HB2 := Lib.hid (below_more HB.out Hst (by omega))
                have HW2 := Lib.hid (owns_below HW.out Hst)
                have hcb : u2.cell? ⟨w.heap.size, 1, none⟩ = some (.slice (some ⟨b, off, none⟩) len cap) := (Hst.cell (p := ⟨w.heap.size, 1, none⟩) hsz).trans hcell
                have hs2 := Hst.size
                clear Hst
                go_wp2
                go_roundw
                case rel => exact ⟨j + 1, m, ys, by omega, by omega, by go_num, HW2.out, fun h => ⟨(HNO.out h).1, fun a ha => by
                  by_cases e : a = j
                  · subst e; rw [ht.out, ht'.out]; exact HF.out
                  · exact (HNO.out h).2 a (by omega)⟩, hcb, HB2.out, by omega⟩
                case measure => simp [intOf]; omega
            · cases h3 : hasB (x', y', z') z
              · skip
                rw [h1] at q1
                have C1 := Lib.hid q1
                rw [h2] at q2
                have C2 := Lib.hid q2
                rw [h3] at q3
                have C3 := Lib.hid q3
                clear q1 q2 q3
                have HF := Lib.hid (show mirB (x, y, z) (x', y', z') = false from by rw [hmir, h1, h2, h3]; simp)
                clear hmir h1 h2 h3
                go_wp2
                go_region
                all_goals
                  go_wp2_with fail
                  refine (C1.out _).mono ?_
                  rintro e u1 ⟨rfl, hb1⟩
                  have S1 := Lib.hid (show Below wr.heap.size wr u1 from (((Below.refl _ _).alloc (Nat.le_refl _) _).alloc (by simp) _).drew.trans (hb1.mono (by simp; omega)))
                  have Q1 := Lib.hid hb1
                  clear hb1
                  obtain ⟨hc1, hf1⟩ := bcell Q1.out
                  go_wp2_with fail
                  refine (C2.out _).mono ?_
                  rintro e u2 ⟨rfl, hb2⟩
                  have S2 := Lib.hid (below_more S1.out hb2 S1.out.size)
                  have Q2 := Lib.hid (below_more Q1.out hb2 Q1.out.size)
                  clear hc1 hf1
                  clear hb2
                  obtain ⟨hc2, hf2⟩ := bcell Q2.out
                  go_wp2_with fail
                  refine (C3.out _).mono ?_
                  rintro e u3 ⟨rfl, hb3⟩
                  have S3 := Lib.hid (below_more S2.out hb3 S2.out.size)
                  have Q3 := Lib.hid (below_more Q2.out hb3 Q2.out.size)
                  clear hc2 hf2
                  clear hb3
                  have Hst := S3.out
                  have HB2 := Lib.hid (below_more HB.out Hst (by omega))
                  have HW2 := Lib.hid (owns_below HW.out Hst)
                  have hcb : u3.cell? ⟨w.heap.size, 1, none⟩ = some (.slice (some ⟨b, off, none⟩) len cap) := (Hst.cell (p := ⟨w.heap.size, 1, none⟩) hsz).trans hcell
                  have hs2 := Hst.size
                  clear Hst
                  go_wp2
                  go_roundw
                  case rel => exact ⟨j + 1, m, ys, by omega, by omega, by go_num, HW2.out, fun h => ⟨(HNO.out h).1, fun a ha => by
                    by_cases e : a = j
                    · subst e; rw [ht.out, ht'.out]; exact HF.out
                    · exact (HNO.out h).2 a (by omega)⟩, hcb, HB2.out, by omega⟩
                  case measure => simp [intOf]; omega
              · skip
                rw [h1] at q1
                have C1 := Lib.hid q1
                rw [h2] at q2
                have C2 := Lib.hid q2
                rw [h3] at q3
                have C3 := Lib.hid q3
                clear q1 q2 q3
                clear hmir h1 h2 h3
                go_wp2
                go_region
                all_goals
                  go_wp2_with fail
                  refine (C1.out _).mono ?_
                  rintro e u1 ⟨rfl, hb1⟩
                  have S1 := Lib.hid (show Below wr.heap.size wr u1 from (((Below.refl _ _).alloc (Nat.le_refl _) _).alloc (by simp) _).drew.trans (hb1.mono (by simp; omega)))
                  have Q1 := Lib.hid hb1
                  clear hb1
                  obtain ⟨hc1, hf1⟩ := bcell Q1.out
                  go_wp2_with fail
                  refine (C2.out _).mono ?_
                  rintro e u2 ⟨rfl, hb2⟩
                  have S2 := Lib.hid (below_more S1.out hb2 S1.out.size)
                  have Q2 := Lib.hid (below_more Q1.out hb2 Q1.out.size)
                  clear hc1 hf1
                  clear hb2
                  obtain ⟨hc2, hf2⟩ := bcell Q2.out
                  go_wp2_with fail
                  refine (C3.out _).mono ?_
                  rintro e u3 ⟨rfl, hb3⟩
                  have S3 := Lib.hid (below_more S2.out hb3 S2.out.size)
                  have Q3 := Lib.hid (below_more Q2.out hb3 Q2.out.size)
                  clear hc2 hf2
                  clear hb3
                  have Hst := S3.out
                  have HB2 := Lib.hid (below_more HB.out Hst (by omega))
                  have HW2 := Lib.hid (owns_below HW.out Hst)
                  have hcb : u3.cell? ⟨w.heap.size, 1, none⟩ = some (.slice (some ⟨b, off, none⟩) len cap) := (Hst.cell (p := ⟨w.heap.size, 1, none⟩) hsz).trans hcell
                  have hs2 := Hst.size
                  clear Hst
                  go_wp2_with (at_builtin; refine wpList_append_new _ rfl _ _ 84 rfl (w.heap.size + 1) 95 i0 _ 3 24 (by kernel_rfl) hi hz0 hz1 hz2 rfl (by decide) _ _ _ rfl HW2.out _ _ _ rfl (by first | rfl | simp) rfl ?_ ?_ ?_ ?_ ?_)
                  · exact ⟨rfl, rfl, rfl⟩
                  · unfold maxLen; omega
                  · omega
                  · omega
                  · intro v' w3 hown3 hbel hgr
                    have HW3 := Lib.hid hown3
                    have HB3 := Lib.hid (hbel w.heap.size w (by omega) HB2.out)
                    have hc3 : w3.cell? ⟨w.heap.size, 1, none⟩ = some (.slice (some ⟨b, off, none⟩) len cap) := ((hbel (w.heap.size + 1) u3 (Nat.le_refl _) (Below.refl _ _)).cell (p := ⟨w.heap.size, 1, none⟩) (Nat.lt_succ_self _)).trans hcb
                    have hs3 := (hbel (w.heap.size + 1) u3 (Nat.le_refl _) (Below.refl _ _)).size
                    clear hown3 hbel hgr hcb
                    go_wp2
                    go_roundw
                    case rel => exact ⟨j + 1, m + 1, _, by omega, by omega, by go_num, HW3.out, fun h => by omega, hc3, HB3.out, by omega⟩
                    case measure => simp [intOf]; omega
        · obtain rfl : j = k := by omega
          have HW := Lib.hid hown
          have HB := Lib.hid hb
          have HNO := Lib.hid (show m = 0 → ∀ b a, b < j + 1 → a < b → mirB (T! T a) (T! T b) = false from fun h b a hb ha => by
            by_cases e : b = j
            · subst e; exact (hno h).2 a ha
            · exact (hno h).1 b a (by omega) ha)
          clear hown hno hb
          go_wp2
          go_roundw
          case rel => exact ⟨j + 1, m, ys, by omega, by omega, by go_num, HW.out, HNO.out, hcell, HB.out, hsz⟩
          case measure => simp [intOf]; omega
    · obtain rfl : len = k := by omega
      go_wp2
      go_ret
      exact ⟨_, m, xs, rfl, owns_base HW.out (by omega), by omega, HNO.out, HB.out⟩
end Go.Proofs.Ytkggphfekeiejaa

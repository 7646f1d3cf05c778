/- gypsumref09.pairs, for kind 3 (twice): the list is empty only if no two triangles have a directed edge in common. -/
import Derived.Test.YtkggphfekeiejaaRefSmall
import Derived.Test.YtkggphfekeiejaaRowl
import Derived.RegionTactic
import Derived.ChangeAlike
namespace Go.Proofs.Ytkggphfekeiejaa
set_option linter.unusedVariables false
set_option linter.unusedSimpArgs false
open Go.RowKit
theorem info95 : (Try.prog.info? 95).map (fun i => (i.zero, i.size, i.bytes)) = some (some (.agg #[.int .i64 0, .int .i64 0, .int .i64 0]), 3, 24) := by kernel_rfl
/-- A list of witnesses of the call's own; if it is empty, P holds. -/
def Wits (w : World) (base : Nat) (v : Value) (P : Prop) : Prop := ∃ m xs, w.ownsRow base 95 3 v m xs ∧ m ≤ 100000000 ∧ (m = 0 → P)
set_option maxRecDepth 100000 in
set_option maxHeartbeats 1000000 in
theorem pairs3 (N : Int) (ao : Option Addr) (cap : Nat) (T : List Tr) (w : World) (hT : TrisAt w ao T) (hl : T.length ≤ 10000) :
    Calls Try.prog 58 #[.agg #[.int .i64 N, .slice ao T.length cap], .int .i64 3] w fun e w' => ∃ v m xs, e = .returned v ∧
      w'.ownsRow w.heap.size 95 3 v m xs ∧ m ≤ 10000 * 10000 ∧ (m = 0 → ∀ b a, b < T.length → a < b → twB (T! T a) (T! T b) = false) ∧ Below w.heap.size w w' := by
  obtain ⟨i0, hi, hz0, hz1, hz2⟩ := info_parts info95
  obtain ⟨len, hlen⟩ : ∃ n, n = T.length := ⟨_, rfl⟩
  rw [← hlen] at hl ⊢
  have HL := Lib.hid hlen
  have HT := Lib.hid hT
  clear hlen hT
  go_enter Try.func58, Try.ntmps58
  go_wp2
  go_loopw [6, 5] (fun i v ws => ∃ (k m : Nat) (xs : List Value), k ≤ len ∧ m ≤ 10000 * k ∧ i = .int .i64 k ∧ ws.ownsRow (w.heap.size + 1) 95 3 v m xs ∧ (m = 0 → ∀ b a, b < k → a < b → twB (T! T a) (T! T b) = false) ∧
      ws.cell? ⟨w.heap.size, 1, none⟩ = some (.slice ao len cap) ∧ Below w.heap.size w ws ∧ w.heap.size < ws.heap.size) (fun i _ _ => len - (intOf i).toNat)
  case atStart => exact ⟨0, 0, [], by omega, by omega, rfl, World.ownsRow_nil _ _ _ _, fun _ b a h => by omega, (RowIs.made w 24 [_, _]).cell (i := 1) rfl, (Below.refl _ _).alloc (Nat.le_refl _) _, by simp⟩
  case round =>
    obtain ⟨k, m, xs, hk, hm, rfl, hown, hno, hcell, hb, hsz⟩ := hrel
    have HW := Lib.hid hown
    have HNO := Lib.hid hno
    have HB := Lib.hid hb
    clear hown hno hb
    by_cases hlt : k < len
    · go_wp2
      go_loopw [7, 5] (fun i v xs => ∃ (j m : Nat) (ys : List Value), j ≤ k ∧ m ≤ 10000 * k + j ∧ i = .int .i64 j ∧ xs.ownsRow (w.heap.size + 1) 95 3 v m ys ∧
          (m = 0 → (∀ b a, b < k → a < b → twB (T! T a) (T! T b) = false) ∧ ∀ a, a < j → twB (T! T a) (T! T k) = false) ∧
          xs.cell? ⟨w.heap.size, 1, none⟩ = some (.slice ao len cap) ∧ Below w.heap.size w xs ∧ w.heap.size < xs.heap.size) (fun i _ _ => k - (intOf i).toNat)
      case atStart => exact ⟨0, m, xs, by omega, by omega, rfl, HW.out, fun h => ⟨HNO.out h, fun a ha => by omega⟩, hcell, HB.out, hsz⟩
      case round =>
        clear hcell HW HNO HB
        obtain ⟨j, m, ys, hj, hm, rfl, hown, hno, hcell, hb, hsz⟩ := hrel
        by_cases hjk : j < k
        · obtain ⟨b, off, x, y, z, rfl, ht, g0, g1, g2, hbs, hbs'⟩ := HT.out.get (Nat.le_refl _) hb (i := j) (by have := HL.out; omega)
          obtain ⟨b', off', x', y', z', hE, ht', g0', g1', g2', -, -⟩ := HT.out.get (Nat.le_refl _) hb (i := k) (by have := HL.out; omega)
          cases hE
          have HW := Lib.hid hown
          have HNO := Lib.hid hno
          have HB := Lib.hid hb
          clear hown hno hb
          have hjl : j ≤ 10000 * k + j := by omega
          cases htw : twB (x, y, z) (x', y', z')
          · have hct := fun w => twice_tri x y z x' y' z' w
            rw [htw] at hct
            have HC := Lib.hid hct
            have HF := Lib.hid htw
            clear hct htw
            go_wp2
            go_region
            all_goals
              go_wp2_with fail
              refine (HC.out _).mono ?_
              rintro e w2 ⟨rfl, hb2⟩
              have Hst : Below wr.heap.size wr w2 := (((Below.refl _ _).alloc (Nat.le_refl _) _).alloc (by simp) _).drew.trans (hb2.mono (by simp; omega))
              have HB2 := Lib.hid (below_more HB.out Hst (by omega))
              have HW2 := Lib.hid (owns_below HW.out Hst)
              have hc2 : w2.cell? ⟨w.heap.size, 1, none⟩ = some (.slice (some ⟨b, off, none⟩) len cap) := (Hst.cell (p := ⟨w.heap.size, 1, none⟩) hsz).trans hcell
              have hs2 := Hst.size
              clear hb2 Hst
              go_wp2
              go_roundw
              case rel => exact ⟨j + 1, m, ys, by omega, by omega, by go_num, HW2.out, fun h => ⟨(HNO.out h).1, fun a ha => by
                by_cases e : a = j
                · subst e; rw [ht.out, ht'.out]; exact HF.out
                · exact (HNO.out h).2 a (by omega)⟩, hc2, HB2.out, by omega⟩
              case measure => simp [intOf]; omega
          · have hct := fun w => twice_tri x y z x' y' z' w
            rw [htw] at hct
            have HC := Lib.hid hct
            clear hct htw
            go_wp2
            go_region
            all_goals
              go_wp2_with fail
              refine (HC.out _).mono ?_
              rintro e w2 ⟨rfl, hb2⟩
              have Hst : Below wr.heap.size wr w2 := (((Below.refl _ _).alloc (Nat.le_refl _) _).alloc (by simp) _).drew.trans (hb2.mono (by simp; omega))
              have HB2 := Lib.hid (below_more HB.out Hst (by omega))
              have HW2 := Lib.hid (owns_below HW.out Hst)
              have hc2 : w2.cell? ⟨w.heap.size, 1, none⟩ = some (.slice (some ⟨b, off, none⟩) len cap) := (Hst.cell (p := ⟨w.heap.size, 1, none⟩) hsz).trans hcell
              have hs2 := Hst.size
              clear hb2 Hst
              go_wp2_with (at_builtin; refine wpList_append_new _ rfl _ _ 84 rfl (w.heap.size + 1) 95 i0 _ 3 24 (by kernel_rfl) hi hz0 hz1 hz2 rfl (by decide) _ _ _ rfl HW2.out _ _ _ rfl (by first | rfl | simp) rfl ?_ ?_ ?_ ?_ ?_)
              · exact ⟨rfl, rfl, rfl⟩
              · unfold maxLen; omega
              · omega
              · omega
              · intro v' w3 hown3 hbel hgr
                have HW3 := Lib.hid hown3
                have HB3 := Lib.hid (hbel w.heap.size w (by omega) HB2.out)
                have hc3 : w3.cell? ⟨w.heap.size, 1, none⟩ = some (.slice (some ⟨b, off, none⟩) len cap) := ((hbel (w.heap.size + 1) w2 (Nat.le_refl _) (Below.refl _ _)).cell (p := ⟨w.heap.size, 1, none⟩) (Nat.lt_succ_self _)).trans hc2
                have hs3 := (hbel (w.heap.size + 1) w2 (Nat.le_refl _) (Below.refl _ _)).size
                clear hown3 hbel hgr hc2
                go_wp2
                go_roundw
                case rel => exact ⟨j + 1, m + 1, _, by omega, by omega, by go_num, HW3.out, fun h => by omega, hc3, HB3.out, by omega⟩
                case measure => simp [intOf]; omega
        · obtain rfl : j = k := by omega
          have HW := Lib.hid hown
          have HB := Lib.hid hb
          have HNO := Lib.hid (show m = 0 → ∀ b a, b < j + 1 → a < b → twB (T! T a) (T! T b) = false from fun h b a hb ha => by
            by_cases e : b = j
            · subst e; exact (hno h).2 a ha
            · exact (hno h).1 b a (by omega) ha)
          clear hown hno hb
          go_wp2
          go_roundw
          case rel => exact ⟨j + 1, m, ys, by omega, by omega, by go_num, HW.out, HNO.out, hcell, HB.out, hsz⟩
          case measure => simp [intOf]; omega
    · obtain rfl : len = k := by omega
      go_wp2
      go_ret
      exact ⟨_, m, xs, rfl, owns_base HW.out (by omega), by omega, HNO.out, HB.out⟩
end Go.Proofs.Ytkggphfekeiejaa

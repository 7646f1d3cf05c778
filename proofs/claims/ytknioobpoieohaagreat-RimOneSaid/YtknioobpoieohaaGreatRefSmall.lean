/- The reference's small tests on triangles (gypsumref09: Has, Edge, twice). gypsumref09.twice: have two triangles a directed edge in common? gypsumref09.pairs, for kind 3 (twice): the list is empty only if no two triangles have a directed edge in common. gypsumref09.pairs, for kind 4 (mirrored): the list is empty only if no two triangles have the same vertices. gypsumref09.index: the list is empty only if the numbers are in range. -/
import Derived.Test.YtknioobpoieohaaGreatSurfDef
import Derived.Test.YtknioobpoieohaaGreatRowl
import Derived.RegionTactic
import Derived.ChangeAlike
import Derived.Test.YtknioobpoieohaaGreatFacing
namespace Go.Proofs.YtknioobpoieohaaGreat
set_option linter.unusedVariables false
set_option linter.unusedSimpArgs false
open Go.RowKit
set_option maxHeartbeats 400000 in
theorem has_tri (x y z v : Int) (w : World) :
    Calls Tryz.prog 95 #[.agg #[.int .i64 x, .int .i64 y, .int .i64 z], .int .i64 v] w fun e w' => e = .returned (.bool (hasB (x, y, z) v)) ∧ Below w.heap.size w w' := by
  obtain ⟨r, hr⟩ : ∃ r, r = hasB (x, y, z) v := ⟨_, rfl⟩
  rw [← hr]
  unfold hasB at hr
  simp only at hr
  cases h1 : x == v <;> cases h2 : y == v <;> cases h3 : z == v <;> simp only [h1, h2, h3, Bool.or_false, Bool.or_true] at hr <;> subst hr
  all_goals
    go_enter Tryz.func95, Tryz.ntmps95
    go_wp2
    go_ret
    exact ⟨rfl, (Below.refl _ _).alloc (Nat.le_refl _) _⟩
set_option maxHeartbeats 2000000 in
theorem edge_tri (x y z a b : Int) (w : World) :
    Calls Tryz.prog 125 #[.agg #[.int .i64 x, .int .i64 y, .int .i64 z], .int .i64 a, .int .i64 b] w fun e w' => e = .returned (.bool (edgeB (x, y, z) a b)) ∧ Below w.heap.size w w' := by
  obtain ⟨r, hr⟩ : ∃ r, r = edgeB (x, y, z) a b := ⟨_, rfl⟩
  rw [← hr]
  unfold edgeB at hr
  simp only at hr
  cases h1 : x == a <;> cases h2 : y == b <;> cases h3 : y == a <;> cases h4 : z == b <;> cases h5 : z == a <;> cases h6 : x == b <;>
    simp only [h1, h2, h3, h4, h5, h6, Bool.or_false, Bool.or_true, Bool.and_true, Bool.and_false, Bool.and_self] at hr <;> subst hr
  all_goals
    go_enter Tryz.func125, Tryz.ntmps125
    go_wp2
    go_ret
    exact ⟨rfl, (Below.refl _ _).alloc (Nat.le_refl _) _⟩
set_option maxHeartbeats 1000000 in
theorem twice_tri (x y z a b c : Int) (w : World) :
    Calls Tryz.prog 112 #[.agg #[.int .i64 x, .int .i64 y, .int .i64 z], .agg #[.int .i64 a, .int .i64 b, .int .i64 c]] w fun e w' => e = .returned (.bool (twB (x, y, z) (a, b, c))) ∧ Below w.heap.size w w' := by
  obtain ⟨r, hr⟩ : ∃ r, r = twB (x, y, z) (a, b, c) := ⟨_, rfl⟩
  rw [← hr]
  unfold twB at hr
  simp only at hr
  have e1 := fun w => edge_tri a b c x y w
  have e2 := fun w => edge_tri a b c y z w
  have e3 := fun w => edge_tri a b c z x w
  have hb0 : Below w.heap.size w ((w.alloc (.cells #[.int .i64 x, .int .i64 y, .int .i64 z] 65)).alloc (.cells #[.int .i64 a, .int .i64 b, .int .i64 c] 65)) := ((Below.refl _ _).alloc (Nat.le_refl _) _).alloc (by simp) _
  have HB0 := Lib.hid hb0
  clear hb0
  cases h1 : edgeB (a, b, c) x y
  · rw [h1] at hr e1
    simp only [Bool.false_or] at hr
    cases h2 : edgeB (a, b, c) y z
    · rw [h2] at hr e2
      simp only [Bool.false_or] at hr
      rw [← hr] at e3
      have E1 := Lib.hid e1
      have E2 := Lib.hid e2
      have E3 := Lib.hid e3
      clear h1 h2 hr e1 e2 e3
      go_enter Tryz.func112, Tryz.ntmps112
      go_wp2_with fail
      refine (E1.out _).mono ?_
      rintro e w1 ⟨rfl, hb1⟩
      have HB1 := Lib.hid hb1
      obtain ⟨hc, hf⟩ := bcell hb1
      clear hb1
      go_wp2_with fail
      refine (E2.out _).mono ?_
      rintro e w2 ⟨rfl, hb2⟩
      have HB2 := Lib.hid (HB1.out.trans (hb2.mono HB1.out.size))
      clear hb2 hc hf
      obtain ⟨hc, hf⟩ := bcell HB2.out
      go_wp2_with fail
      refine (E3.out _).mono ?_
      rintro e w3 ⟨rfl, hb3⟩
      go_wp2_with fail
      go_ret
      exact ⟨rfl, HB0.out.trans ((HB2.out.mono (by simp; omega)).trans (hb3.mono (by have := HB2.out.size; simp at this; omega)))⟩
    · rw [h2] at hr e2
      simp only [Bool.true_or] at hr
      subst hr
      have E1 := Lib.hid e1
      have E2 := Lib.hid e2
      clear h1 h2 e1 e2 e3
      go_enter Tryz.func112, Tryz.ntmps112
      go_wp2_with fail
      refine (E1.out _).mono ?_
      rintro e w1 ⟨rfl, hb1⟩
      have HB1 := Lib.hid hb1
      obtain ⟨hc, hf⟩ := bcell hb1
      clear hb1
      go_wp2_with fail
      refine (E2.out _).mono ?_
      rintro e w2 ⟨rfl, hb2⟩
      go_wp2_with fail
      go_ret
      exact ⟨rfl, HB0.out.trans ((HB1.out.mono (by simp; omega)).trans (hb2.mono (by have := HB1.out.size; simp at this; omega)))⟩
  · rw [h1] at hr e1
    simp only [Bool.true_or] at hr
    subst hr
    have E1 := Lib.hid e1
    clear h1 e1 e2 e3
    go_enter Tryz.func112, Tryz.ntmps112
    go_wp2_with fail
    refine (E1.out _).mono ?_
    rintro e w1 ⟨rfl, hb1⟩
    go_wp2_with fail
    go_ret
    exact ⟨rfl, HB0.out.trans (hb1.mono (by simp; omega))⟩
theorem info95 : (Tryz.prog.info? 129).map (fun i => (i.zero, i.size, i.bytes)) = some (some (.agg #[.int .i64 0, .int .i64 0, .int .i64 0]), 3, 24) := by kernel_rfl
/-- A list of witnesses of the call's own; it is empty just if P holds. -/
def Wits (w : World) (base : Nat) (v : Value) (P : Prop) : Prop := ∃ m xs, w.ownsRow base 129 3 v m xs ∧ m ≤ 100000000 ∧ (m = 0 ↔ P)
set_option maxRecDepth 100000 in
set_option maxHeartbeats 1000000 in
theorem pairs3 (N : Int) (ao : Option Addr) (cap : Nat) (T : List Tr) (w : World) (hT : TrisAt w ao T) (hl : T.length ≤ 10000) :
    Calls Tryz.prog 94 #[.agg #[.int .i64 N, .slice ao T.length cap], .int .i64 3] w fun e w' => ∃ v m xs, e = .returned v ∧
      w'.ownsRow w.heap.size 129 3 v m xs ∧ m ≤ 10000 * 10000 ∧ (m = 0 ↔ ∀ b a, b < T.length → a < b → twB (T! T a) (T! T b) = false) ∧ Below w.heap.size w w' := by
  obtain ⟨i0, hi, hz0, hz1, hz2⟩ := info_parts info95
  obtain ⟨len, hlen⟩ : ∃ n, n = T.length := ⟨_, rfl⟩
  rw [← hlen] at hl ⊢
  have HL := Lib.hid hlen
  have HT := Lib.hid hT
  clear hlen hT
  go_enter Tryz.func94, Tryz.ntmps94
  go_wp2
  go_loopw [6, 5] (fun i v ws => ∃ (k m : Nat) (xs : List Value), k ≤ len ∧ m ≤ 10000 * k ∧ i = .int .i64 k ∧ ws.ownsRow (w.heap.size + 1) 129 3 v m xs ∧ (m = 0 ↔ ∀ b a, b < k → a < b → twB (T! T a) (T! T b) = false) ∧
      ws.cell? ⟨w.heap.size, 1, none⟩ = some (.slice ao len cap) ∧ Below w.heap.size w ws ∧ w.heap.size < ws.heap.size) (fun i _ _ => len - (intOf i).toNat)
  case atStart => exact ⟨0, 0, [], by omega, by omega, rfl, World.ownsRow_nil _ _ _ _, ⟨fun _ b a h => by omega, fun _ => rfl⟩, (RowIs.made w 24 [_, _]).cell (i := 1) rfl, (Below.refl _ _).alloc (Nat.le_refl _) _, by simp⟩
  case round =>
    obtain ⟨k, m, xs, hk, hm, rfl, hown, hno, hcell, hb, hsz⟩ := hrel
    have HW := Lib.hid hown
    have HNO := Lib.hid hno
    have HB := Lib.hid hb
    clear hown hno hb
    by_cases hlt : k < len
    · go_wp2
      go_loopw [7, 5] (fun i v xs => ∃ (j m : Nat) (ys : List Value), j ≤ k ∧ m ≤ 10000 * k + j ∧ i = .int .i64 j ∧ xs.ownsRow (w.heap.size + 1) 129 3 v m ys ∧
          (m = 0 ↔ (∀ b a, b < k → a < b → twB (T! T a) (T! T b) = false) ∧ ∀ a, a < j → twB (T! T a) (T! T k) = false) ∧
          xs.cell? ⟨w.heap.size, 1, none⟩ = some (.slice ao len cap) ∧ Below w.heap.size w xs ∧ w.heap.size < xs.heap.size) (fun i _ _ => k - (intOf i).toNat)
      case atStart => exact ⟨0, m, xs, by omega, by omega, rfl, HW.out, ⟨fun h => ⟨HNO.out.1 h, fun a ha => by omega⟩, fun h => HNO.out.2 h.1⟩, hcell, HB.out, hsz⟩
      case round =>
        clear hcell HW HNO HB
        obtain ⟨j, m, ys, hj, hm, rfl, hown, hno, hcell, hb, hsz⟩ := hrel
        by_cases hjk : j < k
        · obtain ⟨b, off, x, y, z, rfl, ht, g0, g1, g2, hbs, hbs'⟩ := HT.out.get (Nat.le_refl _) hb (i := j) (by have := HL.out; omega)
          obtain ⟨b', off', x', y', z', hE, ht', g0', g1', g2', -, -⟩ := HT.out.get (Nat.le_refl _) hb (i := k) (by have := HL.out; omega)
          cases hE
          have HW := Lib.hid hown
          have HNO := Lib.hid hno
          have HB := Lib.hid hb
          clear hown hno hb
          have hjl : j ≤ 10000 * k + j := by omega
          cases htw : twB (x, y, z) (x', y', z')
          · have hct := fun w => twice_tri x y z x' y' z' w
            rw [htw] at hct
            have HC := Lib.hid hct
            have HF := Lib.hid htw
            clear hct htw
            go_wp2
            go_region
            all_goals
              go_wp2_with fail
              refine (HC.out _).mono ?_
              rintro e w2 ⟨rfl, hb2⟩
              have Hst : Below wr.heap.size wr w2 := (((Below.refl _ _).alloc (Nat.le_refl _) _).alloc (by simp) _).drew.trans (hb2.mono (by simp; omega))
              have HB2 := Lib.hid (below_more HB.out Hst (by omega))
              have HW2 := Lib.hid (owns_below HW.out Hst)
              have hc2 : w2.cell? ⟨w.heap.size, 1, none⟩ = some (.slice (some ⟨b, off, none⟩) len cap) := (Hst.cell (p := ⟨w.heap.size, 1, none⟩) hsz).trans hcell
              have hs2 := Hst.size
              clear hb2 Hst
              go_wp2
              go_roundw
              case rel => exact ⟨j + 1, m, ys, by omega, by omega, by go_num, HW2.out, ⟨fun h => ⟨(HNO.out.1 h).1, fun a ha => by
                by_cases e : a = j
                · subst e; rw [ht.out, ht'.out]; exact HF.out
                · exact (HNO.out.1 h).2 a (by omega)⟩, fun h => HNO.out.2 ⟨h.1, fun a ha => h.2 a (by omega)⟩⟩, hc2, HB2.out, by omega⟩
              case measure => simp [intOf]; omega
          · have hct := fun w => twice_tri x y z x' y' z' w
            rw [htw] at hct
            have HC := Lib.hid hct
            have HX := Lib.hid htw
            clear hct htw
            go_wp2
            go_region
            all_goals
              go_wp2_with fail
              refine (HC.out _).mono ?_
              rintro e w2 ⟨rfl, hb2⟩
              have Hst : Below wr.heap.size wr w2 := (((Below.refl _ _).alloc (Nat.le_refl _) _).alloc (by simp) _).drew.trans (hb2.mono (by simp; omega))
              have HB2 := Lib.hid (below_more HB.out Hst (by omega))
              have HW2 := Lib.hid (owns_below HW.out Hst)
              have hc2 : w2.cell? ⟨w.heap.size, 1, none⟩ = some (.slice (some ⟨b, off, none⟩) len cap) := (Hst.cell (p := ⟨w.heap.size, 1, none⟩) hsz).trans hcell
              have hs2 := Hst.size
              clear hb2 Hst
              go_wp2_with (at_builtin; refine wpList_append_new _ rfl _ _ 111 rfl (w.heap.size + 1) 129 i0 _ 3 24 (by kernel_rfl) hi hz0 hz1 hz2 rfl (by decide) _ _ _ rfl HW2.out _ _ _ rfl (by first | rfl | simp) rfl ?_ ?_ ?_ ?_ ?_)
              · exact ⟨rfl, rfl, rfl⟩
              · unfold maxLen; omega
              · omega
              · omega
              · intro v' w3 hown3 hbel hgr
                have HW3 := Lib.hid hown3
                have HB3 := Lib.hid (hbel w.heap.size w (by omega) HB2.out)
                have hc3 : w3.cell? ⟨w.heap.size, 1, none⟩ = some (.slice (some ⟨b, off, none⟩) len cap) := ((hbel (w.heap.size + 1) w2 (Nat.le_refl _) (Below.refl _ _)).cell (p := ⟨w.heap.size, 1, none⟩) (Nat.lt_succ_self _)).trans hc2
                have hs3 := (hbel (w.heap.size + 1) w2 (Nat.le_refl _) (Below.refl _ _)).size
                clear hown3 hbel hgr hc2
                go_wp2
                go_roundw
                case rel => exact ⟨j + 1, m + 1, _, by omega, by omega, by go_num, HW3.out, ⟨fun h => by omega, fun h => by have := h.2 j (by omega); rw [ht.out, ht'.out, HX.out] at this; cases this⟩, hc3, HB3.out, by omega⟩
                case measure => simp [intOf]; omega
        · obtain rfl : j = k := by omega
          have HW := Lib.hid hown
          have HB := Lib.hid hb
          have HNO := Lib.hid (show m = 0 ↔ ∀ b a, b < j + 1 → a < b → twB (T! T a) (T! T b) = false from ⟨fun h b a hb ha => by
            by_cases e : b = j
            · subst e; exact (hno.1 h).2 a ha
            · exact (hno.1 h).1 b a (by omega) ha, fun h => hno.2 ⟨fun b a hb ha => h b a (by omega) ha, fun a ha => h j a (by omega) ha⟩⟩)
          clear hown hno hb
          go_wp2
          go_roundw
          case rel => exact ⟨j + 1, m, ys, by omega, by omega, by go_num, HW.out, HNO.out, hcell, HB.out, hsz⟩
          case measure => simp [intOf]; omega
    · obtain rfl : len = k := by omega
      go_wp2
      go_ret
      exact ⟨_, m, xs, rfl, owns_base HW.out (by omega), by omega, HNO.out, HB.out⟩
set_option maxRecDepth 100000 in
set_option maxHeartbeats 1000000 in
theorem pairs4 (N : Int) (ao : Option Addr) (cap : Nat) (T : List Tr) (w : World) (hT : TrisAt w ao T) (hl : T.length ≤ 10000) :
    Calls Tryz.prog 94 #[.agg #[.int .i64 N, .slice ao T.length cap], .int .i64 4] w fun e w' => ∃ v m xs, e = .returned v ∧
      w'.ownsRow w.heap.size 129 3 v m xs ∧ m ≤ 10000 * 10000 ∧ (m = 0 ↔ ∀ b a, b < T.length → a < b → mirB (T! T a) (T! T b) = false) ∧ Below w.heap.size w w' := by
  obtain ⟨i0, hi, hz0, hz1, hz2⟩ := info_parts info95
  obtain ⟨len, hlen⟩ : ∃ n, n = T.length := ⟨_, rfl⟩
  rw [← hlen] at hl ⊢
  have HL := Lib.hid hlen
  have HT := Lib.hid hT
  clear hlen hT
  go_enter Tryz.func94, Tryz.ntmps94
  go_wp2
  go_loopw [6, 5] (fun i v ws => ∃ (k m : Nat) (xs : List Value), k ≤ len ∧ m ≤ 10000 * k ∧ i = .int .i64 k ∧ ws.ownsRow (w.heap.size + 1) 129 3 v m xs ∧ (m = 0 ↔ ∀ b a, b < k → a < b → mirB (T! T a) (T! T b) = false) ∧
      ws.cell? ⟨w.heap.size, 1, none⟩ = some (.slice ao len cap) ∧ Below w.heap.size w ws ∧ w.heap.size < ws.heap.size) (fun i _ _ => len - (intOf i).toNat)
  case atStart => exact ⟨0, 0, [], by omega, by omega, rfl, World.ownsRow_nil _ _ _ _, ⟨fun _ b a h => by omega, fun _ => rfl⟩, (RowIs.made w 24 [_, _]).cell (i := 1) rfl, (Below.refl _ _).alloc (Nat.le_refl _) _, by simp⟩
  case round =>
    obtain ⟨k, m, xs, hk, hm, rfl, hown, hno, hcell, hb, hsz⟩ := hrel
    have HW := Lib.hid hown
    have HNO := Lib.hid hno
    have HB := Lib.hid hb
    clear hown hno hb
    by_cases hlt : k < len
    · go_wp2
      go_loopw [7, 5] (fun i v xs => ∃ (j m : Nat) (ys : List Value), j ≤ k ∧ m ≤ 10000 * k + j ∧ i = .int .i64 j ∧ xs.ownsRow (w.heap.size + 1) 129 3 v m ys ∧
          (m = 0 ↔ (∀ b a, b < k → a < b → mirB (T! T a) (T! T b) = false) ∧ ∀ a, a < j → mirB (T! T a) (T! T k) = false) ∧
          xs.cell? ⟨w.heap.size, 1, none⟩ = some (.slice ao len cap) ∧ Below w.heap.size w xs ∧ w.heap.size < xs.heap.size) (fun i _ _ => k - (intOf i).toNat)
      case atStart => exact ⟨0, m, xs, by omega, by omega, rfl, HW.out, ⟨fun h => ⟨HNO.out.1 h, fun a ha => by omega⟩, fun h => HNO.out.2 h.1⟩, hcell, HB.out, hsz⟩
      case round =>
        clear hcell HW HNO HB
        obtain ⟨j, m, ys, hj, hm, rfl, hown, hno, hcell, hb, hsz⟩ := hrel
        by_cases hjk : j < k
        · obtain ⟨b, off, x, y, z, rfl, ht, g0, g1, g2, hbs, hbs'⟩ := HT.out.get (Nat.le_refl _) hb (i := j) (by have := HL.out; omega)
          obtain ⟨b', off', x', y', z', hE, ht', g0', g1', g2', -, -⟩ := HT.out.get (Nat.le_refl _) hb (i := k) (by have := HL.out; omega)
          cases hE
          have HW := Lib.hid hown
          have HNO := Lib.hid hno
          have HB := Lib.hid hb
          clear hown hno hb
          have hjl : j ≤ 10000 * k + j := by omega
          have q1 := fun w => has_tri x' y' z' x w
          have q2 := fun w => has_tri x' y' z' y w
          have q3 := fun w => has_tri x' y' z' z w
          have hmir : mirB (x, y, z) (x', y', z') = (hasB (x', y', z') x && hasB (x', y', z') y && hasB (x', y', z') z) := rfl
          cases h1 : hasB (x', y', z') x
          · skip
            rw [h1] at q1
            have C1 := Lib.hid q1
            clear q1 q2 q3
            have HF := Lib.hid (show mirB (x, y, z) (x', y', z') = false from by rw [hmir, h1]; simp)
            clear hmir h1
            go_wp2
            go_region
            all_goals
              go_wp2_with fail
              refine (C1.out _).mono ?_
              rintro e u1 ⟨rfl, hb1⟩
              have S1 := Lib.hid (show Below wr.heap.size wr u1 from (((Below.refl _ _).alloc (Nat.le_refl _) _).alloc (by simp) _).drew.trans (hb1.mono (by simp; omega)))
              have Q1 := Lib.hid hb1
              clear hb1
              have Hst := S1.out
              have HB2 := Lib.hid (below_more HB.out Hst (by omega))
              have HW2 := Lib.hid (owns_below HW.out Hst)
              have hcb : u1.cell? ⟨w.heap.size, 1, none⟩ = some (.slice (some ⟨b, off, none⟩) len cap) := (Hst.cell (p := ⟨w.heap.size, 1, none⟩) hsz).trans hcell
              have hs2 := Hst.size
              clear Hst
              go_wp2
              go_roundw
              case rel => exact ⟨j + 1, m, ys, by omega, by omega, by go_num, HW2.out, ⟨fun h => ⟨(HNO.out.1 h).1, fun a ha => by
                by_cases e : a = j
                · subst e; rw [ht.out, ht'.out]; exact HF.out
                · exact (HNO.out.1 h).2 a (by omega)⟩, fun h => HNO.out.2 ⟨h.1, fun a ha => h.2 a (by omega)⟩⟩, hcb, HB2.out, by omega⟩
              case measure => simp [intOf]; omega
          · cases h2 : hasB (x', y', z') y
            · skip
              rw [h1] at q1
              have C1 := Lib.hid q1
              rw [h2] at q2
              have C2 := Lib.hid q2
              clear q1 q2 q3
              have HF := Lib.hid (show mirB (x, y, z) (x', y', z') = false from by rw [hmir, h1, h2]; simp)
              clear hmir h1 h2
              go_wp2
              go_region
              all_goals
                go_wp2_with fail
                refine (C1.out _).mono ?_
                rintro e u1 ⟨rfl, hb1⟩
                have S1 := Lib.hid (show Below wr.heap.size wr u1 from (((Below.refl _ _).alloc (Nat.le_refl _) _).alloc (by simp) _).drew.trans (hb1.mono (by simp; omega)))
                have Q1 := Lib.hid hb1
                clear hb1
                obtain ⟨hc1, hf1⟩ := bcell Q1.out
                go_wp2_with fail
                refine (C2.out _).mono ?_
                rintro e u2 ⟨rfl, hb2⟩
                have S2 := Lib.hid (below_more S1.out hb2 S1.out.size)
                have Q2 := Lib.hid (below_more Q1.out hb2 Q1.out.size)
                clear hc1 hf1
                clear hb2
                have Hst := S2.out
                have HB2 := Lib.hid (below_more HB.out Hst (by omega))
                have HW2 := Lib.hid (owns_below HW.out Hst)
                have hcb : u2.cell? ⟨w.heap.size, 1, none⟩ = some (.slice (some ⟨b, off, none⟩) len cap) := (Hst.cell (p := ⟨w.heap.size, 1, none⟩) hsz).trans hcell
                have hs2 := Hst.size
                clear Hst
                go_wp2
                go_roundw
                case rel => exact ⟨j + 1, m, ys, by omega, by omega, by go_num, HW2.out, ⟨fun h => ⟨(HNO.out.1 h).1, fun a ha => by
                  by_cases e : a = j
                  · subst e; rw [ht.out, ht'.out]; exact HF.out
                  · exact (HNO.out.1 h).2 a (by omega)⟩, fun h => HNO.out.2 ⟨h.1, fun a ha => h.2 a (by omega)⟩⟩, hcb, HB2.out, by omega⟩
                case measure => simp [intOf]; omega
            · cases h3 : hasB (x', y', z') z
              · skip
                rw [h1] at q1
                have C1 := Lib.hid q1
                rw [h2] at q2
                have C2 := Lib.hid q2
                rw [h3] at q3
                have C3 := Lib.hid q3
                clear q1 q2 q3
                have HF := Lib.hid (show mirB (x, y, z) (x', y', z') = false from by rw [hmir, h1, h2, h3]; simp)
                clear hmir h1 h2 h3
                go_wp2
                go_region
                all_goals
                  go_wp2_with fail
                  refine (C1.out _).mono ?_
                  rintro e u1 ⟨rfl, hb1⟩
                  have S1 := Lib.hid (show Below wr.heap.size wr u1 from (((Below.refl _ _).alloc (Nat.le_refl _) _).alloc (by simp) _).drew.trans (hb1.mono (by simp; omega)))
                  have Q1 := Lib.hid hb1
                  clear hb1
                  obtain ⟨hc1, hf1⟩ := bcell Q1.out
                  go_wp2_with fail
                  refine (C2.out _).mono ?_
                  rintro e u2 ⟨rfl, hb2⟩
                  have S2 := Lib.hid (below_more S1.out hb2 S1.out.size)
                  have Q2 := Lib.hid (below_more Q1.out hb2 Q1.out.size)
                  clear hc1 hf1
                  clear hb2
                  obtain ⟨hc2, hf2⟩ := bcell Q2.out
                  go_wp2_with fail
                  refine (C3.out _).mono ?_
                  rintro e u3 ⟨rfl, hb3⟩
                  have S3 := Lib.hid (below_more S2.out hb3 S2.out.size)
                  have Q3 := Lib.hid (below_more Q2.out hb3 Q2.out.size)
                  clear hc2 hf2
                  clear hb3
                  have Hst := S3.out
                  have HB2 := Lib.hid (below_more HB.out Hst (by omega))
                  have HW2 := Lib.hid (owns_below HW.out Hst)
                  have hcb : u3.cell? ⟨w.heap.size, 1, none⟩ = some (.slice (some ⟨b, off, none⟩) len cap) := (Hst.cell (p := ⟨w.heap.size, 1, none⟩) hsz).trans hcell
                  have hs2 := Hst.size
                  clear Hst
                  go_wp2
                  go_roundw
                  case rel => exact ⟨j + 1, m, ys, by omega, by omega, by go_num, HW2.out, ⟨fun h => ⟨(HNO.out.1 h).1, fun a ha => by
                    by_cases e : a = j
                    · subst e; rw [ht.out, ht'.out]; exact HF.out
                    · exact (HNO.out.1 h).2 a (by omega)⟩, fun h => HNO.out.2 ⟨h.1, fun a ha => h.2 a (by omega)⟩⟩, hcb, HB2.out, by omega⟩
                  case measure => simp [intOf]; omega
              · skip
                rw [h1] at q1
                have C1 := Lib.hid q1
                rw [h2] at q2
                have C2 := Lib.hid q2
                rw [h3] at q3
                have C3 := Lib.hid q3
                clear q1 q2 q3
                have HX := Lib.hid (show mirB (x, y, z) (x', y', z') = true from by rw [hmir, h1, h2, h3]; rfl)
                clear hmir h1 h2 h3
                go_wp2
                go_region
                all_goals
                  go_wp2_with fail
                  refine (C1.out _).mono ?_
                  rintro e u1 ⟨rfl, hb1⟩
                  have S1 := Lib.hid (show Below wr.heap.size wr u1 from (((Below.refl _ _).alloc (Nat.le_refl _) _).alloc (by simp) _).drew.trans (hb1.mono (by simp; omega)))
                  have Q1 := Lib.hid hb1
                  clear hb1
                  obtain ⟨hc1, hf1⟩ := bcell Q1.out
                  go_wp2_with fail
                  refine (C2.out _).mono ?_
                  rintro e u2 ⟨rfl, hb2⟩
                  have S2 := Lib.hid (below_more S1.out hb2 S1.out.size)
                  have Q2 := Lib.hid (below_more Q1.out hb2 Q1.out.size)
                  clear hc1 hf1
                  clear hb2
                  obtain ⟨hc2, hf2⟩ := bcell Q2.out
                  go_wp2_with fail
                  refine (C3.out _).mono ?_
                  rintro e u3 ⟨rfl, hb3⟩
                  have S3 := Lib.hid (below_more S2.out hb3 S2.out.size)
                  have Q3 := Lib.hid (below_more Q2.out hb3 Q2.out.size)
                  clear hc2 hf2
                  clear hb3
                  have Hst := S3.out
                  have HB2 := Lib.hid (below_more HB.out Hst (by omega))
                  have HW2 := Lib.hid (owns_below HW.out Hst)
                  have hcb : u3.cell? ⟨w.heap.size, 1, none⟩ = some (.slice (some ⟨b, off, none⟩) len cap) := (Hst.cell (p := ⟨w.heap.size, 1, none⟩) hsz).trans hcell
                  have hs2 := Hst.size
                  clear Hst
                  go_wp2_with (at_builtin; refine wpList_append_new _ rfl _ _ 111 rfl (w.heap.size + 1) 129 i0 _ 3 24 (by kernel_rfl) hi hz0 hz1 hz2 rfl (by decide) _ _ _ rfl HW2.out _ _ _ rfl (by first | rfl | simp) rfl ?_ ?_ ?_ ?_ ?_)
                  · exact ⟨rfl, rfl, rfl⟩
                  · unfold maxLen; omega
                  · omega
                  · omega
                  · intro v' w3 hown3 hbel hgr
                    have HW3 := Lib.hid hown3
                    have HB3 := Lib.hid (hbel w.heap.size w (by omega) HB2.out)
                    have hc3 : w3.cell? ⟨w.heap.size, 1, none⟩ = some (.slice (some ⟨b, off, none⟩) len cap) := ((hbel (w.heap.size + 1) u3 (Nat.le_refl _) (Below.refl _ _)).cell (p := ⟨w.heap.size, 1, none⟩) (Nat.lt_succ_self _)).trans hcb
                    have hs3 := (hbel (w.heap.size + 1) u3 (Nat.le_refl _) (Below.refl _ _)).size
                    clear hown3 hbel hgr hcb
                    go_wp2
                    go_roundw
                    case rel => exact ⟨j + 1, m + 1, _, by omega, by omega, by go_num, HW3.out, ⟨fun h => by omega, fun h => by have := h.2 j (by omega); rw [ht.out, ht'.out, HX.out] at this; cases this⟩, hc3, HB3.out, by omega⟩
                    case measure => simp [intOf]; omega
        · obtain rfl : j = k := by omega
          have HW := Lib.hid hown
          have HB := Lib.hid hb
          have HNO := Lib.hid (show m = 0 ↔ ∀ b a, b < j + 1 → a < b → mirB (T! T a) (T! T b) = false from ⟨fun h b a hb ha => by
            by_cases e : b = j
            · subst e; exact (hno.1 h).2 a ha
            · exact (hno.1 h).1 b a (by omega) ha, fun h => hno.2 ⟨fun b a hb ha => h b a (by omega) ha, fun a ha => h j a (by omega) ha⟩⟩)
          clear hown hno hb
          go_wp2
          go_roundw
          case rel => exact ⟨j + 1, m, ys, by omega, by omega, by go_num, HW.out, HNO.out, hcell, HB.out, hsz⟩
          case measure => simp [intOf]; omega
    · obtain rfl : len = k := by omega
      go_wp2
      go_ret
      exact ⟨_, m, xs, rfl, owns_base HW.out (by omega), by omega, HNO.out, HB.out⟩
set_option maxRecDepth 100000 in
set_option maxHeartbeats 1000000 in
theorem rindex_any (N : Int) (ao : Option Addr) (cap : Nat) (T : List Tr) (w : World) (hT : TrisAt w ao T) (hl : T.length ≤ 10000) :
    Calls Tryz.prog 93 #[.agg #[.int .i64 N, .slice ao T.length cap]] w fun e w' => ∃ v, e = .returned v ∧
      Wits w' w.heap.size v (0 ≤ N ∧ N ≤ 4096 ∧ T.length ≤ 8192 ∧ VIn N T) ∧ Below w.heap.size w w' := by
  obtain ⟨i0, hi, hz0, hz1, hz2⟩ := info_parts info95
  obtain ⟨len, hlen⟩ : ∃ n, n = T.length := ⟨_, rfl⟩
  rw [← hlen] at hl ⊢
  have HL := Lib.hid hlen
  have HT := Lib.hid hT
  clear hlen hT
  by_cases hbig : N < 0 ∨ 4096 < N ∨ 8192 < len
  · have hfin : ∀ g : Nat, RowIs (((w.alloc (.cells #[.int .i64 N, .slice ao len cap] 24)).alloc (.cells #[.int .i64 1, .int .i64 (-1), .int .i64 0] 129))) (w.heap.size + 1) 129 [.int .i64 1, .int .i64 (-1), .int .i64 0] := fun _ => by
      have := RowIs.made (w.alloc (.cells #[.int .i64 N, .slice ao len cap] 24)) 129 [.int .i64 1, .int .i64 (-1), .int .i64 0]
      simpa using this
    have HF := Lib.hid ((hfin 0).owns (base := w.heap.size) (size := 3) (n := 1) (by omega) rfl (by decide))
    have HB := Lib.hid (((Below.refl w.heap.size w).alloc (Nat.le_refl _) (.cells #[.int .i64 N, .slice ao len cap] 24)).alloc (by simp) (.cells #[.int .i64 1, .int .i64 (-1), .int .i64 0] 129))
    clear hfin
    by_cases h1 : N < 0
    · clear hbig
      go_enter Tryz.func93, Tryz.ntmps93
      go_wp2
      go_ret
      exact ⟨_, rfl, ⟨1, _, HF.out, by omega, ⟨fun h => by omega, fun h => by have := HL.out; omega⟩⟩, HB.out⟩
    · have d1 : decide (N < 0) = false := by simpa using h1
      by_cases h2 : 4096 < N
      · clear hbig
        go_enter Tryz.func93, Tryz.ntmps93
        go_wp2
        go_ret
        exact ⟨_, rfl, ⟨1, _, HF.out, by omega, ⟨fun h => by omega, fun h => by have := HL.out; omega⟩⟩, HB.out⟩
      · have d2 : decide (4096 < N) = false := by simpa using h2
        have h3 : 8192 < len := by omega
        clear hbig
        go_enter Tryz.func93, Tryz.ntmps93
        go_wp2
        go_ret
        exact ⟨_, rfl, ⟨1, _, HF.out, by omega, ⟨fun h => by omega, fun h => by have := HL.out; omega⟩⟩, HB.out⟩
  · have h1 : ¬ N < 0 := fun h => hbig (.inl h)
    have h2 : ¬ 4096 < N := fun h => hbig (.inr (.inl h))
    have h3 : ¬ 8192 < len := fun h => hbig (.inr (.inr h))
    have d1 : decide (N < 0) = false := by simpa using h1
    have d2 : decide (4096 < N) = false := by simpa using h2
    have d3 : decide (8192 < len) = false := by simpa using h3
    clear hbig
    go_enter Tryz.func93, Tryz.ntmps93
    go_wp2
    clear d1 d2 d3
    go_loopw [4, 3] (fun i v ws => ∃ (k m : Nat) (xs : List Value), k ≤ len ∧ m ≤ k ∧ i = .int .i64 k ∧ ws.ownsRow (w.heap.size + 1) 129 3 v m xs ∧ (m = 0 ↔ ∀ i, i < k → ∀ j, j < 3 → 0 ≤ tg (T! T i) j ∧ tg (T! T i) j < N) ∧
        Below (w.heap.size + 1) (w.alloc (.cells #[.int .i64 N, .slice ao len cap] 24)) ws) (fun i _ _ => len - (intOf i).toNat)
    case atStart => exact ⟨0, 0, [], by omega, by omega, rfl, World.ownsRow_nil _ _ _ _, ⟨fun _ i h => by omega, fun _ => rfl⟩, Below.refl _ _⟩
    case round =>
      obtain ⟨k, m, xs, hk, hm, rfl, hown, hno, hb⟩ := hrel
      have HW := Lib.hid hown
      have HNO := Lib.hid hno
      obtain ⟨hc0, hc1, hbw, hsz⟩ := box_soup hb
      have HB := Lib.hid hb
      clear hown hno hb
      by_cases hlt : k < len
      · have HAT := Lib.hid (fun (j : Nat) (hj : j < 3) => HT.out.at (i := k) (j := j) (by have := HL.out; omega) hj)
        obtain ⟨b, off, rfl, -, hbs⟩ := HAT.out 0 (by omega)
        go_wp2
        go_loopw [6, 5] (fun i v ys => ∃ (j : Nat) (β : Bool), j ≤ 3 ∧ i = .int .i64 j ∧ v = .bool β ∧ (β = false ↔ ∀ l, l < j → 0 ≤ tg (T! T k) l ∧ tg (T! T k) l < N) ∧ ∃ q, ys = wr.drewN q) (fun i _ _ => 3 - (intOf i).toNat)
        case atStart => exact ⟨0, false, by omega, rfl, rfl, ⟨fun _ l h => by omega, fun _ => rfl⟩, 0, rfl⟩
        case round =>
          obtain ⟨j, β, hj, rfl, rfl, hbad, q, rfl⟩ := hrel
          have HBad := Lib.hid hbad
          clear hbad
          by_cases hj3 : j < 3
          · obtain ⟨b', off', hE, hcell, -⟩ := HAT.out j hj3
            cases hE
            obtain ⟨x, hx⟩ : ∃ x, Hid (tg (T! T k) j = x) := ⟨_, rfl⟩
            rw [hx.out] at hcell
            have hcx : wr.cell? ⟨b, off + k * 3 + j, none⟩ = some (.int .i64 x) := (hbw.cell (p := ⟨b, _, none⟩) hbs).trans hcell
            have hk' : (k : Int) < len := by omega
            have hj' : (j : Int) < 3 := by omega
            clear hcell
            cases β
            · by_cases hx0 : x < 0
              · have dx : decide (x < 0) = true := by simpa using hx0
                have HXN := Lib.hid hx0
                go_wp2
                go_quiet (fail)
                go_wp2
                go_roundw
                case rel => exact ⟨j + 1, true, by omega, by go_num, rfl, ⟨(fun h => by cases h), fun h => by have h1 := (h j (by omega)).1; have h2 := HXN.out; rw [hx.out] at h1; omega⟩, _, rfl⟩
                case measure => simp [intOf]; omega
              · have dx : decide (x < 0) = false := by simpa using hx0
                have hOK := Lib.hid (show decide (N ≤ x) = false ↔ ∀ l, l < j + 1 → 0 ≤ tg (T! T k) l ∧ tg (T! T k) l < N from ⟨fun h l hl => by
                  by_cases e : l = j
                  · subst e
                    rw [hx.out]
                    have : ¬ N ≤ x := by simpa using h
                    omega
                  · exact HBad.out.1 rfl l (by omega), fun h => by have h1 := (h j (by omega)).2; rw [hx.out] at h1; simp; omega⟩)
                obtain ⟨γ, hγ⟩ : ∃ γ, decide (N ≤ x) = γ := ⟨_, rfl⟩
                rw [hγ] at hOK
                go_wp2
                go_quiet (fail)
                go_wp2
                go_roundw
                case rel => exact ⟨j + 1, γ, by omega, by go_num, rfl, hOK.out, _, rfl⟩
                case measure => simp [intOf]; omega
            · go_wp2
              go_quiet (fail)
              go_wp2
              go_roundw
              case rel => exact ⟨j + 1, true, by omega, by go_num, rfl, ⟨(fun h => by cases h), fun h => HBad.out.2 fun l hl => h l (by omega)⟩, _, rfl⟩
              case measure => simp [intOf]; omega
          · obtain rfl : j = 3 := by omega
            have HW' := Lib.hid (show (wr.drewN q).ownsRow _ _ _ _ _ _ from HW.out)
            have HB' := Lib.hid (HB.out.trans (show Below _ wr (wr.drewN q) from ⟨rfl, rfl, rfl, Nat.le_refl _, fun _ _ => rfl⟩))
            cases β
            · go_wp2
              go_roundw
              case rel => exact ⟨k + 1, m, xs, by omega, by omega, by go_num, HW'.out, ⟨fun h i hi j hj => by
                by_cases e : i = k
                · subst e; exact HBad.out.1 rfl j hj
                · exact HNO.out.1 h i (by omega) j hj, fun h => HNO.out.2 fun i hi => h i (by omega)⟩, HB'.out⟩
              case measure => simp [intOf]; omega
            · go_wp2_with (at_builtin; refine wpList_append_new _ rfl _ _ 111 rfl (w.heap.size + 1) 129 i0 _ 3 24 (by kernel_rfl) hi hz0 hz1 hz2 rfl (by decide) _ _ _ rfl HW'.out _ _ _ rfl (by first | rfl | simp) rfl ?_ ?_ ?_ ?_ ?_)
              · exact ⟨rfl, rfl, rfl⟩
              · unfold maxLen; omega
              · omega
              · simp; omega
              · intro v' w3 hown3 hbel hgr
                have HW3 := Lib.hid hown3
                have HB3 := Lib.hid (hbel (w.heap.size + 1) _ (Nat.le_refl _) HB'.out)
                clear hown3 hbel hgr
                go_wp2
                go_roundw
                case rel => exact ⟨k + 1, m + 1, _, by omega, by omega, by go_num, HW3.out, ⟨fun h => by omega, fun h => by have := HBad.out.2 (h k (by omega)); cases this⟩, HB3.out⟩
                case measure => simp [intOf]; omega
      · obtain rfl : len = k := by omega
        go_wp2
        go_ret
        exact ⟨_, rfl, ⟨m, xs, owns_base HW.out (by omega), by omega, ⟨fun h => ⟨by omega, by omega, by have := HL.out; omega, VIn.of_three (fun i hi => HNO.out.1 h i (by have := HL.out; omega))⟩, fun h => HNO.out.2 fun i hi j _ => h.2.2.2 i (by have := HL.out; omega) j⟩⟩, hbw⟩
end Go.Proofs.YtknioobpoieohaaGreat

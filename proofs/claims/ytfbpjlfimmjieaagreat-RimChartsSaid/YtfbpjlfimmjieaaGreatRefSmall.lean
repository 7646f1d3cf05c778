/- The reference's small tests on triangles (gypsumref09: Has, Edge, twice). gypsumref09.twice: have two triangles a directed edge in common? gypsumref09.pairs, for kind 3 (twice): the list is empty only if no two triangles have a directed edge in common. gypsumref09.pairs, for kind 4 (mirrored): the list is empty only if no two triangles have the same vertices. gypsumref09.index: the list is empty only if the numbers are in range. Marking by pairs, round by round, with any relation. Plain. gypsumref09.Pinched: false just if all triangles at the vertex hang together there. gypsumref09.All: no witness just if the triangles are a surface. gypsumref09.Surface: true just of a surface. -/
import Derived.Test.YtfbpjlfimmjieaaGreatSurfDef
import Derived.Test.YtfbpjlfimmjieaaGreatRowl
import Derived.RegionTactic
import Derived.ChangeAlike
import Derived.Test.YtfbpjlfimmjieaaGreatFacing
import Derived.Test.YtfbpjlfimmjieaaGreatFanLaw
namespace Go.Proofs.YtfbpjlfimmjieaaGreat
set_option linter.unusedVariables false
set_option linter.unusedSimpArgs false
open Go.RowKit
set_option maxHeartbeats 400000 in
theorem has_tri (x y z v : Int) (w : World) :
    Calls Tryz.prog 98 #[.agg #[.int .i64 x, .int .i64 y, .int .i64 z], .int .i64 v] w fun e w' => e = .returned (.bool (hasB (x, y, z) v)) ∧ Below w.heap.size w w' := by
  obtain ⟨r, hr⟩ : ∃ r, r = hasB (x, y, z) v := ⟨_, rfl⟩
  rw [← hr]
  unfold hasB at hr
  simp only at hr
  cases h1 : x == v <;> cases h2 : y == v <;> cases h3 : z == v <;> simp only [h1, h2, h3, Bool.or_false, Bool.or_true] at hr <;> subst hr
  all_goals
    go_enter Tryz.func98, Tryz.ntmps98
    go_wp2
    go_ret
    exact ⟨rfl, (Below.refl _ _).alloc (Nat.le_refl _) _⟩
set_option maxHeartbeats 2000000 in
theorem edge_tri (x y z a b : Int) (w : World) :
    Calls Tryz.prog 149 #[.agg #[.int .i64 x, .int .i64 y, .int .i64 z], .int .i64 a, .int .i64 b] w fun e w' => e = .returned (.bool (edgeB (x, y, z) a b)) ∧ Below w.heap.size w w' := by
  obtain ⟨r, hr⟩ : ∃ r, r = edgeB (x, y, z) a b := ⟨_, rfl⟩
  rw [← hr]
  unfold edgeB at hr
  simp only at hr
  cases h1 : x == a <;> cases h2 : y == b <;> cases h3 : y == a <;> cases h4 : z == b <;> cases h5 : z == a <;> cases h6 : x == b <;>
    simp only [h1, h2, h3, h4, h5, h6, Bool.or_false, Bool.or_true, Bool.and_true, Bool.and_false, Bool.and_self] at hr <;> subst hr
  all_goals
    go_enter Tryz.func149, Tryz.ntmps149
    go_wp2
    go_ret
    exact ⟨rfl, (Below.refl _ _).alloc (Nat.le_refl _) _⟩
set_option maxHeartbeats 1000000 in
theorem twice_tri (x y z a b c : Int) (w : World) :
    Calls Tryz.prog 132 #[.agg #[.int .i64 x, .int .i64 y, .int .i64 z], .agg #[.int .i64 a, .int .i64 b, .int .i64 c]] w fun e w' => e = .returned (.bool (twB (x, y, z) (a, b, c))) ∧ Below w.heap.size w w' := by
  obtain ⟨r, hr⟩ : ∃ r, r = twB (x, y, z) (a, b, c) := ⟨_, rfl⟩
  rw [← hr]
  unfold twB at hr
  simp only at hr
  have e1 := fun w => edge_tri a b c x y w
  have e2 := fun w => edge_tri a b c y z w
  have e3 := fun w => edge_tri a b c z x w
  have hb0 : Below w.heap.size w ((w.alloc (.cells #[.int .i64 x, .int .i64 y, .int .i64 z] 49)).alloc (.cells #[.int .i64 a, .int .i64 b, .int .i64 c] 49)) := ((Below.refl _ _).alloc (Nat.le_refl _) _).alloc (by simp) _
  have HB0 := Lib.hid hb0
  clear hb0
  cases h1 : edgeB (a, b, c) x y
  · rw [h1] at hr e1
    simp only [Bool.false_or] at hr
    cases h2 : edgeB (a, b, c) y z
    · rw [h2] at hr e2
      simp only [Bool.false_or] at hr
      rw [← hr] at e3
      have E1 := Lib.hid e1
      have E2 := Lib.hid e2
      have E3 := Lib.hid e3
      clear h1 h2 hr e1 e2 e3
      go_enter Tryz.func132, Tryz.ntmps132
      go_wp2_with fail
      refine (E1.out _).mono ?_
      rintro e w1 ⟨rfl, hb1⟩
      have HB1 := Lib.hid hb1
      obtain ⟨hc, hf⟩ := bcell hb1
      clear hb1
      go_wp2_with fail
      refine (E2.out _).mono ?_
      rintro e w2 ⟨rfl, hb2⟩
      have HB2 := Lib.hid (HB1.out.trans (hb2.mono HB1.out.size))
      clear hb2 hc hf
      obtain ⟨hc, hf⟩ := bcell HB2.out
      go_wp2_with fail
      refine (E3.out _).mono ?_
      rintro e w3 ⟨rfl, hb3⟩
      go_wp2_with fail
      go_ret
      exact ⟨rfl, HB0.out.trans ((HB2.out.mono (by simp; omega)).trans (hb3.mono (by have := HB2.out.size; simp at this; omega)))⟩
    · rw [h2] at hr e2
      simp only [Bool.true_or] at hr
      subst hr
      have E1 := Lib.hid e1
      have E2 := Lib.hid e2
      clear h1 h2 e1 e2 e3
      go_enter Tryz.func132, Tryz.ntmps132
      go_wp2_with fail
      refine (E1.out _).mono ?_
      rintro e w1 ⟨rfl, hb1⟩
      have HB1 := Lib.hid hb1
      obtain ⟨hc, hf⟩ := bcell hb1
      clear hb1
      go_wp2_with fail
      refine (E2.out _).mono ?_
      rintro e w2 ⟨rfl, hb2⟩
      go_wp2_with fail
      go_ret
      exact ⟨rfl, HB0.out.trans ((HB1.out.mono (by simp; omega)).trans (hb2.mono (by have := HB1.out.size; simp at this; omega)))⟩
  · rw [h1] at hr e1
    simp only [Bool.true_or] at hr
    subst hr
    have E1 := Lib.hid e1
    clear h1 e1 e2 e3
    go_enter Tryz.func132, Tryz.ntmps132
    go_wp2_with fail
    refine (E1.out _).mono ?_
    rintro e w1 ⟨rfl, hb1⟩
    go_wp2_with fail
    go_ret
    exact ⟨rfl, HB0.out.trans (hb1.mono (by simp; omega))⟩
theorem info95 : (Tryz.prog.info? 123).map (fun i => (i.zero, i.size, i.bytes)) = some (some (.agg #[.int .i64 0, .int .i64 0, .int .i64 0]), 3, 24) := by kernel_rfl
/-- A list of witnesses of the call's own; it is empty just if P holds. -/
def Wits (w : World) (base : Nat) (v : Value) (P : Prop) : Prop := ∃ m xs, w.ownsRow base 123 3 v m xs ∧ m ≤ 100000000 ∧ (m = 0 ↔ P)
set_option maxRecDepth 100000 in
set_option maxHeartbeats 1000000 in
theorem pairs3 (N : Int) (ao : Option Addr) (cap : Nat) (T : List Tr) (w : World) (hT : TrisAt w ao T) (hl : T.length ≤ 10000) :
    Calls Tryz.prog 97 #[.agg #[.int .i64 N, .slice ao T.length cap], .int .i64 3] w fun e w' => ∃ v m xs, e = .returned v ∧
      w'.ownsRow w.heap.size 123 3 v m xs ∧ m ≤ 10000 * 10000 ∧ (m = 0 ↔ ∀ b a, b < T.length → a < b → twB (T! T a) (T! T b) = false) ∧ Below w.heap.size w w' := by
  obtain ⟨i0, hi, hz0, hz1, hz2⟩ := info_parts info95
  obtain ⟨len, hlen⟩ : ∃ n, n = T.length := ⟨_, rfl⟩
  rw [← hlen] at hl ⊢
  have HL := Lib.hid hlen
  have HT := Lib.hid hT
  clear hlen hT
  go_enter Tryz.func97, Tryz.ntmps97
  go_wp2
  go_loopw [6, 5] (fun i v ws => ∃ (k m : Nat) (xs : List Value), k ≤ len ∧ m ≤ 10000 * k ∧ i = .int .i64 k ∧ ws.ownsRow (w.heap.size + 1) 123 3 v m xs ∧ (m = 0 ↔ ∀ b a, b < k → a < b → twB (T! T a) (T! T b) = false) ∧
      ws.cell? ⟨w.heap.size, 1, none⟩ = some (.slice ao len cap) ∧ Below w.heap.size w ws ∧ w.heap.size < ws.heap.size) (fun i _ _ => len - (intOf i).toNat)
  case atStart => exact ⟨0, 0, [], by omega, by omega, rfl, World.ownsRow_nil _ _ _ _, ⟨fun _ b a h => by omega, fun _ => rfl⟩, (RowIs.made w 24 [_, _]).cell (i := 1) rfl, (Below.refl _ _).alloc (Nat.le_refl _) _, by simp⟩
  case round =>
    obtain ⟨k, m, xs, hk, hm, rfl, hown, hno, hcell, hb, hsz⟩ := hrel
    have HW := Lib.hid hown
    have HNO := Lib.hid hno
    have HB := Lib.hid hb
    clear hown hno hb
    by_cases hlt : k < len
    · go_wp2
      go_loopw [7, 5] (fun i v xs => ∃ (j m : Nat) (ys : List Value), j ≤ k ∧ m ≤ 10000 * k + j ∧ i = .int .i64 j ∧ xs.ownsRow (w.heap.size + 1) 123 3 v m ys ∧
          (m = 0 ↔ (∀ b a, b < k → a < b → twB (T! T a) (T! T b) = false) ∧ ∀ a, a < j → twB (T! T a) (T! T k) = false) ∧
          xs.cell? ⟨w.heap.size, 1, none⟩ = some (.slice ao len cap) ∧ Below w.heap.size w xs ∧ w.heap.size < xs.heap.size) (fun i _ _ => k - (intOf i).toNat)
      case atStart => exact ⟨0, m, xs, by omega, by omega, rfl, HW.out, ⟨fun h => ⟨HNO.out.1 h, fun a ha => by omega⟩, fun h => HNO.out.2 h.1⟩, hcell, HB.out, hsz⟩
      case round =>
        clear hcell HW HNO HB
        obtain ⟨j, m, ys, hj, hm, rfl, hown, hno, hcell, hb, hsz⟩ := hrel
        by_cases hjk : j < k
        · obtain ⟨b, off, x, y, z, rfl, ht, g0, g1, g2, hbs, hbs'⟩ := HT.out.get (Nat.le_refl _) hb (i := j) (by have := HL.out; omega)
          obtain ⟨b', off', x', y', z', hE, ht', g0', g1', g2', -, -⟩ := HT.out.get (Nat.le_refl _) hb (i := k) (by have := HL.out; omega)
          cases hE
          have HW := Lib.hid hown
          have HNO := Lib.hid hno
          have HB := Lib.hid hb
          clear hown hno hb
          have hjl : j ≤ 10000 * k + j := by omega
          cases htw : twB (x, y, z) (x', y', z')
          · have hct := fun w => twice_tri x y z x' y' z' w
            rw [htw] at hct
            have HC := Lib.hid hct
            have HF := Lib.hid htw
            clear hct htw
            go_wp2
            go_region
            all_goals
              go_wp2_with fail
              refine (HC.out _).mono ?_
              rintro e w2 ⟨rfl, hb2⟩
              have Hst : Below wr.heap.size wr w2 := (((Below.refl _ _).alloc (Nat.le_refl _) _).alloc (by simp) _).drew.trans (hb2.mono (by simp; omega))
              have HB2 := Lib.hid (below_more HB.out Hst (by omega))
              have HW2 := Lib.hid (owns_below HW.out Hst)
              have hc2 : w2.cell? ⟨w.heap.size, 1, none⟩ = some (.slice (some ⟨b, off, none⟩) len cap) := (Hst.cell (p := ⟨w.heap.size, 1, none⟩) hsz).trans hcell
              have hs2 := Hst.size
              clear hb2 Hst
              go_wp2
              go_roundw
              case rel => exact ⟨j + 1, m, ys, by omega, by omega, by go_num, HW2.out, ⟨fun h => ⟨(HNO.out.1 h).1, fun a ha => by
                by_cases e : a = j
                · subst e; rw [ht.out, ht'.out]; exact HF.out
                · exact (HNO.out.1 h).2 a (by omega)⟩, fun h => HNO.out.2 ⟨h.1, fun a ha => h.2 a (by omega)⟩⟩, hc2, HB2.out, by omega⟩
              case measure => simp [intOf]; omega
          · have hct := fun w => twice_tri x y z x' y' z' w
            rw [htw] at hct
            have HC := Lib.hid hct
            have HX := Lib.hid htw
            clear hct htw
            go_wp2
            go_region
            all_goals
              go_wp2_with fail
              refine (HC.out _).mono ?_
              rintro e w2 ⟨rfl, hb2⟩
              have Hst : Below wr.heap.size wr w2 := (((Below.refl _ _).alloc (Nat.le_refl _) _).alloc (by simp) _).drew.trans (hb2.mono (by simp; omega))
              have HB2 := Lib.hid (below_more HB.out Hst (by omega))
              have HW2 := Lib.hid (owns_below HW.out Hst)
              have hc2 : w2.cell? ⟨w.heap.size, 1, none⟩ = some (.slice (some ⟨b, off, none⟩) len cap) := (Hst.cell (p := ⟨w.heap.size, 1, none⟩) hsz).trans hcell
              have hs2 := Hst.size
              clear hb2 Hst
              go_wp2_with (at_builtin; refine wpList_append_new _ rfl _ _ 109 rfl (w.heap.size + 1) 123 i0 _ 3 24 (by kernel_rfl) hi hz0 hz1 hz2 rfl (by decide) _ _ _ rfl HW2.out _ _ _ rfl (by first | rfl | simp) rfl ?_ ?_ ?_ ?_ ?_)
              · exact ⟨rfl, rfl, rfl⟩
              · unfold maxLen; omega
              · omega
              · omega
              · intro v' w3 hown3 hbel hgr
                have HW3 := Lib.hid hown3
                have HB3 := Lib.hid (hbel w.heap.size w (by omega) HB2.out)
                have hc3 : w3.cell? ⟨w.heap.size, 1, none⟩ = some (.slice (some ⟨b, off, none⟩) len cap) := ((hbel (w.heap.size + 1) w2 (Nat.le_refl _) (Below.refl _ _)).cell (p := ⟨w.heap.size, 1, none⟩) (Nat.lt_succ_self _)).trans hc2
                have hs3 := (hbel (w.heap.size + 1) w2 (Nat.le_refl _) (Below.refl _ _)).size
                clear hown3 hbel hgr hc2
                go_wp2
                go_roundw
                case rel => exact ⟨j + 1, m + 1, _, by omega, by omega, by go_num, HW3.out, ⟨fun h => by omega, fun h => by have := h.2 j (by omega); rw [ht.out, ht'.out, HX.out] at this; cases this⟩, hc3, HB3.out, by omega⟩
                case measure => simp [intOf]; omega
        · obtain rfl : j = k := by omega
          have HW := Lib.hid hown
          have HB := Lib.hid hb
          have HNO := Lib.hid (show m = 0 ↔ ∀ b a, b < j + 1 → a < b → twB (T! T a) (T! T b) = false from ⟨fun h b a hb ha => by
            by_cases e : b = j
            · subst e; exact (hno.1 h).2 a ha
            · exact (hno.1 h).1 b a (by omega) ha, fun h => hno.2 ⟨fun b a hb ha => h b a (by omega) ha, fun a ha => h j a (by omega) ha⟩⟩)
          clear hown hno hb
          go_wp2
          go_roundw
          case rel => exact ⟨j + 1, m, ys, by omega, by omega, by go_num, HW.out, HNO.out, hcell, HB.out, hsz⟩
          case measure => simp [intOf]; omega
    · obtain rfl : len = k := by omega
      go_wp2
      go_ret
      exact ⟨_, m, xs, rfl, owns_base HW.out (by omega), by omega, HNO.out, HB.out⟩
set_option maxRecDepth 100000 in
set_option maxHeartbeats 1000000 in
theorem pairs4 (N : Int) (ao : Option Addr) (cap : Nat) (T : List Tr) (w : World) (hT : TrisAt w ao T) (hl : T.length ≤ 10000) :
    Calls Tryz.prog 97 #[.agg #[.int .i64 N, .slice ao T.length cap], .int .i64 4] w fun e w' => ∃ v m xs, e = .returned v ∧
      w'.ownsRow w.heap.size 123 3 v m xs ∧ m ≤ 10000 * 10000 ∧ (m = 0 ↔ ∀ b a, b < T.length → a < b → mirB (T! T a) (T! T b) = false) ∧ Below w.heap.size w w' := by
  obtain ⟨i0, hi, hz0, hz1, hz2⟩ := info_parts info95
  obtain ⟨len, hlen⟩ : ∃ n, n = T.length := ⟨_, rfl⟩
  rw [← hlen] at hl ⊢
  have HL := Lib.hid hlen
  have HT := Lib.hid hT
  clear hlen hT
  go_enter Tryz.func97, Tryz.ntmps97
  go_wp2
  go_loopw [6, 5] (fun i v ws => ∃ (k m : Nat) (xs : List Value), k ≤ len ∧ m ≤ 10000 * k ∧ i = .int .i64 k ∧ ws.ownsRow (w.heap.size + 1) 123 3 v m xs ∧ (m = 0 ↔ ∀ b a, b < k → a < b → mirB (T! T a) (T! T b) = false) ∧
      ws.cell? ⟨w.heap.size, 1, none⟩ = some (.slice ao len cap) ∧ Below w.heap.size w ws ∧ w.heap.size < ws.heap.size) (fun i _ _ => len - (intOf i).toNat)
  case atStart => exact ⟨0, 0, [], by omega, by omega, rfl, World.ownsRow_nil _ _ _ _, ⟨fun _ b a h => by omega, fun _ => rfl⟩, (RowIs.made w 24 [_, _]).cell (i := 1) rfl, (Below.refl _ _).alloc (Nat.le_refl _) _, by simp⟩
  case round =>
    obtain ⟨k, m, xs, hk, hm, rfl, hown, hno, hcell, hb, hsz⟩ := hrel
    have HW := Lib.hid hown
    have HNO := Lib.hid hno
    have HB := Lib.hid hb
    clear hown hno hb
    by_cases hlt : k < len
    · go_wp2
      go_loopw [7, 5] (fun i v xs => ∃ (j m : Nat) (ys : List Value), j ≤ k ∧ m ≤ 10000 * k + j ∧ i = .int .i64 j ∧ xs.ownsRow (w.heap.size + 1) 123 3 v m ys ∧
          (m = 0 ↔ (∀ b a, b < k → a < b → mirB (T! T a) (T! T b) = false) ∧ ∀ a, a < j → mirB (T! T a) (T! T k) = false) ∧
          xs.cell? ⟨w.heap.size, 1, none⟩ = some (.slice ao len cap) ∧ Below w.heap.size w xs ∧ w.heap.size < xs.heap.size) (fun i _ _ => k - (intOf i).toNat)
      case atStart => exact ⟨0, m, xs, by omega, by omega, rfl, HW.out, ⟨fun h => ⟨HNO.out.1 h, fun a ha => by omega⟩, fun h => HNO.out.2 h.1⟩, hcell, HB.out, hsz⟩
      case round =>
        clear hcell HW HNO HB
        obtain ⟨j, m, ys, hj, hm, rfl, hown, hno, hcell, hb, hsz⟩ := hrel
        by_cases hjk : j < k
        · obtain ⟨b, off, x, y, z, rfl, ht, g0, g1, g2, hbs, hbs'⟩ := HT.out.get (Nat.le_refl _) hb (i := j) (by have := HL.out; omega)
          obtain ⟨b', off', x', y', z', hE, ht', g0', g1', g2', -, -⟩ := HT.out.get (Nat.le_refl _) hb (i := k) (by have := HL.out; omega)
          cases hE
          have HW := Lib.hid hown
          have HNO := Lib.hid hno
          have HB := Lib.hid hb
          clear hown hno hb
          have hjl : j ≤ 10000 * k + j := by omega
          have q1 := fun w => has_tri x' y' z' x w
          have q2 := fun w => has_tri x' y' z' y w
          have q3 := fun w => has_tri x' y' z' z w
          have hmir : mirB (x, y, z) (x', y', z') = (hasB (x', y', z') x && hasB (x', y', z') y && hasB (x', y', z') z) := rfl
          cases h1 : hasB (x', y', z') x
          · skip
            rw [h1] at q1
            have C1 := Lib.hid q1
            clear q1 q2 q3
            have HF := Lib.hid (show mirB (x, y, z) (x', y', z') = false from by rw [hmir, h1]; simp)
            clear hmir h1
            go_wp2
            go_region
            all_goals
              go_wp2_with fail
              refine (C1.out _).mono ?_
              rintro e u1 ⟨rfl, hb1⟩
              have S1 := Lib.hid (show Below wr.heap.size wr u1 from (((Below.refl _ _).alloc (Nat.le_refl _) _).alloc (by simp) _).drew.trans (hb1.mono (by simp; omega)))
              have Q1 := Lib.hid hb1
              clear hb1
              have Hst := S1.out
              have HB2 := Lib.hid (below_more HB.out Hst (by omega))
              have HW2 := Lib.hid (owns_below HW.out Hst)
              have hcb : u1.cell? ⟨w.heap.size, 1, none⟩ = some (.slice (some ⟨b, off, none⟩) len cap) := (Hst.cell (p := ⟨w.heap.size, 1, none⟩) hsz).trans hcell
              have hs2 := Hst.size
              clear Hst
              go_wp2
              go_roundw
              case rel => exact ⟨j + 1, m, ys, by omega, by omega, by go_num, HW2.out, ⟨fun h => ⟨(HNO.out.1 h).1, fun a ha => by
                by_cases e : a = j
                · subst e; rw [ht.out, ht'.out]; exact HF.out
                · exact (HNO.out.1 h).2 a (by omega)⟩, fun h => HNO.out.2 ⟨h.1, fun a ha => h.2 a (by omega)⟩⟩, hcb, HB2.out, by omega⟩
              case measure => simp [intOf]; omega
          · cases h2 : hasB (x', y', z') y
            · skip
              rw [h1] at q1
              have C1 := Lib.hid q1
              rw [h2] at q2
              have C2 := Lib.hid q2
              clear q1 q2 q3
              have HF := Lib.hid (show mirB (x, y, z) (x', y', z') = false from by rw [hmir, h1, h2]; simp)
              clear hmir h1 h2
              go_wp2
              go_region
              all_goals
                go_wp2_with fail
                refine (C1.out _).mono ?_
                rintro e u1 ⟨rfl, hb1⟩
                have S1 := Lib.hid (show Below wr.heap.size wr u1 from (((Below.refl _ _).alloc (Nat.le_refl _) _).alloc (by simp) _).drew.trans (hb1.mono (by simp; omega)))
                have Q1 := Lib.hid hb1
                clear hb1
                obtain ⟨hc1, hf1⟩ := bcell Q1.out
                go_wp2_with fail
                refine (C2.out _).mono ?_
                rintro e u2 ⟨rfl, hb2⟩
                have S2 := Lib.hid (below_more S1.out hb2 S1.out.size)
                have Q2 := Lib.hid (below_more Q1.out hb2 Q1.out.size)
                clear hc1 hf1
                clear hb2
                have Hst := S2.out
                have HB2 := Lib.hid (below_more HB.out Hst (by omega))
                have HW2 := Lib.hid (owns_below HW.out Hst)
                have hcb : u2.cell? ⟨w.heap.size, 1, none⟩ = some (.slice (some ⟨b, off, none⟩) len cap) := (Hst.cell (p := ⟨w.heap.size, 1, none⟩) hsz).trans hcell
                have hs2 := Hst.size
                clear Hst
                go_wp2
                go_roundw
                case rel => exact ⟨j + 1, m, ys, by omega, by omega, by go_num, HW2.out, ⟨fun h => ⟨(HNO.out.1 h).1, fun a ha => by
                  by_cases e : a = j
                  · subst e; rw [ht.out, ht'.out]; exact HF.out
                  · exact (HNO.out.1 h).2 a (by omega)⟩, fun h => HNO.out.2 ⟨h.1, fun a ha => h.2 a (by omega)⟩⟩, hcb, HB2.out, by omega⟩
                case measure => simp [intOf]; omega
            · cases h3 : hasB (x', y', z') z
              · skip
                rw [h1] at q1
                have C1 := Lib.hid q1
                rw [h2] at q2
                have C2 := Lib.hid q2
                rw [h3] at q3
                have C3 := Lib.hid q3
                clear q1 q2 q3
                have HF := Lib.hid (show mirB (x, y, z) (x', y', z') = false from by rw [hmir, h1, h2, h3]; simp)
                clear hmir h1 h2 h3
                go_wp2
                go_region
                all_goals
                  go_wp2_with fail
                  refine (C1.out _).mono ?_
                  rintro e u1 ⟨rfl, hb1⟩
                  have S1 := Lib.hid (show Below wr.heap.size wr u1 from (((Below.refl _ _).alloc (Nat.le_refl _) _).alloc (by simp) _).drew.trans (hb1.mono (by simp; omega)))
                  have Q1 := Lib.hid hb1
                  clear hb1
                  obtain ⟨hc1, hf1⟩ := bcell Q1.out
                  go_wp2_with fail
                  refine (C2.out _).mono ?_
                  rintro e u2 ⟨rfl, hb2⟩
                  have S2 := Lib.hid (below_more S1.out hb2 S1.out.size)
                  have Q2 := Lib.hid (below_more Q1.out hb2 Q1.out.size)
                  clear hc1 hf1
                  clear hb2
                  obtain ⟨hc2, hf2⟩ := bcell Q2.out
                  go_wp2_with fail
                  refine (C3.out _).mono ?_
                  rintro e u3 ⟨rfl, hb3⟩
                  have S3 := Lib.hid (below_more S2.out hb3 S2.out.size)
                  have Q3 := Lib.hid (below_more Q2.out hb3 Q2.out.size)
                  clear hc2 hf2
                  clear hb3
                  have Hst := S3.out
                  have HB2 := Lib.hid (below_more HB.out Hst (by omega))
                  have HW2 := Lib.hid (owns_below HW.out Hst)
                  have hcb : u3.cell? ⟨w.heap.size, 1, none⟩ = some (.slice (some ⟨b, off, none⟩) len cap) := (Hst.cell (p := ⟨w.heap.size, 1, none⟩) hsz).trans hcell
                  have hs2 := Hst.size
                  clear Hst
                  go_wp2
                  go_roundw
                  case rel => exact ⟨j + 1, m, ys, by omega, by omega, by go_num, HW2.out, ⟨fun h => ⟨(HNO.out.1 h).1, fun a ha => by
                    by_cases e : a = j
                    · subst e; rw [ht.out, ht'.out]; exact HF.out
                    · exact (HNO.out.1 h).2 a (by omega)⟩, fun h => HNO.out.2 ⟨h.1, fun a ha => h.2 a (by omega)⟩⟩, hcb, HB2.out, by omega⟩
                  case measure => simp [intOf]; omega
              · skip
                rw [h1] at q1
                have C1 := Lib.hid q1
                rw [h2] at q2
                have C2 := Lib.hid q2
                rw [h3] at q3
                have C3 := Lib.hid q3
                clear q1 q2 q3
                have HX := Lib.hid (show mirB (x, y, z) (x', y', z') = true from by rw [hmir, h1, h2, h3]; rfl)
                clear hmir h1 h2 h3
                go_wp2
                go_region
                all_goals
                  go_wp2_with fail
                  refine (C1.out _).mono ?_
                  rintro e u1 ⟨rfl, hb1⟩
                  have S1 := Lib.hid (show Below wr.heap.size wr u1 from (((Below.refl _ _).alloc (Nat.le_refl _) _).alloc (by simp) _).drew.trans (hb1.mono (by simp; omega)))
                  have Q1 := Lib.hid hb1
                  clear hb1
                  obtain ⟨hc1, hf1⟩ := bcell Q1.out
                  go_wp2_with fail
                  refine (C2.out _).mono ?_
                  rintro e u2 ⟨rfl, hb2⟩
                  have S2 := Lib.hid (below_more S1.out hb2 S1.out.size)
                  have Q2 := Lib.hid (below_more Q1.out hb2 Q1.out.size)
                  clear hc1 hf1
                  clear hb2
                  obtain ⟨hc2, hf2⟩ := bcell Q2.out
                  go_wp2_with fail
                  refine (C3.out _).mono ?_
                  rintro e u3 ⟨rfl, hb3⟩
                  have S3 := Lib.hid (below_more S2.out hb3 S2.out.size)
                  have Q3 := Lib.hid (below_more Q2.out hb3 Q2.out.size)
                  clear hc2 hf2
                  clear hb3
                  have Hst := S3.out
                  have HB2 := Lib.hid (below_more HB.out Hst (by omega))
                  have HW2 := Lib.hid (owns_below HW.out Hst)
                  have hcb : u3.cell? ⟨w.heap.size, 1, none⟩ = some (.slice (some ⟨b, off, none⟩) len cap) := (Hst.cell (p := ⟨w.heap.size, 1, none⟩) hsz).trans hcell
                  have hs2 := Hst.size
                  clear Hst
                  go_wp2_with (at_builtin; refine wpList_append_new _ rfl _ _ 109 rfl (w.heap.size + 1) 123 i0 _ 3 24 (by kernel_rfl) hi hz0 hz1 hz2 rfl (by decide) _ _ _ rfl HW2.out _ _ _ rfl (by first | rfl | simp) rfl ?_ ?_ ?_ ?_ ?_)
                  · exact ⟨rfl, rfl, rfl⟩
                  · unfold maxLen; omega
                  · omega
                  · omega
                  · intro v' w3 hown3 hbel hgr
                    have HW3 := Lib.hid hown3
                    have HB3 := Lib.hid (hbel w.heap.size w (by omega) HB2.out)
                    have hc3 : w3.cell? ⟨w.heap.size, 1, none⟩ = some (.slice (some ⟨b, off, none⟩) len cap) := ((hbel (w.heap.size + 1) u3 (Nat.le_refl _) (Below.refl _ _)).cell (p := ⟨w.heap.size, 1, none⟩) (Nat.lt_succ_self _)).trans hcb
                    have hs3 := (hbel (w.heap.size + 1) u3 (Nat.le_refl _) (Below.refl _ _)).size
                    clear hown3 hbel hgr hcb
                    go_wp2
                    go_roundw
                    case rel => exact ⟨j + 1, m + 1, _, by omega, by omega, by go_num, HW3.out, ⟨fun h => by omega, fun h => by have := h.2 j (by omega); rw [ht.out, ht'.out, HX.out] at this; cases this⟩, hc3, HB3.out, by omega⟩
                    case measure => simp [intOf]; omega
        · obtain rfl : j = k := by omega
          have HW := Lib.hid hown
          have HB := Lib.hid hb
          have HNO := Lib.hid (show m = 0 ↔ ∀ b a, b < j + 1 → a < b → mirB (T! T a) (T! T b) = false from ⟨fun h b a hb ha => by
            by_cases e : b = j
            · subst e; exact (hno.1 h).2 a ha
            · exact (hno.1 h).1 b a (by omega) ha, fun h => hno.2 ⟨fun b a hb ha => h b a (by omega) ha, fun a ha => h j a (by omega) ha⟩⟩)
          clear hown hno hb
          go_wp2
          go_roundw
          case rel => exact ⟨j + 1, m, ys, by omega, by omega, by go_num, HW.out, HNO.out, hcell, HB.out, hsz⟩
          case measure => simp [intOf]; omega
    · obtain rfl : len = k := by omega
      go_wp2
      go_ret
      exact ⟨_, m, xs, rfl, owns_base HW.out (by omega), by omega, HNO.out, HB.out⟩
set_option maxRecDepth 100000 in
set_option maxHeartbeats 1000000 in
theorem rindex_any (N : Int) (ao : Option Addr) (cap : Nat) (T : List Tr) (w : World) (hT : TrisAt w ao T) (hl : T.length ≤ 10000) :
    Calls Tryz.prog 96 #[.agg #[.int .i64 N, .slice ao T.length cap]] w fun e w' => ∃ v, e = .returned v ∧
      Wits w' w.heap.size v (0 ≤ N ∧ N ≤ 4096 ∧ T.length ≤ 8192 ∧ VIn N T) ∧ Below w.heap.size w w' := by
  obtain ⟨i0, hi, hz0, hz1, hz2⟩ := info_parts info95
  obtain ⟨len, hlen⟩ : ∃ n, n = T.length := ⟨_, rfl⟩
  rw [← hlen] at hl ⊢
  have HL := Lib.hid hlen
  have HT := Lib.hid hT
  clear hlen hT
  by_cases hbig : N < 0 ∨ 4096 < N ∨ 8192 < len
  · have hfin : ∀ g : Nat, RowIs (((w.alloc (.cells #[.int .i64 N, .slice ao len cap] 24)).alloc (.cells #[.int .i64 1, .int .i64 (-1), .int .i64 0] 123))) (w.heap.size + 1) 123 [.int .i64 1, .int .i64 (-1), .int .i64 0] := fun _ => by
      have := RowIs.made (w.alloc (.cells #[.int .i64 N, .slice ao len cap] 24)) 123 [.int .i64 1, .int .i64 (-1), .int .i64 0]
      simpa using this
    have HF := Lib.hid ((hfin 0).owns (base := w.heap.size) (size := 3) (n := 1) (by omega) rfl (by decide))
    have HB := Lib.hid (((Below.refl w.heap.size w).alloc (Nat.le_refl _) (.cells #[.int .i64 N, .slice ao len cap] 24)).alloc (by simp) (.cells #[.int .i64 1, .int .i64 (-1), .int .i64 0] 123))
    clear hfin
    by_cases h1 : N < 0
    · clear hbig
      go_enter Tryz.func96, Tryz.ntmps96
      go_wp2
      go_ret
      exact ⟨_, rfl, ⟨1, _, HF.out, by omega, ⟨fun h => by omega, fun h => by have := HL.out; omega⟩⟩, HB.out⟩
    · have d1 : decide (N < 0) = false := by simpa using h1
      by_cases h2 : 4096 < N
      · clear hbig
        go_enter Tryz.func96, Tryz.ntmps96
        go_wp2
        go_ret
        exact ⟨_, rfl, ⟨1, _, HF.out, by omega, ⟨fun h => by omega, fun h => by have := HL.out; omega⟩⟩, HB.out⟩
      · have d2 : decide (4096 < N) = false := by simpa using h2
        have h3 : 8192 < len := by omega
        clear hbig
        go_enter Tryz.func96, Tryz.ntmps96
        go_wp2
        go_ret
        exact ⟨_, rfl, ⟨1, _, HF.out, by omega, ⟨fun h => by omega, fun h => by have := HL.out; omega⟩⟩, HB.out⟩
  · have h1 : ¬ N < 0 := fun h => hbig (.inl h)
    have h2 : ¬ 4096 < N := fun h => hbig (.inr (.inl h))
    have h3 : ¬ 8192 < len := fun h => hbig (.inr (.inr h))
    have d1 : decide (N < 0) = false := by simpa using h1
    have d2 : decide (4096 < N) = false := by simpa using h2
    have d3 : decide (8192 < len) = false := by simpa using h3
    clear hbig
    go_enter Tryz.func96, Tryz.ntmps96
    go_wp2
    clear d1 d2 d3
    go_loopw [4, 3] (fun i v ws => ∃ (k m : Nat) (xs : List Value), k ≤ len ∧ m ≤ k ∧ i = .int .i64 k ∧ ws.ownsRow (w.heap.size + 1) 123 3 v m xs ∧ (m = 0 ↔ ∀ i, i < k → ∀ j, j < 3 → 0 ≤ tg (T! T i) j ∧ tg (T! T i) j < N) ∧
        Below (w.heap.size + 1) (w.alloc (.cells #[.int .i64 N, .slice ao len cap] 24)) ws) (fun i _ _ => len - (intOf i).toNat)
    case atStart => exact ⟨0, 0, [], by omega, by omega, rfl, World.ownsRow_nil _ _ _ _, ⟨fun _ i h => by omega, fun _ => rfl⟩, Below.refl _ _⟩
    case round =>
      obtain ⟨k, m, xs, hk, hm, rfl, hown, hno, hb⟩ := hrel
      have HW := Lib.hid hown
      have HNO := Lib.hid hno
      obtain ⟨hc0, hc1, hbw, hsz⟩ := box_soup hb
      have HB := Lib.hid hb
      clear hown hno hb
      by_cases hlt : k < len
      · have HAT := Lib.hid (fun (j : Nat) (hj : j < 3) => HT.out.at (i := k) (j := j) (by have := HL.out; omega) hj)
        obtain ⟨b, off, rfl, -, hbs⟩ := HAT.out 0 (by omega)
        go_wp2
        go_loopw [6, 5] (fun i v ys => ∃ (j : Nat) (β : Bool), j ≤ 3 ∧ i = .int .i64 j ∧ v = .bool β ∧ (β = false ↔ ∀ l, l < j → 0 ≤ tg (T! T k) l ∧ tg (T! T k) l < N) ∧ ∃ q, ys = wr.drewN q) (fun i _ _ => 3 - (intOf i).toNat)
        case atStart => exact ⟨0, false, by omega, rfl, rfl, ⟨fun _ l h => by omega, fun _ => rfl⟩, 0, rfl⟩
        case round =>
          obtain ⟨j, β, hj, rfl, rfl, hbad, q, rfl⟩ := hrel
          have HBad := Lib.hid hbad
          clear hbad
          by_cases hj3 : j < 3
          · obtain ⟨b', off', hE, hcell, -⟩ := HAT.out j hj3
            cases hE
            obtain ⟨x, hx⟩ : ∃ x, Hid (tg (T! T k) j = x) := ⟨_, rfl⟩
            rw [hx.out] at hcell
            have hcx : wr.cell? ⟨b, off + k * 3 + j, none⟩ = some (.int .i64 x) := (hbw.cell (p := ⟨b, _, none⟩) hbs).trans hcell
            have hk' : (k : Int) < len := by omega
            have hj' : (j : Int) < 3 := by omega
            clear hcell
            cases β
            · by_cases hx0 : x < 0
              · have dx : decide (x < 0) = true := by simpa using hx0
                have HXN := Lib.hid hx0
                go_wp2
                go_quiet (fail)
                go_wp2
                go_roundw
                case rel => exact ⟨j + 1, true, by omega, by go_num, rfl, ⟨(fun h => by cases h), fun h => by have h1 := (h j (by omega)).1; have h2 := HXN.out; rw [hx.out] at h1; omega⟩, _, rfl⟩
                case measure => simp [intOf]; omega
              · have dx : decide (x < 0) = false := by simpa using hx0
                have hOK := Lib.hid (show decide (N ≤ x) = false ↔ ∀ l, l < j + 1 → 0 ≤ tg (T! T k) l ∧ tg (T! T k) l < N from ⟨fun h l hl => by
                  by_cases e : l = j
                  · subst e
                    rw [hx.out]
                    have : ¬ N ≤ x := by simpa using h
                    omega
                  · exact HBad.out.1 rfl l (by omega), fun h => by have h1 := (h j (by omega)).2; rw [hx.out] at h1; simp; omega⟩)
                obtain ⟨γ, hγ⟩ : ∃ γ, decide (N ≤ x) = γ := ⟨_, rfl⟩
                rw [hγ] at hOK
                go_wp2
                go_quiet (fail)
                go_wp2
                go_roundw
                case rel => exact ⟨j + 1, γ, by omega, by go_num, rfl, hOK.out, _, rfl⟩
                case measure => simp [intOf]; omega
            · go_wp2
              go_quiet (fail)
              go_wp2
              go_roundw
              case rel => exact ⟨j + 1, true, by omega, by go_num, rfl, ⟨(fun h => by cases h), fun h => HBad.out.2 fun l hl => h l (by omega)⟩, _, rfl⟩
              case measure => simp [intOf]; omega
          · obtain rfl : j = 3 := by omega
            have HW' := Lib.hid (show (wr.drewN q).ownsRow _ _ _ _ _ _ from HW.out)
            have HB' := Lib.hid (HB.out.trans (show Below _ wr (wr.drewN q) from ⟨rfl, rfl, rfl, Nat.le_refl _, fun _ _ => rfl⟩))
            cases β
            · go_wp2
              go_roundw
              case rel => exact ⟨k + 1, m, xs, by omega, by omega, by go_num, HW'.out, ⟨fun h i hi j hj => by
                by_cases e : i = k
                · subst e; exact HBad.out.1 rfl j hj
                · exact HNO.out.1 h i (by omega) j hj, fun h => HNO.out.2 fun i hi => h i (by omega)⟩, HB'.out⟩
              case measure => simp [intOf]; omega
            · go_wp2_with (at_builtin; refine wpList_append_new _ rfl _ _ 109 rfl (w.heap.size + 1) 123 i0 _ 3 24 (by kernel_rfl) hi hz0 hz1 hz2 rfl (by decide) _ _ _ rfl HW'.out _ _ _ rfl (by first | rfl | simp) rfl ?_ ?_ ?_ ?_ ?_)
              · exact ⟨rfl, rfl, rfl⟩
              · unfold maxLen; omega
              · omega
              · simp; omega
              · intro v' w3 hown3 hbel hgr
                have HW3 := Lib.hid hown3
                have HB3 := Lib.hid (hbel (w.heap.size + 1) _ (Nat.le_refl _) HB'.out)
                clear hown3 hbel hgr
                go_wp2
                go_roundw
                case rel => exact ⟨k + 1, m + 1, _, by omega, by omega, by go_num, HW3.out, ⟨fun h => by omega, fun h => by have := HBad.out.2 (h k (by omega)); cases this⟩, HB3.out⟩
                case measure => simp [intOf]; omega
      · obtain rfl : len = k := by omega
        go_wp2
        go_ret
        exact ⟨_, rfl, ⟨m, xs, owns_base HW.out (by omega), by omega, ⟨fun h => ⟨by omega, by omega, by have := HL.out; omega, VIn.of_three (fun i hi => HNO.out.1 h i (by have := HL.out; omega))⟩, fun h => HNO.out.2 fun i hi j _ => h.2.2.2 i (by have := HL.out; omega) j⟩⟩, hbw⟩
def ClS (S : Nat → Nat → Prop) (n : Nat) (β : Nat → Bool) (i k : Nat) : Prop :=
  ∀ i' k', i' < n → k' < n → (i' < i ∨ i' = i ∧ k' < k) → β i' = true → S i' k' → β k' = true
/-- In round r, ahead of the pair (i, k). -/
structure MInv (S : Nat → Nat → Prop) (n r i k : Nat) (β : Nat → Bool) : Prop where
  root : β 0 = true
  prog : ClS S n β n 0 ∨ (r + 1 ≤ nTrue β n ∧ ClS S n β i k) ∨ r + 2 ≤ nTrue β n
section
variable {S : Nat → Nat → Prop} {n r i k : Nat} {β : Nat → Bool}
theorem MInv.start (h : 0 < n) : MInv S n 0 0 0 (updB (fun _ => false) 0 true) :=
  ⟨by simp [updB], .inr (.inl ⟨by rw [nTrue_set h rfl]; omega, fun _ _ _ _ h => by omega⟩)⟩
theorem MInv.keep (h : MInv S n r i k β) (hno : β i = true → S i k → β k = true) : MInv S n r i (k + 1) β :=
  ⟨h.root, by
    rcases h.prog with p | ⟨p, q⟩ | p
    · exact .inl p
    · refine .inr (.inl ⟨p, fun i' k' hi hk hlt hb hs => ?_⟩)
      by_cases e : i' = i ∧ k' = k
      · obtain ⟨rfl, rfl⟩ := e
        exact hno hb hs
      · exact q i' k' hi hk (by omega) hb hs
    · exact .inr (.inr p)⟩
theorem MInv.mark (h : MInv S n r i k β) (hi : i < n) (hk : k < n) (hb : β i = true) (hn : β k = false) (hs : S i k) : MInv S n r i (k + 1) (updB β k true) :=
  ⟨by unfold updB; split <;> simp [h.root], by
    have hc := nTrue_set (β := β) hk hn
    rcases h.prog with p | ⟨p, _⟩ | p
    · have := p i k hi hk (.inl hi) hb hs
      rw [hn] at this
      cases this
    · exact .inr (.inr (by omega))
    · exact .inr (.inr (by omega))⟩
theorem MInv.row (h : MInv S n r i n β) : MInv S n r (i + 1) 0 β :=
  ⟨h.root, by
    rcases h.prog with p | ⟨p, q⟩ | p
    · exact .inl p
    · exact .inr (.inl ⟨p, fun i' k' hi hk hlt => q i' k' hi hk (by omega)⟩)
    · exact .inr (.inr p)⟩
theorem MInv.round (h : MInv S n r n 0 β) : MInv S n (r + 1) 0 0 β :=
  ⟨h.root, by
    rcases h.prog with p | ⟨_, q⟩ | p
    · exact .inl p
    · exact .inl q
    · exact .inr (.inl ⟨by omega, fun i' k' _ _ h => by omega⟩)⟩
theorem nTrue_top (β : Nat → Bool) (n : Nat) : nTrue β n ≤ n := by
  have := List.countP_le_length (p := β) (l := List.range n)
  simpa [nTrue] using this
theorem MInv.closed (h : MInv S n n 0 0 β) : ClS S n β n 0 := by
  have := nTrue_top β n
  rcases h.prog with p | ⟨p, _⟩ | p
  · exact p
  · omega
  · omega
end
/-- Round a vertex: two of its triangles with another vertex in common, by their places. -/
def PosS (T : List Tr) (v : Int) (I : List Nat) (p q : Nat) : Prop := ∃ j, j < 3 ∧ tg (T! T (I.getD p 0)) j ≠ v ∧ hasB (T! T (I.getD q 0)) (tg (T! T (I.getD p 0)) j) = true
theorem MInv.all {T : List Tr} {v : Int} {β : Nat → Bool} (hsym : ∀ i k, PAdj T v i k → PAdj T v k i) (h : MInv (PosS T v (atV T v T.length)) (atV T v T.length).length (atV T v T.length).length 0 0 β) (hu : Unpinched T v) : ∀ p, p < (atV T v T.length).length → β p = true := by
  intro p hp
  obtain ⟨I, hI⟩ : ∃ I, I = atV T v T.length := ⟨_, rfl⟩
  have mem : ∀ p, p < (atV T v T.length).length → (atV T v T.length).getD p 0 < T.length ∧ hasB (T! T ((atV T v T.length).getD p 0)) v = true := fun p hp => atV_get hp
  have hcl := h.closed
  have idx : ∀ x, x < T.length → hasB (T! T x) v = true → ∃ p, p < (atV T v T.length).length ∧ (atV T v T.length).getD p 0 = x := fun x hx hb => by
    obtain ⟨p, hp⟩ := List.mem_iff_getElem?.1 (atV_mem.2 ⟨hx, hb⟩)
    exact ⟨p, (List.getElem?_eq_some_iff.1 hp).1, by rw [List.getD_eq_getElem?_getD, hp]; rfl⟩
  have inj : ∀ p q, p < (atV T v T.length).length → q < (atV T v T.length).length → (atV T v T.length).getD p 0 = (atV T v T.length).getD q 0 → p = q := fun p q hp hq e => by
    rw [List.getD_eq_getElem?_getD, List.getD_eq_getElem?_getD, List.getElem?_eq_getElem hp, List.getElem?_eq_getElem hq] at e
    exact (List.getElem_inj (atV_nodup T v T.length)).1 (by simpa using e)
  have step : ∀ x y, PAdj T v x y → ∀ p q, p < (atV T v T.length).length → q < (atV T v T.length).length → (atV T v T.length).getD p 0 = x → (atV T v T.length).getD q 0 = y → β p = true → β q = true := fun x y ha p q hp hq ep eq hb => by
    obtain ⟨-, -, -, -, j, hj, h1, h2⟩ := ha
    exact hcl p q hp hq (.inl hp) hb ⟨j, hj, by rw [ep]; exact h1, by rw [ep, eq]; exact h2⟩
  have gen : ∀ x y, Conn (PAdj T v) x y → ∀ p, p < (atV T v T.length).length → (atV T v T.length).getD p 0 = x → β p = true → ∀ q, q < (atV T v T.length).length → (atV T v T.length).getD q 0 = y → β q = true := by
    intro x y c p hp ep hb
    induction c with
    | refl =>
      intro q hq e
      obtain rfl := inj p q hp hq (ep.trans e.symm)
      exact hb
    | @step y z _ h ih =>
      intro q hq e
      obtain ⟨r, hr, er⟩ := idx y h.1 h.2.2.1
      exact step y z h r q hr hq er e (ih r hr er)
    | @back y z _ h ih =>
      intro q hq e
      obtain ⟨r, hr, er⟩ := idx y h.2.1 h.2.2.2.1
      exact step y z (hsym _ _ h) r q hr hq er e (ih r hr er)
  have h0 : 0 < (atV T v T.length).length := by omega
  obtain ⟨a1, a2⟩ := mem 0 h0
  obtain ⟨b1, b2⟩ := mem p hp
  exact gen _ _ (hu _ _ a1 b1 a2 b2) 0 h0 rfl h.root p hp rfl
theorem padj_symm {T : List Tr} {v : Int} : ∀ i k, PAdj T v i k → PAdj T v k i := by
  rintro i k ⟨h1, h2, h3, h4, j, hj, hne, h5⟩
  obtain ⟨j', hj', e⟩ := hasB_iff.1 h5
  exact ⟨h2, h1, h4, h3, j', hj', by rw [e]; exact hne, by rw [e]; exact hasB_iff.2 ⟨j, hj, rfl⟩⟩
def PinchPost (r : Bool) (P : Prop) : Prop := r = false ↔ P
/-- Ahead of corner j of a pair. -/
def PIn (T : List Tr) (v : Int) (I : List Nat) (p q j : Nat) (β γ : Nat → Bool) : Prop :=
  (γ = β ∧ ∀ l, l < j → ¬ (tg (T! T (I.getD p 0)) l ≠ v ∧ hasB (T! T (I.getD q 0)) (tg (T! T (I.getD p 0)) l) = true)) ∨ (γ = updB β q true ∧ PosS T v I p q)
theorem PIn.start (T : List Tr) (v : Int) (I : List Nat) (p q : Nat) (β : Nat → Bool) : PIn T v I p q 0 β β := .inl ⟨rfl, fun l h => by omega⟩
theorem PIn.no {T : List Tr} {v : Int} {I : List Nat} {p q j : Nat} {β γ : Nat → Bool} (h : PIn T v I p q j β γ) (hno : ¬ (tg (T! T (I.getD p 0)) j ≠ v ∧ hasB (T! T (I.getD q 0)) (tg (T! T (I.getD p 0)) j) = true)) : PIn T v I p q (j + 1) β γ := by
  rcases h with ⟨e, h⟩ | h
  · refine .inl ⟨e, fun l hl => ?_⟩
    by_cases q : l = j
    · subst q; exact hno
    · exact h l (by omega)
  · exact .inr h
theorem PIn.yes {T : List Tr} {v : Int} {I : List Nat} {p q j : Nat} {β γ : Nat → Bool} (h : PIn T v I p q j β γ) (hj : j < 3) (h1 : tg (T! T (I.getD p 0)) j ≠ v) (h2 : hasB (T! T (I.getD q 0)) (tg (T! T (I.getD p 0)) j) = true) : PIn T v I p q (j + 1) β (updB γ q true) := by
  refine .inr ⟨?_, j, hj, h1, h2⟩
  rcases h with ⟨e, -⟩ | ⟨e, -⟩
  · rw [e]
  · rw [e]
    funext x
    unfold updB
    split <;> rfl
theorem PIn.stop {T : List Tr} {v : Int} {I : List Nat} {p q r : Nat} {β γ : Nat → Bool} (h : PIn T v I p q 3 β γ) (hm : MInv (PosS T v I) I.length r p q β) (hp : p < I.length) (hq : q < I.length) (hb : β p = true) (hn : β q = false) : MInv (PosS T v I) I.length r p (q + 1) γ := by
  rcases h with ⟨rfl, h⟩ | ⟨rfl, h⟩
  · exact hm.keep fun _ ⟨j, hj, h1, h2⟩ => absurd ⟨h1, h2⟩ (h j hj)
  · exact hm.mark hp hq hb hn h
/-- In the middle of the marking: the marks, and that what is marked is reached. -/
def PSt (T : List Tr) (v : Int) (I : List Nat) (W ws : World) (β : Nat → Bool) : Prop := RowIs ws W.heap.size 4 (bv β I.length) ∧ PInv T v I β ∧ Below W.heap.size W ws
theorem PSt.more {T : List Tr} {v : Int} {I : List Nat} {W ws wt : World} {β : Nat → Bool} (h : PSt T v I W ws β) (hb : Below ws.heap.size ws wt) : PSt T v I W wt β :=
  ⟨h.1.below hb h.1.lt, h.2.1, below_more h.2.2 hb h.2.2.size⟩
theorem len_iff_pos {n : Nat} (h : ¬ n = 0) : ((n : Int) == 0) = false := by simp; omega
set_option maxRecDepth 100000 in
set_option maxHeartbeats 2000000 in
theorem pinched_any (N : Int) (ao : Option Addr) (cap : Nat) (T : List Tr) (v : Int) (w : World) (hT : TrisAt w ao T) (hl : T.length ≤ 10000) :
    Calls Tryz.prog 99 #[.agg #[.int .i64 N, .slice ao T.length cap], .int .i64 v] w fun e w' => ∃ r, e = .returned (.bool r) ∧ PinchPost r (Unpinched T v) ∧ Below w.heap.size w w' := by
  obtain ⟨i0, hi, hz0, hz1, hz2⟩ := info_parts info49
  obtain ⟨len, hlen⟩ : ∃ n, n = T.length := ⟨_, rfl⟩
  rw [← hlen] at hl ⊢
  have HL := Lib.hid hlen
  have HT := Lib.hid (hT.mono (Nat.le_refl _) ((Below.refl _ _).alloc (Nat.le_refl _) (.cells #[.int .i64 N, .slice ao len cap] 24)))
  clear hlen hT
  go_enter Tryz.func99, Tryz.ntmps99
  go_wp2
  go_loopw [6, 5] (fun i u ws => ∃ (k : Nat), k ≤ len ∧ i = .int .i64 k ∧ ws.ownsRow (w.heap.size + 1) 49 3 u (atV T v k).length (tcells ((atV T v k).map (T! T))) ∧
      Below (w.heap.size + 1) (w.alloc (.cells #[.int .i64 N, .slice ao len cap] 24)) ws) (fun i _ _ => len - (intOf i).toNat)
  case atStart => exact ⟨0, by omega, rfl, by exact World.ownsRow_nil _ _ _ _, Below.refl _ _⟩
  case round =>
    obtain ⟨k, hk, rfl, hown, hb⟩ := hrel
    obtain ⟨hc0, hc1, hbw, hsz⟩ := box_soup hb
    have hle := atV_le T v k
    have HW := Lib.hid hown
    have HB := Lib.hid hb
    have HBw := Lib.hid hbw
    clear hbw
    by_cases hlt : k < len
    · obtain ⟨b, off, x, y, z, rfl, ht, g0, g1, g2, hbs, hbs'⟩ := HT.out.get (by simp) HB.out (i := k) (by have := HL.out; omega)
      clear hown hb hbs
      have hct := fun w => has_tri x y z v w
      cases hh : hasB (x, y, z) v
      · rw [hh] at hct
        have HC := Lib.hid hct
        have hE := atV_succ_no (T := T) (v := v) (k := k) (by rw [ht.out]; exact hh)
        have HE := Lib.hid hE
        clear hct hh hE
        go_wp2_with fail
        refine (HC.out _).mono ?_
        rintro e w2 ⟨rfl, hb2⟩
        have HB2 := Lib.hid (below_more HB.out hb2 (by omega))
        have HW2 := Lib.hid (owns_below HW.out hb2)
        clear hb2
        go_wp2
        go_roundw
        case rel => exact ⟨k + 1, by omega, by go_num, by rw [HE.out]; exact HW2.out, HB2.out⟩
        case measure => simp [intOf]; omega
      · rw [hh] at hct
        have HC := Lib.hid hct
        have hE := atV_succ_yes (T := T) (v := v) (k := k) (by rw [ht.out]; exact hh)
        have HE := Lib.hid hE
        clear hct hh hE
        go_wp2_with fail
        refine (HC.out _).mono ?_
        rintro e w2 ⟨rfl, hb2⟩
        have HB2 := Lib.hid (below_more HB.out hb2 (by omega))
        have HW2 := Lib.hid (owns_below HW.out hb2)
        have hs2 := hb2.size
        obtain ⟨hca, hcb⟩ := bcell hb2
        clear hb2
        go_wp2_with (at_builtin; refine wpList_append_new _ rfl _ _ 22 rfl (w.heap.size + 1) 49 i0 _ 3 24 (by kernel_rfl) hi hz0 hz1 hz2 rfl (by decide) _ _ _ rfl HW2.out _ _ _ rfl (by first | rfl | simp) rfl ?_ ?_ ?_ ?_ ?_)
        · exact ⟨rfl, rfl, rfl⟩
        · unfold maxLen; omega
        · omega
        · omega
        · intro v' w3 hown3 hbel hgr
          have HW3 := Lib.hid hown3
          have HB3 := Lib.hid (hbel (w.heap.size + 1) _ (Nat.le_refl _) HB2.out)
          clear hown3 hbel hgr hca hcb
          go_wp2
          go_roundw
          case rel => exact ⟨k + 1, by omega, by go_num, by
            rw [HE.out, List.map_append, List.map_singleton, tcells_snoc, ht.out, List.length_append]
            exact HW3.out, HB3.out⟩
          case measure => simp [intOf]; omega
    · obtain rfl : len = k := by omega
      obtain ⟨W1, rfl⟩ : ∃ W1 : World, W1 = wr := ⟨_, rfl⟩
      obtain ⟨io, icap, rfl, hIT⟩ := owns_tris (L := (atV T v len).map (T! T)) (by simpa using hown)
      rw [List.length_map] at *
      have HI := Lib.hid hIT
      have HmT := Lib.hid (show len = T.length from HL.out)
      clear hown hb hIT HW
      obtain ⟨I, hI⟩ : ∃ I, I = atV T v len := ⟨_, rfl⟩
      rw [← hI] at hle HI ⊢
      have HII := Lib.hid hI
      clear hI
      by_cases hm0 : I.length = 0
      · have HE := Lib.hid (show Unpinched T v from PInv.empty (by rw [← HmT.out, ← HII.out]; exact hm0))
        rw [hm0]
        clear HI hm0
        go_wp2
        go_ret
        exact ⟨false, rfl, ⟨fun _ => HE.out, fun _ => rfl⟩, HBw.out⟩
      · have hm1 := len_iff_pos hm0
        have hmp : 0 < I.length := by omega
        clear hi hz0 hz1 hz2 i0
        obtain ⟨i0, hi, hz0, hz1, hz2⟩ := info_parts info4
        go_wp2_with (at_make; refine wpList_make_full _ rfl _ _ _ rfl W1.heap.size 4 i0 (.bool false) 1 (by kernel_rfl) hi hz0 hz1 _ _ _ _ I.length rfl rfl rfl rfl (by rw [hz2]; omega) (by unfold maxLen; omega) (Nat.le_refl _) ?_)
        intro w2 hown2 hgr2
        rw [madeCells_bv] at hown2
        have hrow := RowIs.of_owns hown2
        have hb2 : Below W1.heap.size W1 w2 := (Below.refl _ _).grown hgr2 (Nat.le_refl _) (by simp)
        have hc0' := hrow.cell (bv_get (fun _ => false) hmp)
        have hf0' := hrow.free 0
        have hr2 := hrow.set 0 (.bool true)
        rw [bv_set] at hr2
        have HS := Lib.hid (show PSt T v I W1 (w2.setCell ⟨W1.heap.size, 0, none⟩ (.bool true)) (updB (fun _ => false) 0 true) from ⟨hr2, PInv.start _ _ _, hb2.setCell (Nat.le_refl _) _⟩)
        clear hown2 hgr2 hrow hb2 hr2 hc0 hc1
        go_wp2
        clear hc0' hf0'
        go_loopw [45] (fun i ws => ∃ (r : Nat) (β : Nat → Bool), r ≤ I.length ∧ i = .int .i64 r ∧ PSt T v I W1 ws β ∧ MInv (PosS T v I) I.length r 0 0 β) (fun i _ => I.length - (intOf i).toNat)
        case atStart => exact ⟨0, _, by omega, rfl, HS.out, MInv.start hmp⟩
        case round =>
          clear HS
          obtain ⟨r, β, hr, rfl, hst, hmi⟩ := hrel
          have HS := Lib.hid hst
          have HMI := Lib.hid hmi
          clear hst hmi
          by_cases hrm : r < I.length
          · go_wp2
            go_loopw [8] (fun i ws => ∃ (p : Nat) (β : Nat → Bool), p ≤ I.length ∧ i = .int .i64 p ∧ PSt T v I W1 ws β ∧ MInv (PosS T v I) I.length r p 0 β) (fun i _ => I.length - (intOf i).toNat)
            case atStart => exact ⟨0, β, by omega, rfl, HS.out, HMI.out⟩
            case round =>
              clear HS HMI
              obtain ⟨p, β, hp, rfl, hst, hmi⟩ := hrel
              have HS := Lib.hid hst
              have HMI := Lib.hid hmi
              clear hst hmi
              by_cases hpm : p < I.length
              · go_wp2
                go_loopw [9] (fun i ws => ∃ (q : Nat) (β : Nat → Bool), q ≤ I.length ∧ i = .int .i64 q ∧ PSt T v I W1 ws β ∧ MInv (PosS T v I) I.length r p q β) (fun i _ => I.length - (intOf i).toNat)
                case atStart => exact ⟨0, β, by omega, rfl, HS.out, HMI.out⟩
                case round =>
                  clear HS HMI
                  obtain ⟨q, β, hq, rfl, hst, hmi⟩ := hrel
                  have HMI := Lib.hid hmi
                  clear hmi
                  by_cases hqm : q < I.length
                  · have hcp := hst.1.cell (bv_get β hpm)
                    have hcq := hst.1.cell (bv_get β hqm)
                    have HS := Lib.hid hst
                    clear hst
                    obtain ⟨x, hx⟩ : ∃ x, Hid (β p = x) := ⟨_, rfl⟩
                    obtain ⟨y, hy⟩ : ∃ y, Hid (β q = y) := ⟨_, rfl⟩
                    rw [hx.out] at hcp
                    rw [hy.out] at hcq
                    cases x
                    · go_wp2
                      go_roundw
                      case rel => exact ⟨q + 1, β, by omega, by go_num, HS.out, HMI.out.keep fun h => by rw [hx.out] at h; cases h⟩
                      case measure => simp [intOf]; omega
                    · cases y
                      · obtain ⟨b, off, hE1, hbI⟩ : ∃ b off, io = some ⟨b, off, none⟩ ∧ b < W1.heap.size := by
                          obtain ⟨b, off, e, -, hb⟩ := HI.out.at (i := 0) (j := 0) (by simpa using hmp) (by omega)
                          exact ⟨b, off, e, hb⟩
                        cases hE1
                        go_wp2
                        clear hcp hcq
                        go_loopw [10] (fun i xs => ∃ (j : Nat) (γ : Nat → Bool), j ≤ 3 ∧ i = .int .i64 j ∧ PSt T v I W1 xs γ ∧ γ p = true ∧ PIn T v I p q j β γ) (fun i _ => 3 - (intOf i).toNat)
                        case atStart => exact ⟨0, β, by omega, rfl, HS.out, hx.out, PIn.start _ _ _ _ _ _⟩
                        case round =>
                          clear HS
                          obtain ⟨j, γ, hj, rfl, hst, hγ, hpin⟩ := hrel
                          have HG := Lib.hid hγ
                          have HP := Lib.hid hpin
                          clear hγ hpin
                          by_cases hj3 : j < 3
                          · obtain ⟨b', off', hE, hcell, -⟩ := HI.out.at (i := p) (j := j) (by simpa using hpm) hj3
                            cases hE
                            obtain ⟨b', off', a1, a2, a3, hE, ht, g0, g1, g2, -, -⟩ := HI.out.get (Nat.le_refl _) hst.2.2 (i := q) (by simpa using hqm)
                            cases hE
                            obtain ⟨u, hu⟩ : ∃ u, Hid (tg (T! (I.map (T! T)) p) j = u) := ⟨_, rfl⟩
                            rw [hu.out] at hcell
                            have hcx := (hst.2.2.cell (p := ⟨b, off + p * 3 + j, none⟩) hbI).trans hcell
                            have hfz := hst.1.free q
                            have hcq := hst.1.cell (bv_get γ hqm)
                            have HS := Lib.hid hst
                            clear hst hcell
                            have HUE := Lib.hid (show tg (T! T (I.getD p 0)) j = u from by have := hu.out; rwa [T!_map I T p hpm] at this)
                            have HTE := Lib.hid (show T! T (I.getD q 0) = (a1, a2, a3) from by have := ht.out; rwa [T!_map I T q hqm] at this)
                            cases huv : u == v
                            · have hne : (u != v) = true := by simp [bne, huv]
                              have hct := fun w => has_tri a1 a2 a3 u w
                              cases hh : hasB (a1, a2, a3) u
                              · rw [hh] at hct
                                have HC := Lib.hid hct
                                have HP2 := Lib.hid (HP.out.no (by rw [HUE.out, HTE.out, hh]; simp))
                                clear hct hh hcq hfz
                                go_wp2_with fail
                                refine (HC.out _).mono ?_
                                rintro e w3 ⟨rfl, hb3⟩
                                have HS3 := Lib.hid (HS.out.more hb3)
                                clear hb3
                                go_wp2
                                go_roundw
                                case rel => exact ⟨j + 1, γ, by omega, by go_num, HS3.out, HG.out, HP2.out⟩
                                case measure => simp [intOf]; omega
                              · have HM := Lib.hid (show PInv T v I (updB γ q true) from by
                                  have h1 := HS.out.2.1
                                  have e1 := hu.out
                                  rw [T!_map I T p hpm] at e1
                                  have e2 := ht.out
                                  rw [T!_map I T q hqm] at e2
                                  have hnv : ¬ u = v := by simpa using huv
                                  have := HII.out
                                  subst this
                                  exact h1.mark (by have := HmT.out; omega) hpm hqm HG.out hj3 (by rw [e1]; exact hnv) (by rw [e1, e2]; exact hh))
                                have HP2 := Lib.hid (HP.out.yes hj3 (by rw [HUE.out]; simpa using huv) (by rw [HUE.out, HTE.out]; exact hh))
                                rw [hh] at hct
                                have HC := Lib.hid hct
                                clear hct hh
                                go_wp2_with fail
                                refine (HC.out _).mono ?_
                                rintro e w3 ⟨rfl, hb3⟩
                                have HS3 := Lib.hid (HS.out.more hb3)
                                have hcq3 := HS3.out.1.cell (bv_get γ hqm)
                                have hfz3 := HS3.out.1.free q
                                have hr4 := HS3.out.1.set q (.bool true)
                                rw [bv_set] at hr4
                                have HS4 := Lib.hid (show PSt T v I W1 (w3.setCell ⟨W1.heap.size, q, none⟩ (.bool true)) (updB γ q true) from ⟨hr4, HM.out, HS3.out.2.2.setCell (Nat.le_refl _) _⟩)
                                have HG4 := Lib.hid (show updB γ q true p = true from by unfold updB; split <;> simp [HG.out])
                                clear hb3 hcq hfz hr4 g0 g1 g2 hcx
                                generalize γ q = gq at *
                                go_wp2
                                go_roundw
                                case rel => exact ⟨j + 1, updB γ q true, by omega, by go_num, HS4.out, HG4.out, HP2.out⟩
                                case measure => simp [intOf]; omega
                            · have hne : (u != v) = false := by simp [bne, huv]
                              have HP2 := Lib.hid (HP.out.no (by rw [HUE.out]; intro h; exact h.1 (by simpa using huv)))
                              clear hcq hfz g0 g1 g2
                              go_wp2
                              go_roundw
                              case rel => exact ⟨j + 1, γ, by omega, by go_num, HS.out, HG.out, HP2.out⟩
                              case measure => simp [intOf]; omega
                          · have HS := Lib.hid hst
                            have HM9 := Lib.hid (show MInv (PosS T v I) I.length r p (q + 1) γ from by
                              obtain rfl : j = 3 := by omega
                              exact HP.out.stop HMI.out hpm hqm hx.out hy.out)
                            clear hst
                            go_wp2
                            go_roundw
                            case rel => exact ⟨q + 1, γ, by omega, by go_num, HS.out, HM9.out⟩
                            case measure => simp [intOf]; omega
                      · go_wp2
                        go_roundw
                        case rel => exact ⟨q + 1, β, by omega, by go_num, HS.out, HMI.out.keep fun _ _ => hy.out⟩
                        case measure => simp [intOf]; omega
                  · have HS := Lib.hid hst
                    have HM9 := Lib.hid (show MInv (PosS T v I) I.length r (p + 1) 0 β from by
                      obtain rfl : q = I.length := by omega
                      exact HMI.out.row)
                    clear hst
                    go_wp2
                    go_roundw
                    case rel => exact ⟨p + 1, β, by omega, by go_num, HS.out, HM9.out⟩
                    case measure => simp [intOf]; omega
              · have HM9 := Lib.hid (show MInv (PosS T v I) I.length (r + 1) 0 0 β from by
                  obtain rfl : p = I.length := by omega
                  exact HMI.out.round)
                go_wp2
                go_roundw
                case rel => exact ⟨r + 1, β, by omega, by go_num, HS.out, HM9.out⟩
                case measure => simp [intOf]; omega
          · have HALL := Lib.hid (show Unpinched T v → ∀ p, p < I.length → β p = true from by
              obtain rfl : r = I.length := by omega
              have h1 := HMI.out
              rw [HII.out, HmT.out] at h1 ⊢
              exact fun hu => h1.all padj_symm hu)
            go_wp2
            go_loopw [12] (fun i xs => ∃ (p : Nat), p ≤ I.length ∧ i = .int .i64 p ∧ PSt T v I W1 xs β ∧ ∀ l, l < p → β l = true) (fun i _ => I.length - (intOf i).toNat)
            case atStart => exact ⟨0, by omega, rfl, HS.out, fun l h => by omega⟩
            case round =>
              clear HS
              obtain ⟨p, hp, rfl, hst, hall⟩ := hrel
              by_cases hpm : p < I.length
              · have hcp := hst.1.cell (bv_get β hpm)
                have HS := Lib.hid hst
                have HA := Lib.hid hall
                clear hst hall
                obtain ⟨x, hx⟩ : ∃ x, Hid (β p = x) := ⟨_, rfl⟩
                rw [hx.out] at hcp
                cases x
                · go_wp2
                  go_ret
                  exact ⟨true, rfl, ⟨(fun h => by cases h), fun hu => by have := HALL.out hu p hpm; rw [hx.out] at this; cases this⟩, below_more HBw.out HS.out.2.2 HBw.out.size⟩
                · go_wp2
                  go_roundw
                  case rel => exact ⟨p + 1, by omega, by go_num, HS.out, fun l hl => by
                    by_cases e : l = p
                    · subst e; exact hx.out
                    · exact HA.out l (by omega)⟩
                  case measure => simp [intOf]; omega
              · have HE := Lib.hid (show Unpinched T v from by
                  have h1 := hst.2.1
                  rw [HII.out, HmT.out] at h1
                  exact h1.stop (fun l hl => hall l (by rw [← HmT.out, ← HII.out] at hl; omega)))
                have HS := Lib.hid hst
                clear hst hall
                go_wp2
                go_ret
                exact ⟨false, rfl, ⟨fun _ => HE.out, fun _ => rfl⟩, below_more HBw.out HS.out.2.2 HBw.out.size⟩
theorem anyB_none {T : List Tr} {v : Int} {k i : Nat} (h : anyB T v k = false) (hi : i < k) : hasB (T! T i) v = false := by
  unfold anyB at h
  rw [List.any_eq_false] at h
  simpa using h i (List.mem_range.2 hi)
set_option maxRecDepth 100000 in
set_option maxHeartbeats 4000000 in
theorem rall_any (N : Int) (ao : Option Addr) (cap : Nat) (T : List Tr) (w : World) (hT : TrisAt w ao T) (hl : T.length ≤ 10000) :
    Calls Tryz.prog 82 #[.agg #[.int .i64 N, .slice ao T.length cap]] w fun e w' => ∃ v, e = .returned v ∧ Wits w' w.heap.size v (Surf N T) ∧ Below w.heap.size w w' := by
  obtain ⟨i0, hi, hz0, hz1, hz2⟩ := info_parts info95
  have HT := Lib.hid (hT.mono (Nat.le_refl _) ((Below.refl _ _).alloc (Nat.le_refl _) (.cells #[.int .i64 N, .slice ao T.length cap] 24)))
  have HC1 := Lib.hid (rindex_any N ao cap T (w.alloc (.cells #[.int .i64 N, .slice ao T.length cap] 24)) HT.out hl)
  obtain ⟨len, hlen⟩ : ∃ n, n = T.length := ⟨_, rfl⟩
  rw [← hlen] at hl HT HC1 ⊢
  have HL := Lib.hid hlen
  clear hlen hT
  go_enter Tryz.func82, Tryz.ntmps82
  go_wp2_with fail
  refine (HC1.out).mono ?_
  rintro e w1 ⟨v1, rfl, ⟨m1, xs1, hown1, hm1, hP1⟩, hb1⟩
  obtain ⟨hc0, hc1, hbw1, hsz1⟩ := box_soup (hb1.mono (by simp))
  obtain ⟨a1, c1, rfl⟩ := owns_slice hown1
  have HW1 := Lib.hid (owns_base hown1 (base' := w.heap.size + 1) (by simp))
  have HB1 := Lib.hid (show Below (w.heap.size + 1) _ w1 from hb1.mono (by simp))
  have HP1 := Lib.hid hP1
  have HBw1 := Lib.hid hbw1
  clear hown1 hP1 hb1 HC1 hbw1
  by_cases hz : m1 = 0
  case neg =>
    have hd : decide (0 < m1) = true := by simp; omega
    go_wp2
    go_ret
    exact ⟨_, rfl, ⟨m1, xs1, owns_base HW1.out (by omega), hm1, ⟨fun h => absurd h hz, fun h => HP1.out.2 ⟨h.n0, h.n1, by have := h.t1; have := HL.out; omega, h.vin⟩⟩⟩, HBw1.out⟩
  case pos =>
    have HI := Lib.hid (HP1.out.1 hz)
    subst hz
    go_wp2
    -- GEN
    clear hc0 hc1
    go_loopw [4, 3] (fun i v ws => ∃ (k m : Nat) (xs : List Value), k ≤ len ∧ m ≤ k ∧ i = .int .i64 k ∧ ws.ownsRow (w.heap.size + 1) 123 3 v m xs ∧ (m = 0 ↔ ∀ i, i < k → loopB (T! T i) = false) ∧
        Below (w.heap.size + 1) (w.alloc (.cells #[.int .i64 N, .slice ao len cap] 24)) ws) (fun i _ _ => len - (intOf i).toNat)
    case atStart => exact ⟨0, 0, xs1, by omega, by omega, rfl, HW1.out, ⟨fun _ i h => by omega, fun _ => rfl⟩, HB1.out⟩
    case round =>
      clear HW1 HB1 HBw1 HP1
      obtain ⟨k, m, xs, hk, hm, rfl, hown, hno, hb⟩ := hrel
      obtain ⟨hc0, hc1, hbw, hsz⟩ := box_soup hb
      have HW := Lib.hid hown
      have HNO := Lib.hid hno
      have HB := Lib.hid hb
      have HBw := Lib.hid hbw
      by_cases hlt : k < len
      · obtain ⟨b, off, x, y, z, rfl, ht, g0, g1, g2, hbs, hbs'⟩ := HT.out.get (by simp) HB.out (i := k) (by have := HL.out; omega)
        have HW2 := Lib.hid (hown.alloc (.cells #[.int .i64 x, .int .i64 y, .int .i64 z] 49))
        have HB2 := Lib.hid (HB.out.alloc (by omega) (.cells #[.int .i64 x, .int .i64 y, .int .i64 z] 49))
        clear hown hno hb hbw hbs
        cases h1 : x == y
        · cases h2 : y == z
          · cases h3 : z == x
            · have HNO' := Lib.hid (show m = 0 ↔ ∀ i, i < k + 1 → loopB (T! T i) = false from ⟨fun h i hi => by
                by_cases e : i = k
                · subst e; rw [ht.out]; unfold loopB; simp only [h1, h2, h3]; rfl
                · exact HNO.out.1 h i (by omega), fun h => HNO.out.2 fun i hi => h i (by omega)⟩)
              go_wp2
              go_roundw
              case rel => exact ⟨k + 1, m, xs, by omega, by omega, by go_num, HW2.out, HNO'.out, HB2.out⟩
              case measure => simp [intOf]; omega
            · have HX := Lib.hid h3
              go_wp2_with (at_builtin; refine wpList_append_new _ rfl _ _ 109 rfl (w.heap.size + 1) 123 i0 _ 3 24 (by kernel_rfl) hi hz0 hz1 hz2 rfl (by decide) _ _ _ rfl HW2.out _ _ _ rfl (by first | rfl | simp) rfl ?_ ?_ ?_ ?_ ?_)
              · exact ⟨rfl, rfl, rfl⟩
              · unfold maxLen; omega
              · omega
              · have := HB2.out.size
                simp at this ⊢; omega
              · intro v' w3 hown3 hbel hgr
                have HW3 := Lib.hid hown3
                have HB3 := Lib.hid (hbel (w.heap.size + 1) _ (Nat.le_refl _) HB2.out)
                clear hown3 hbel hgr
                go_wp2
                go_roundw
                case rel => exact ⟨k + 1, m + 1, _, by omega, by omega, by go_num, HW3.out, ⟨(fun h => absurd h (by omega)), fun h => by have h1 := h k (by omega); rw [ht.out] at h1; unfold loopB at h1; have h2 := HX.out; simp only [Bool.or_eq_false_iff] at h1; simp only [h1.1.1, h1.1.2, h1.2] at h2; cases h2⟩, HB3.out⟩
                case measure => simp [intOf]; omega

          · have HX := Lib.hid h2
            go_wp2_with (at_builtin; refine wpList_append_new _ rfl _ _ 109 rfl (w.heap.size + 1) 123 i0 _ 3 24 (by kernel_rfl) hi hz0 hz1 hz2 rfl (by decide) _ _ _ rfl HW2.out _ _ _ rfl (by first | rfl | simp) rfl ?_ ?_ ?_ ?_ ?_)
            · exact ⟨rfl, rfl, rfl⟩
            · unfold maxLen; omega
            · omega
            · have := HB2.out.size
              simp at this ⊢; omega
            · intro v' w3 hown3 hbel hgr
              have HW3 := Lib.hid hown3
              have HB3 := Lib.hid (hbel (w.heap.size + 1) _ (Nat.le_refl _) HB2.out)
              clear hown3 hbel hgr
              go_wp2
              go_roundw
              case rel => exact ⟨k + 1, m + 1, _, by omega, by omega, by go_num, HW3.out, ⟨(fun h => absurd h (by omega)), fun h => by have h1 := h k (by omega); rw [ht.out] at h1; unfold loopB at h1; have h2 := HX.out; simp only [Bool.or_eq_false_iff] at h1; simp only [h1.1.1, h1.1.2, h1.2] at h2; cases h2⟩, HB3.out⟩
              case measure => simp [intOf]; omega

        · have HX := Lib.hid h1
          go_wp2_with (at_builtin; refine wpList_append_new _ rfl _ _ 109 rfl (w.heap.size + 1) 123 i0 _ 3 24 (by kernel_rfl) hi hz0 hz1 hz2 rfl (by decide) _ _ _ rfl HW2.out _ _ _ rfl (by first | rfl | simp) rfl ?_ ?_ ?_ ?_ ?_)
          · exact ⟨rfl, rfl, rfl⟩
          · unfold maxLen; omega
          · omega
          · have := HB2.out.size
            simp at this ⊢; omega
          · intro v' w3 hown3 hbel hgr
            have HW3 := Lib.hid hown3
            have HB3 := Lib.hid (hbel (w.heap.size + 1) _ (Nat.le_refl _) HB2.out)
            clear hown3 hbel hgr
            go_wp2
            go_roundw
            case rel => exact ⟨k + 1, m + 1, _, by omega, by omega, by go_num, HW3.out, ⟨(fun h => absurd h (by omega)), fun h => by have h1 := h k (by omega); rw [ht.out] at h1; unfold loopB at h1; have h2 := HX.out; simp only [Bool.or_eq_false_iff] at h1; simp only [h1.1.1, h1.1.2, h1.2] at h2; cases h2⟩, HB3.out⟩
            case measure => simp [intOf]; omega

      · obtain rfl : len = k := by omega
        obtain ⟨a2, c2, rfl⟩ := owns_slice hown
        obtain ⟨W2, rfl⟩ : ∃ W2 : World, W2 = wr := ⟨_, rfl⟩
        clear hown hno hb hbw
        by_cases hz : m = 0
        case neg =>
          have hd : decide (0 < m) = true := by simp; omega
          go_wp2
          go_ret
          exact ⟨_, rfl, ⟨m, xs, owns_base HW.out (by omega), by omega, ⟨fun h => absurd h hz, fun h => HNO.out.2 fun i hi => h.noloop i (by have := HL.out; omega)⟩⟩, HBw.out⟩

        case pos =>
          have HLP := Lib.hid (HNO.out.1 hz)
          have HC2 := Lib.hid (pairs3 N ao cap T W2 (HT.out.mono (by simp) HB.out) (by have := HL.out; omega))
          rw [← HL.out] at HC2
          subst hz
          go_wp2_with fail
          refine (HC2.out).mono ?_
          rintro e w3 ⟨v3, m3, xs3, rfl, hown3, hm3, hP3, hb3⟩
          have HB3 := Lib.hid (below_more HB.out hb3 (by omega))
          obtain ⟨hc0', hc1', hbw3, hsz3⟩ := box_soup HB3.out
          obtain ⟨a3, c3, rfl⟩ := owns_slice hown3
          have HW3 := Lib.hid (owns_base hown3 (base' := w.heap.size + 1) (by omega))
          have HP3 := Lib.hid hP3
          have HBw3 := Lib.hid hbw3
          clear hown3 hP3 hb3 HC2 hbw3 HW HB HBw hc0 hc1
          by_cases hz : m3 = 0
          case neg =>
            have hd : decide (0 < m3) = true := by simp; omega
            go_wp2
            go_ret
            exact ⟨_, rfl, ⟨m3, xs3, owns_base HW3.out (by omega), by omega, ⟨fun h => absurd h hz, fun h => HP3.out.2 fun b a hb ha => h.tw b a (by have := HL.out; omega) ha⟩⟩, HBw3.out⟩
          case pos =>
            have HTW := Lib.hid (HP3.out.1 hz)
            have HC4 := Lib.hid (pairs4 N ao cap T w3 (HT.out.mono (by simp) HB3.out) (by have := HL.out; omega))
            rw [← HL.out] at HC4
            subst hz
            go_wp2_with fail
            refine (HC4.out).mono ?_
            rintro e w4 ⟨v4, m4, xs4, rfl, hown4, hm4, hP4, hb4⟩
            have HB4 := Lib.hid (below_more HB3.out hb4 (by omega))
            obtain ⟨hc0, hc1, hbw4, hsz4⟩ := box_soup HB4.out
            obtain ⟨a4, c4, rfl⟩ := owns_slice hown4
            have HW4 := Lib.hid (owns_base hown4 (base' := w.heap.size + 1) (by omega))
            have HP4 := Lib.hid hP4
            have HBw4 := Lib.hid hbw4
            clear hown4 hP4 hb4 HC4 hbw4 HW3 HB3 HBw3 hc0' hc1' HP3
            by_cases hz : m4 = 0
            case neg =>
              have hd : decide (0 < m4) = true := by simp; omega
              go_wp2
              go_ret
              exact ⟨_, rfl, ⟨m4, xs4, owns_base HW4.out (by omega), by omega, ⟨fun h => absurd h hz, fun h => HP4.out.2 fun b a hb ha => h.mir b a (by have := HL.out; omega) ha⟩⟩, HBw4.out⟩
            case pos =>
              have HMI := Lib.hid (HP4.out.1 hz)
              obtain ⟨n, hn⟩ : ∃ n : Nat, N = n := ⟨N.toNat, by have := HI.out; omega⟩
              subst hn
              have hn4 : n ≤ 4096 := by have := HI.out.2.1; omega
              subst hz
              go_wp2
              clear hc0 hc1
              go_loopw [6, 3] (fun i v ws => ∃ (k m : Nat) (xs : List Value), k ≤ n ∧ m ≤ k ∧ i = .int .i64 k ∧ ws.ownsRow (w.heap.size + 1) 123 3 v m xs ∧ (m = 0 ↔ ∀ u : Nat, u < k → ∃ i, i < len ∧ hasB (T! T i) u = true) ∧
                  Below (w.heap.size + 1) (w.alloc (.cells #[.int .i64 (n : Int), .slice ao len cap] 24)) ws) (fun i _ _ => n - (intOf i).toNat)
              case atStart => exact ⟨0, 0, xs4, by omega, by omega, rfl, HW4.out, ⟨fun _ i h => by omega, fun _ => rfl⟩, HB4.out⟩
              case round =>
                clear HW4 HB4 HBw4 HP4
                obtain ⟨k, m, xs, hk, hm, rfl, hown, hno, hb⟩ := hrel
                obtain ⟨hc0, hc1, hbw, hsz⟩ := box_soup hb
                have HW := Lib.hid hown
                have HNO := Lib.hid hno
                have HB := Lib.hid hb
                have HBw := Lib.hid hbw
                obtain ⟨W5, rfl⟩ : ∃ W5 : World, W5 = wr := ⟨_, rfl⟩
                clear hno hb hbw
                by_cases hlt : k < n
                · clear hown
                  go_wp2
                  clear hc0 hc1
                  go_loopw [8, 7] (fun i β xs => ∃ (l : Nat), l ≤ len ∧ i = .int .i64 l ∧ β = .bool (anyB T k l) ∧ Below W5.heap.size W5 xs) (fun i _ _ => len - (intOf i).toNat)
                  case atStart => exact ⟨0, by omega, rfl, rfl, Below.refl _ _⟩
                  case round =>
                    obtain ⟨l, hl', rfl, rfl, hb6⟩ := hrel
                    have HB6 := Lib.hid (below_more HB.out hb6 (by omega))
                    obtain ⟨hc0, hc1, hbw6, hsz6⟩ := box_soup HB6.out
                    have hs6 := hb6.size
                    have H6 := Lib.hid hb6
                    clear hb6 hbw6
                    by_cases hll : l < len
                    · obtain ⟨b, off, x, y, z, rfl, ht, g0, g1, g2, hbs, hbs'⟩ := HT.out.get (by simp) HB6.out (i := l) (by have := HL.out; omega)
                      clear hbs
                      have hE := anyB_succ T k l
                      have hct := fun w => has_tri x y z (k : Int) w
                      cases ha : anyB T k l
                      · cases hh : hasB (x, y, z) k
                        all_goals
                          rw [ha, ht.out, hh] at hE
                          rw [hh] at hct
                          have HC := Lib.hid hct
                          have HE := Lib.hid hE
                          clear hct hE ha hh
                          go_wp2_with fail
                          refine (HC.out _).mono ?_
                          rintro e w7 ⟨rfl, hb7⟩
                          have H7 := Lib.hid (below_more H6.out hb7 (by omega))
                          clear hb7
                          go_wp2
                          go_roundw
                          case rel => exact ⟨l + 1, by omega, by go_num, by rw [HE.out]; rfl, H7.out⟩
                          case measure => simp [intOf]; omega
                      · rw [ha] at hE
                        have HE := Lib.hid hE
                        clear hct hE ha
                        go_wp2
                        go_roundw
                        case rel => exact ⟨l + 1, by omega, by go_num, by rw [HE.out]; rfl, H6.out⟩
                        case measure => simp [intOf]; omega
                    · obtain rfl : len = l := by omega
                      have HW6 := Lib.hid (owns_below HW.out H6.out)
                      cases ha : anyB T k len
                      · have HAN := Lib.hid ha
                        go_wp2_with (at_builtin; refine wpList_append_new _ rfl _ _ 109 rfl (w.heap.size + 1) 123 i0 _ 3 24 (by kernel_rfl) hi hz0 hz1 hz2 rfl (by decide) _ _ _ rfl HW6.out _ _ _ rfl (by first | rfl | simp) rfl ?_ ?_ ?_ ?_ ?_)
                        · exact ⟨rfl, rfl, rfl⟩
                        · unfold maxLen; omega
                        · omega
                        · have := HB6.out.size
                          simp at this ⊢; omega
                        · intro v' w3 hown3 hbel hgr
                          have HW3 := Lib.hid hown3
                          have HB3 := Lib.hid (hbel (w.heap.size + 1) _ (Nat.le_refl _) HB6.out)
                          clear hown3 hbel hgr
                          go_wp2
                          go_roundw
                          case rel => exact ⟨k + 1, m + 1, _, by omega, by omega, by go_num, HW3.out, ⟨(fun h => absurd h (by omega)), fun h => by obtain ⟨i, hi, hh⟩ := h k (by omega); have h1 := anyB_none HAN.out hi; rw [hh] at h1; cases h1⟩, HB3.out⟩
                          case measure => simp [intOf]; omega

                      · have HNO' := Lib.hid (show m = 0 ↔ ∀ u : Nat, u < k + 1 → ∃ i, i < len ∧ hasB (T! T i) u = true from ⟨fun h u hu => by
                          by_cases e : u = k
                          · subst e; exact anyB_some ha
                          · exact HNO.out.1 h u (by omega), fun h => HNO.out.2 fun u hu => h u (by omega)⟩)
                        clear ha
                        go_wp2
                        go_roundw
                        case rel => exact ⟨k + 1, m, xs, by omega, by omega, by go_num, HW6.out, HNO'.out, HB6.out⟩
                        case measure => simp [intOf]; omega
                · obtain rfl : n = k := by omega
                  obtain ⟨a5, c5, rfl⟩ := owns_slice hown
                  clear hown
                  by_cases hz : m = 0
                  case neg =>
                    have hd : decide (0 < m) = true := by simp; omega
                    go_wp2
                    go_ret
                    exact ⟨_, rfl, ⟨m, xs, owns_base HW.out (by omega), by omega, ⟨fun h => absurd h hz, fun h => HNO.out.2 fun u hu => by obtain ⟨i, hi, hh⟩ := h.used u (by omega) (by omega); exact ⟨i, by have := HL.out; omega, hh⟩⟩⟩, HBw.out⟩

                  case pos =>
                    have HUS := Lib.hid (HNO.out.1 hz)
                    subst hz
                    go_wp2
                    clear hc0 hc1
                    go_loopw [9, 3] (fun i v ws => ∃ (k m : Nat) (xs : List Value), k ≤ n ∧ m ≤ k ∧ i = .int .i64 k ∧ ws.ownsRow (w.heap.size + 1) 123 3 v m xs ∧ (m = 0 ↔ ∀ u : Nat, u < k → Unpinched T u) ∧
                        Below (w.heap.size + 1) (w.alloc (.cells #[.int .i64 (n : Int), .slice ao len cap] 24)) ws) (fun i _ _ => n - (intOf i).toNat)
                    case atStart => exact ⟨0, 0, xs, by omega, by omega, rfl, HW.out, ⟨fun _ i h => by omega, fun _ => rfl⟩, HB.out⟩
                    case round =>
                      clear HW HB HBw HNO
                      obtain ⟨k, m, xs, hk, hm, rfl, hown, hno, hb⟩ := hrel
                      obtain ⟨hc0, hc1, hbw, hsz⟩ := box_soup hb
                      have HW := Lib.hid hown
                      have HNO := Lib.hid hno
                      have HB := Lib.hid hb
                      have HBw := Lib.hid hbw
                      clear hown hno hb hbw
                      by_cases hlt : k < n
                      · have HC := Lib.hid (pinched_any (n : Int) ao cap T k wr (HT.out.mono (by simp) HB.out) (by have := HL.out; omega))
                        rw [← HL.out] at HC
                        go_wp2_with fail
                        refine (HC.out).mono ?_
                        rintro e w7 ⟨r, rfl, hP7, hb7⟩
                        have HB7 := Lib.hid (below_more HB.out hb7 (by omega))
                        have HW7 := Lib.hid (owns_below HW.out hb7)
                        have HP7 := Lib.hid hP7
                        clear hb7 hP7 HC hc0 hc1
                        cases r
                        · have HNO' := Lib.hid (show m = 0 ↔ ∀ u : Nat, u < k + 1 → Unpinched T u from ⟨fun h u hu => by
                            by_cases e : u = k
                            · subst e; exact HP7.out.1 rfl
                            · exact HNO.out.1 h u (by omega), fun h => HNO.out.2 fun u hu => h u (by omega)⟩)
                          go_wp2
                          go_roundw
                          case rel => exact ⟨k + 1, m, xs, by omega, by omega, by go_num, HW7.out, HNO'.out, HB7.out⟩
                          case measure => simp [intOf]; omega
                        · skip
                          go_wp2_with (at_builtin; refine wpList_append_new _ rfl _ _ 109 rfl (w.heap.size + 1) 123 i0 _ 3 24 (by kernel_rfl) hi hz0 hz1 hz2 rfl (by decide) _ _ _ rfl HW7.out _ _ _ rfl (by first | rfl | simp) rfl ?_ ?_ ?_ ?_ ?_)
                          · exact ⟨rfl, rfl, rfl⟩
                          · unfold maxLen; omega
                          · omega
                          · have := HB7.out.size
                            simp at this ⊢; omega
                          · intro v' w3 hown3 hbel hgr
                            have HW3 := Lib.hid hown3
                            have HB3 := Lib.hid (hbel (w.heap.size + 1) _ (Nat.le_refl _) HB7.out)
                            clear hown3 hbel hgr
                            go_wp2
                            go_roundw
                            case rel => exact ⟨k + 1, m + 1, _, by omega, by omega, by go_num, HW3.out, ⟨(fun h => absurd h (by omega)), fun h => by have := HP7.out.2 (h k (by omega)); cases this⟩, HB3.out⟩
                            case measure => simp [intOf]; omega

                      · obtain rfl : n = k := by omega
                        have HSF := Lib.hid (show m = 0 ↔ Surf n T from ⟨fun h => by
                          obtain ⟨q0, q1, q2, q3⟩ := HI.out
                          have e := HL.out
                          exact ⟨q0, q1, by omega, q3, fun i hi => HLP.out i (by omega), fun b a hb ha => HTW.out b a (by omega) ha, fun b a hb ha => HMI.out b a (by omega) ha, fun u h0 h1 => by
                            obtain ⟨u', rfl⟩ := Int.eq_ofNat_of_zero_le h0
                            obtain ⟨i, hi, hh⟩ := HUS.out u' (by omega)
                            exact ⟨i, by omega, hh⟩, fun u h0 h1 => by
                            obtain ⟨u', rfl⟩ := Int.eq_ofNat_of_zero_le h0
                            exact HNO.out.1 h u' (by omega)⟩, fun h => HNO.out.2 fun u hu => h.pin u (by omega) (by omega)⟩)
                        go_wp2
                        go_ret
                        exact ⟨_, rfl, ⟨m, xs, owns_base HW.out (by omega), by omega, HSF.out⟩, HBw.out⟩
def YesMeans (r : Bool) (P : Prop) : Prop := r = true → P
set_option maxHeartbeats 400000 in
theorem surface_iff (N : Int) (ao : Option Addr) (cap : Nat) (T : List Tr) (w : World) (hT : TrisAt w ao T) (hl : T.length ≤ 10000) :
    Calls Tryz.prog 44 #[.agg #[.int .i64 N, .slice ao T.length cap]] w fun e w' => ∃ r, e = .returned (.bool r) ∧ (r = true ↔ Surf N T) ∧ Below w.heap.size w w' := by
  have hb0 : Below w.heap.size w (w.alloc (.cells #[.int .i64 N, .slice ao T.length cap] 24)) := (Below.refl _ _).alloc (Nat.le_refl _) _
  have HC := Lib.hid (rall_any N ao cap T (w.alloc (.cells #[.int .i64 N, .slice ao T.length cap] 24)) (hT.mono (Nat.le_refl _) hb0) hl)
  have HB0 := Lib.hid hb0
  clear hb0 hT
  go_enter Tryz.func44, Tryz.ntmps44
  go_wp2_with fail
  refine (HC.out).mono ?_
  rintro e w1 ⟨v1, rfl, ⟨m1, xs1, hown1, hm1, hP1⟩, hb1⟩
  obtain ⟨a1, c1, rfl⟩ := owns_slice hown1
  have HB1 := Lib.hid (HB0.out.trans (hb1.mono (by simp)))
  have HP := Lib.hid (show ((m1 : Int) == 0) = true ↔ Surf N T from ⟨fun h => hP1.1 (by simpa using h), fun h => by simpa using hP1.2 h⟩)
  clear hown1 hP1 hb1
  go_wp2
  go_ret
  exact ⟨_, rfl, HP.out, HB1.out⟩
theorem surface_any (N : Int) (ao : Option Addr) (cap : Nat) (T : List Tr) (w : World) (hT : TrisAt w ao T) (hl : T.length ≤ 10000) :
    Calls Tryz.prog 44 #[.agg #[.int .i64 N, .slice ao T.length cap]] w fun e w' => ∃ r, e = .returned (.bool r) ∧ YesMeans r (Surf N T) ∧ Below w.heap.size w w' :=
  (surface_iff N ao cap T w hT hl).mono fun e w' ⟨r, h1, h2, h3⟩ => ⟨r, h1, h2.1, h3⟩
end Go.Proofs.YtfbpjlfimmjieaaGreat

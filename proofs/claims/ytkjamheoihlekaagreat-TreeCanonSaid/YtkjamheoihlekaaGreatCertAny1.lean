/- certify.index, loop, lonely: of any triangles. certify.pinch: just the vertices are told whose triangles don't all hang together. -/
import Derived.Test.YtkjamheoihlekaaGreatPairsLaw
import Derived.Deep.DeepCutAuto
import Derived.Test.YtkjamheoihlekaaGreatTogether
namespace Go.Proofs.YtkjamheoihlekaaGreat
set_option linter.unusedVariables false
set_option linter.unusedSimpArgs false
open Go.RowKit
theorem nat_of_in {x N : Int} {n : Nat} (h : 0 ≤ x ∧ x < N) (hn : N = n) : ∃ u : Nat, x = u ∧ u < n := ⟨x.toNat, by omega, by omega⟩
/-- The vertices of the first triangles are in range. -/
def InRng (N : Int) (T : List Tr) (k : Nat) : Prop := ∀ i, i < k → ∀ j, j < 3 → 0 ≤ tg (T! T i) j ∧ tg (T! T i) j < N
def IndexOk (N : Int) (T : List Tr) : Prop := 0 ≤ N ∧ N ≤ 4096 ∧ T.length ≤ 8192 ∧ VIn N T
theorem InRng.step {N : Int} {T : List Tr} {k : Nat} {L : List Ky} (h : L = [] ↔ InRng N T k) (hk : ∀ j, j < 3 → 0 ≤ tg (T! T k) j ∧ tg (T! T k) j < N) : L = [] ↔ InRng N T (k + 1) :=
  ⟨fun e i hi j hj => by
    by_cases e' : i = k
    · subst e'; exact hk j hj
    · exact h.1 e i (by omega) j hj, fun hh => h.2 fun i hi j hj => hh i (by omega) j hj⟩
set_option maxRecDepth 100000 in
set_option maxHeartbeats 2000000 in
theorem cindex_any (N : Int) (ao : Option Addr) (cap : Nat) (T : List Tr) (w : World) (hT : TrisAt w ao T) (hl : T.length ≤ 8192) :
    Calls Tryz.prog 122 #[.agg #[.int .i64 N, .slice ao T.length cap]] w (WitPost w 1 (IndexOk N T)) := by
  obtain ⟨u0, gi, gz0, gz1, gz2⟩ := info_parts infoWit
  have HOK := Lib.hid (show 0 ≤ N → N ≤ 4096 → ∀ L : List Ky, (L = [] ↔ InRng N T T.length) → (L = [] ↔ IndexOk N T) from fun h1 h2 L h =>
    h.trans ⟨fun hh => ⟨h1, h2, by omega, VIn.of_three hh⟩, fun hh i hi j hj => hh.2.2.2 i hi j⟩)
  have HNO := Lib.hid (show ¬ (0 ≤ N ∧ N ≤ 4096) → ¬ IndexOk N T from fun h hh => h ⟨hh.1, hh.2.1⟩)
  obtain ⟨len, hlen⟩ : ∃ n, n = T.length := ⟨_, rfl⟩
  rw [← hlen] at hl ⊢
  have HL := Lib.hid hlen
  have HT := Lib.hid hT
  have d3 : decide (8192 < len) = false := by simp; omega
  clear hlen hT
  by_cases hN : 0 ≤ N ∧ N ≤ 4096
  case neg =>
    have HW := Lib.hid (show WitRow ((w.alloc (.cells #[.int .i64 N, .slice ao len cap] 24)).alloc (.cells #[.int .i64 1, .int .i64 (-1), .int .i64 0] 55)) w.heap.size (.slice (some ⟨w.heap.size + 1, 0, none⟩) 1 1) 1 [(1, -1, 0)] from
      ⟨owns_base ((RowIs.made' (w.alloc (.cells #[.int .i64 N, .slice ao len cap] 24)) 55 [.int .i64 1, .int .i64 (-1), .int .i64 0] (w.heap.size + 1) (by simp)).owns (base := w.heap.size) (size := 3) (n := 1) (by omega) rfl (by decide)) (Nat.le_refl _), by simp⟩)
    have HB := Lib.hid (show Below w.heap.size w ((w.alloc (.cells #[.int .i64 N, .slice ao len cap] 24)).alloc (.cells #[.int .i64 1, .int .i64 (-1), .int .i64 0] 55)) from ((Below.refl _ _).alloc (Nat.le_refl _) _).alloc (by simp) _)
    have HN := Lib.hid (HNO.out hN)
    by_cases h0 : N < 0
    · have d1 : decide (N < 0) = true := by simp; omega
      clear hN
      go_enter Tryz.func122, Tryz.ntmps122
      go_wp2
      go_ret
      exact ⟨_, [(1, -1, 0)], rfl, HW.out, by simp, by simp; exact HN.out, HB.out⟩
    · have d1 : decide (N < 0) = false := by simp; omega
      have d2 : decide (4096 < N) = true := by simp; omega
      clear hN h0
      go_enter Tryz.func122, Tryz.ntmps122
      go_wp2
      go_ret
      exact ⟨_, [(1, -1, 0)], rfl, HW.out, by simp, by simp; exact HN.out, HB.out⟩
  case pos =>
  obtain ⟨h0, h1⟩ := hN
  have d1 : decide (N < 0) = false := by simp; omega
  have d2 : decide (4096 < N) = false := by simp; omega
  go_enter Tryz.func122, Tryz.ntmps122
  go_wp2
  clear d1 d2 d3
  go_loopw [27, 3] (fun i v ws => ∃ (k : Nat) (L : List Ky), k ≤ len ∧ i = .int .i64 k ∧ WitRow ws (w.heap.size + 1) v 1 L ∧ L.length ≤ k ∧ (L = [] ↔ InRng N T k) ∧ Below (w.heap.size + 1) (w.alloc (.cells #[.int .i64 N, .slice ao len cap] 24)) ws) (fun i _ _ => len - (intOf i).toNat)
  case atStart => exact ⟨0, [], by omega, rfl, WitRow.nil _ _ _, by simp, by simp; intro i hi; omega, Below.refl _ _⟩
  case round =>
    obtain ⟨k, L, hk, rfl, hwit, hLl, hLi, hb⟩ := hrel
    obtain ⟨hc0, hc1, hbw, hsz⟩ := box_soup hb
    have HB := Lib.hid hb
    have HBw := Lib.hid hbw
    have HWI := Lib.hid hwit
    have HLI := Lib.hid hLi
    obtain ⟨W1, rfl⟩ : ∃ W1 : World, W1 = wr := ⟨_, rfl⟩
    by_cases hlt : k < len
    · obtain ⟨b, off, x, y, z, rfl, ht, g0, g1, g2, hbs, hbs'⟩ := HT.out.get (Nat.le_refl _) HBw.out (i := k) (by have := HL.out; omega)
      have HB2 := Lib.hid (HB.out.alloc (by omega) (.cells #[.int .i64 x, .int .i64 y, .int .i64 z] 72))
      have HWI2 := Lib.hid (HWI.out.below ((Below.refl _ _).alloc (Nat.le_refl _) (.cells #[.int .i64 x, .int .i64 y, .int .i64 z] 72)))
      obtain ⟨va, vc, hve⟩ := owns_slice hwit.1
      subst hve
      clear hb hbw hbs hwit hLi
      go_wp2
      go_loopw [33, 3] (fun i v ys => ∃ (j : Nat), j ≤ 3 ∧ i = .int .i64 j ∧ v = .slice va L.length vc ∧ ys = W1.alloc (.cells #[.int .i64 x, .int .i64 y, .int .i64 z] 72) ∧ ∀ l, l < j → 0 ≤ tg (T! T k) l ∧ tg (T! T k) l < N) (fun i _ _ => 3 - (intOf i).toNat)
      case atStart => exact ⟨0, by omega, rfl, rfl, rfl, fun l h => by omega⟩
      case round =>
        obtain ⟨j, hj, rfl, rfl, rfl, hdone⟩ := hrel
        have HD := Lib.hid hdone
        clear hdone
        by_cases hj3 : j < 3
        · have hix := index_tri x y z j hj3
          have HU := Lib.hid (show tg (T! T k) j = tg (x, y, z) j from by rw [ht.out])
          generalize tg (x, y, z) j = u at *
          by_cases hr : 0 ≤ u ∧ u < N
          · have e1 : decide (u < 0) = false := by simp; omega
            have e2 : decide (N ≤ u) = false := by simp; omega
            have HD2 := Lib.hid (show ∀ l, l < j + 1 → 0 ≤ tg (T! T k) l ∧ tg (T! T k) l < N from fun l hl => by
              by_cases e : l = j
              · subst e; rw [HU.out]; exact hr
              · exact HD.out l (by omega))
            clear hr
            go_wp2
            go_roundw
            case rel => exact ⟨j + 1, by omega, by go_num, rfl, by trivial, HD2.out⟩
            case measure => simp [intOf]; omega
          · have HN := Lib.hid (show ∀ L' : List Ky, L' ≠ [] → (L' = [] ↔ InRng N T (k + 1)) from fun L' hne => ⟨fun e => absurd e hne, fun h => absurd (by have := h k (by omega) j hj3; rw [HU.out] at this; exact this) hr⟩)
            have hcase : (decide (u < 0) = true) ∨ (decide (u < 0) = false ∧ decide (N ≤ u) = true) := by
              by_cases h : u < 0
              · left; simpa using h
              · right; simp; omega
            clear hr
            rcases hcase with e1 | ⟨e1, e2⟩
            all_goals
              go_wp2_with (at_builtin; refine wpList_append_new _ rfl _ _ 132 rfl (w.heap.size + 1) 55 u0 _ 3 24 (by kernel_rfl) gi gz0 gz1 gz2 rfl (by decide) _ _ _ rfl HWI2.out.1 _ _ _ rfl (by first | rfl | simp) rfl ?_ ?_ ?_ ?_ ?_)
              all_goals first | rfl | (simp; omega) | omega | (unfold maxLen; omega) | exact ⟨rfl, rfl⟩ | exact ⟨rfl, rfl, rfl⟩ | skip
              · intro v' w5 hown5 hbel hgr
                have HW5 := Lib.hid (WitRow.push hown5 HWI2.out.2)
                have HB5 := Lib.hid (hbel (w.heap.size + 1) _ (Nat.le_refl _) HB2.out)
                clear hown5 hbel hgr
                go_wp2
                go_roundw
                case rel => exact ⟨k + 1, _, by omega, by go_num, HW5.out, by simp; omega, HN.out _ (by simp), HB5.out⟩
                case measure => simp [intOf]; omega
        · obtain rfl : j = 3 := by omega
          have HLI2 := Lib.hid (InRng.step HLI.out HD.out)
          go_wp2
          go_roundw
          case rel => exact ⟨k + 1, L, by omega, by go_num, HWI2.out, by omega, HLI2.out, HB2.out⟩
          case measure => simp [intOf]; omega
    · obtain rfl : k = len := by omega
      have HP := Lib.hid (HOK.out h0 h1 L (by rw [← HL.out]; exact hLi))
      obtain ⟨va, vc, hve⟩ := owns_slice hwit.1
      subst hve
      have HWw := Lib.hid (show WitRow W1 w.heap.size (.slice va L.length vc) 1 L from ⟨owns_base hwit.1 (by omega), hwit.2⟩)
      clear hb hbw hwit hLi
      go_wp2
      go_ret
      exact ⟨_, L, rfl, HWw.out, by omega, HP.out, HBw.out⟩
def NoLoop (T : List Tr) (k : Nat) : Prop := ∀ i, i < k → loopB (T! T i) = false
set_option maxRecDepth 100000 in
set_option maxHeartbeats 2000000 in
theorem cloop_any (N : Int) (ao : Option Addr) (cap : Nat) (T : List Tr) (w : World) (hT : TrisAt w ao T) (hl : T.length ≤ 8192) :
    Calls Tryz.prog 123 #[.agg #[.int .i64 N, .slice ao T.length cap]] w (WitPost w 2 (NoLoop T T.length)) := by
  obtain ⟨u0, gi, gz0, gz1, gz2⟩ := info_parts infoWit
  obtain ⟨len, hlen⟩ : ∃ n, n = T.length := ⟨_, rfl⟩
  rw [← hlen] at hl ⊢
  have HL := Lib.hid hlen
  have HT := Lib.hid hT
  clear hlen hT
  go_enter Tryz.func123, Tryz.ntmps123
  go_wp2
  go_loopw [3, 9] (fun v i wr => ∃ (k : Nat) (L : List Ky), k ≤ len ∧ i = .int .i64 k ∧ WitRow wr w.heap.size v 2 L ∧ L.length ≤ k ∧ (L = [] ↔ NoLoop T k) ∧ Below w.heap.size w wr) (fun _ i _ => len - (intOf i).toNat)
  case atStart => exact ⟨0, [], Nat.zero_le _, rfl, WitRow.nil _ _ _, by simp, by simp; intro i hi; omega, (Below.refl _ _).alloc (Nat.le_refl _) _⟩
  case round =>
    obtain ⟨k, L, hk, rfl, hwit, hLl, hLi, hb⟩ := hrel
    by_cases hlt : k < len
    · obtain ⟨b, off, x, y, z, rfl, ht, g0, g1, g2, hbs, hbs'⟩ := HT.out.get (Nat.le_refl _) hb (i := k) (by have := HL.out; omega)
      have HB := Lib.hid (hb.alloc hb.size (.cells #[.int .i64 x, .int .i64 y, .int .i64 z] 72))
      have HWI := Lib.hid (hwit.below ((Below.refl _ _).alloc (Nat.le_refl _) (.cells #[.int .i64 x, .int .i64 y, .int .i64 z] 72)))
      obtain ⟨va, vc, hve⟩ := owns_slice hwit.1
      subst hve
      have hbs2 := hb.size
      cases hgk : loopB (x, y, z)
      · have HN := Lib.hid (show L = [] ↔ NoLoop T (k + 1) from ⟨fun e i hi => by
          by_cases e' : i = k
          · subst e'; rw [ht.out]; exact hgk
          · exact hLi.1 e i (by omega), fun h => hLi.2 fun i hi => h i (by omega)⟩)
        unfold loopB at hgk
        simp only [Bool.or_eq_false_iff] at hgk
        obtain ⟨⟨m1, m2⟩, m3⟩ := hgk
        clear hb hwit hLi
        go_wp2
        go_roundw
        case rel => exact ⟨k + 1, L, by omega, by go_num, HWI.out, by omega, HN.out, HB.out⟩
        case measure => simp [intOf]; omega
      · have HN := Lib.hid (show ∀ L' : List Ky, L' ≠ [] → (L' = [] ↔ NoLoop T (k + 1)) from fun L' hne => ⟨fun e => absurd e hne, fun h => by
          have := h k (by omega)
          rw [ht.out, hgk] at this
          cases this⟩)
        have hcase : ((x == y) = true) ∨ ((x == y) = false ∧ (y == z) = true) ∨ ((x == y) = false ∧ (y == z) = false ∧ (z == x) = true) := by
          unfold loopB at hgk
          simp only at hgk
          cases e1 : (x == y)
          · cases e2 : (y == z)
            · right; right; refine ⟨rfl, rfl, ?_⟩
              rw [e1, e2] at hgk; simpa using hgk
            · right; left; exact ⟨rfl, rfl⟩
          · left; rfl
        clear hb hwit hLi hgk
        rcases hcase with e1 | ⟨e1, e2⟩ | ⟨e1, e2, e3⟩
        all_goals
          go_wp2_with (at_builtin; refine wpList_append_new _ rfl _ _ 132 rfl w.heap.size 55 u0 _ 3 24 (by kernel_rfl) gi gz0 gz1 gz2 rfl (by decide) _ _ _ rfl HWI.out.1 _ _ _ rfl (by first | rfl | simp) rfl ?_ ?_ ?_ ?_ ?_)
          all_goals first | rfl | (simp; omega) | omega | (unfold maxLen; omega) | exact ⟨rfl, rfl⟩ | exact ⟨rfl, rfl, rfl⟩ | skip
          · intro v' w5 hown5 hbel hgr
            have HW5 := Lib.hid (WitRow.push hown5 HWI.out.2)
            have HB5 := Lib.hid (hbel w.heap.size _ (Nat.le_refl _) HB.out)
            clear hown5 hbel hgr
            go_wp2
            go_roundw
            case rel => exact ⟨k + 1, _, by omega, by go_num, HW5.out, by simp; omega, HN.out _ (by simp), HB5.out⟩
            case measure => simp [intOf]; omega
    · obtain rfl : k = len := by omega
      have HP := Lib.hid hLi
      obtain ⟨va, vc, hve⟩ := owns_slice hwit.1
      subst hve
      have HWw := Lib.hid hwit
      have HBw := Lib.hid hb
      clear hb hwit hLi
      go_wp2
      go_ret
      exact ⟨_, L, rfl, HWw.out, by omega, by rw [HP.out], HBw.out⟩
def Used (N : Int) (T : List Tr) : Prop := ∀ v, 0 ≤ v → v < N → ∃ i, i < T.length ∧ hasB (T! T i) v = true
/-- Is vertex u among those of the first triangles, in the middle of triangle k? -/
def anyE (T : List Tr) (k j u : Nat) : Bool := anyB T u k || (List.range j).any fun l => tg (T! T k) l == (u : Int)
theorem anyE_start (T : List Tr) : anyE T 0 0 = fun _ => false := by funext u; simp [anyE, anyB]
theorem anyE_three (T : List Tr) (k : Nat) : anyE T k 3 = anyE T (k + 1) 0 := by
  funext u
  simp [anyE, anyB_succ, List.range_succ, tg, hasB, Bool.or_assoc]
theorem anyE_succ {T : List Tr} {k j u : Nat} (h : tg (T! T k) j = u) : updB (anyE T k j) u true = anyE T k (j + 1) := by
  funext x
  unfold updB anyE
  rw [List.range_succ, List.any_append]
  by_cases e : x = u
  · subst e; simp [h]
  · have : (tg (T! T k) j == (x : Int)) = false := by rw [h]; simp; omega
    simp [e, this]
theorem anyE_used (n : Nat) (T : List Tr) : (∀ u, u < n → anyE T T.length 0 u = true) ↔ Used (n : Int) T := by
  constructor
  · intro h v h0 h1
    have := h v.toNat (by omega)
    simp only [anyE, List.range_zero, List.any_nil, Bool.or_false] at this
    obtain ⟨i, hi, hh⟩ := anyB_some this
    rw [show ((v.toNat : Nat) : Int) = v by omega] at hh
    exact ⟨i, hi, hh⟩
  · intro h u hu
    obtain ⟨i, hi, hh⟩ := h u (by omega) (by omega)
    simp only [anyE, List.range_zero, List.any_nil, Bool.or_false, anyB, List.any_eq_true, List.mem_range]
    exact ⟨i, hi, hh⟩
set_option maxRecDepth 100000 in
set_option maxHeartbeats 1000000 in
theorem clonely_any (N : Int) (ao : Option Addr) (cap : Nat) (T : List Tr) (w : World) (hT : TrisAt w ao T) (hl : T.length ≤ 8192) (hN0 : 0 ≤ N) (hN1 : N ≤ 4096) (hv : VIn N T) :
    Calls Tryz.prog 126 #[.agg #[.int .i64 N, .slice ao T.length cap]] w (WitPost w 5 (Used N T)) := by
  obtain ⟨u0, gi, gz0, gz1, gz2⟩ := info_parts infoWit
  obtain ⟨i0, hi, hz0, hz1, hz2⟩ := info_parts info4
  obtain ⟨n, hn⟩ : ∃ n : Nat, N = n := ⟨N.toNat, by omega⟩
  subst hn
  have hn4 : n ≤ 4096 := by omega
  have HV := Lib.hid hv
  obtain ⟨len, hlen⟩ : ∃ n, n = T.length := ⟨_, rfl⟩
  rw [← hlen] at hl ⊢
  have HL := Lib.hid hlen
  have HT := Lib.hid (hT.mono (Nat.le_refl _) ((Below.refl _ _).alloc (Nat.le_refl _) (.cells #[.int .i64 (n : Int), .slice ao len cap] 24)))
  clear hlen hT hv
  go_enter Tryz.func126, Tryz.ntmps126
  go_wp2_with (at_make; refine wpList_make_full _ rfl _ _ _ rfl (w.heap.size + 1) 4 i0 (.bool false) 1 (by kernel_rfl) hi hz0 hz1 _ _ _ _ n rfl rfl rfl rfl (by rw [hz2]; omega) (by unfold maxLen; omega) (by simp) ?_)
  intro w1 hown hgr
  rw [madeCells_bv] at hown
  have hrow := RowIs.of_owns hown
  have HB1 := Lib.hid (show Below (w.heap.size + 1) (w.alloc (.cells #[.int .i64 (n : Int), .slice ao len cap] 24)) w1 from (Below.refl _ _).grown hgr (by simp) (by simp))
  obtain ⟨hc0, hc1, hbw, hsz⟩ := box_soup HB1.out
  have HR := Lib.hid hrow
  clear hown hgr hrow hbw
  go_wp2
  clear hc0 hc1
  go_loopw [17] (fun i ws => ∃ (k : Nat), k ≤ len ∧ i = .int .i64 k ∧ RowIs ws (w.heap.size + 1) 4 (bv (anyE T k 0) n) ∧
      Below (w.heap.size + 1) (w.alloc (.cells #[.int .i64 (n : Int), .slice ao len cap] 24)) ws) (fun i _ => len - (intOf i).toNat)
  case atStart => exact ⟨0, by omega, rfl, by rw [anyE_start]; exact HR.out, HB1.out⟩
  case round =>
    clear HR HB1
    obtain ⟨k, hk, rfl, hrow, hb⟩ := hrel
    have hbs := hb.size
    simp at hbs
    by_cases hlt : k < len
    · obtain ⟨b, off, x, y, z, rfl, ht, g0, g1, g2, -, -⟩ := HT.out.get (by simp) hb (i := k) (by have := HL.out; omega)
      have HVk := Lib.hid (fun j => HV.out k (by have := HL.out; omega) j)
      rw [ht.out] at HVk
      have HR := Lib.hid (hrow.alloc (.cells #[.int .i64 x, .int .i64 y, .int .i64 z] 72))
      have HB := Lib.hid (hb.alloc (by omega) (.cells #[.int .i64 x, .int .i64 y, .int .i64 z] 72))
      obtain ⟨W1, rfl⟩ : ∃ W1 : World, W1 = wr := ⟨_, rfl⟩
      clear hrow hb
      go_wp2
      go_loopw [22] (fun i ws => ∃ (j : Nat), j ≤ 3 ∧ i = .int .i64 j ∧ RowIs ws (w.heap.size + 1) 4 (bv (anyE T k j) n) ∧
          Below (w.heap.size + 1) (w.alloc (.cells #[.int .i64 (n : Int), .slice (some ⟨b, off, none⟩) len cap] 24)) ws) (fun i _ => 3 - (intOf i).toNat)
      case atStart => exact ⟨0, by omega, rfl, HR.out, HB.out⟩
      case round =>
        clear HR HB
        obtain ⟨j, hj, rfl, hrow, hb⟩ := hrel
        by_cases hj3 : j < 3
        · have hix := index_tri x y z j hj3
          obtain ⟨u, hu, hun⟩ := nat_of_in (HVk.out j) rfl
          rw [hu] at hix
          have hc := hrow.cell (bv_get (anyE T k j) hun)
          have hf := hrow.free u
          have hr2 := hrow.set u (.bool true)
          rw [bv_set, anyE_succ (show tg (T! T k) j = (u : Int) from by rw [ht.out]; exact hu)] at hr2
          have HR := Lib.hid hr2
          have HB := Lib.hid (hb.setCell (p := ⟨w.heap.size + 1, u, none⟩) (Nat.le_refl _) (.bool true))
          clear hrow hb hr2 hu
          generalize anyE T k j u = bu at *
          go_wp2
          go_roundw
          case rel => exact ⟨j + 1, by omega, by go_num, HR.out, HB.out⟩
          case measure => simp [intOf]; omega
        · obtain rfl : j = 3 := by omega
          have HR := Lib.hid hrow
          have HB := Lib.hid hb
          rw [anyE_three] at HR
          clear hrow hb
          go_wp2
          go_roundw
          case rel => exact ⟨k + 1, by omega, by go_num, HR.out, HB.out⟩
          case measure => simp [intOf]; omega
    · obtain rfl : len = k := by omega
      have HR := Lib.hid hrow
      have HB := Lib.hid hb
      obtain ⟨W2, rfl⟩ : ∃ W2 : World, W2 = wr := ⟨_, rfl⟩
      clear hrow hb
      go_wp2
      go_loopw [32, 8] (fun i v ws => ∃ (k : Nat) (L : List Ky), k ≤ n ∧ i = .int .i64 k ∧ WitRow ws (w.heap.size + 2) v 5 L ∧ L.length ≤ k ∧ (L = [] ↔ ∀ u, u < k → anyE T len 0 u = true) ∧ RowIs ws (w.heap.size + 1) 4 (bv (anyE T len 0) n) ∧ Below (w.heap.size + 1) (w.alloc (.cells #[.int .i64 (n : Int), .slice ao len cap] 24)) ws) (fun i _ _ => n - (intOf i).toNat)
      case atStart => exact ⟨0, [], by omega, rfl, WitRow.nil _ _ _, by simp, by simp, HR.out, HB.out⟩
      case round =>
        clear HR HB
        obtain ⟨k, L, hk, rfl, hwit, hLl, hLi, hrow, hb⟩ := hrel
        obtain ⟨va, vc, hve⟩ := owns_slice hwit.1
        subst hve
        have hrl := hrow.lt
        by_cases hkn : k < n
        · have hc := hrow.cell (bv_get (anyE T len 0) hkn)
          have HR := Lib.hid hrow
          have HB := Lib.hid hb
          have HWI := Lib.hid hwit
          cases hbk : anyE T len 0 k
          · have HN := Lib.hid (show ∀ L' : List Ky, L' ≠ [] → (L' = [] ↔ ∀ u, u < k + 1 → anyE T len 0 u = true) from fun L' hne => ⟨fun e => absurd e hne, fun h => by
              have := h k (by omega)
              rw [hbk] at this
              cases this⟩)
            rw [hbk] at hc
            clear hrow hb hwit hLi hbk
            go_wp2_with (at_builtin; refine wpList_append_new _ rfl _ _ 132 rfl (w.heap.size + 2) 55 u0 _ 3 24 (by kernel_rfl) gi gz0 gz1 gz2 rfl (by decide) _ _ _ rfl HWI.out.1 _ _ _ rfl (by first | rfl | simp) rfl ?_ ?_ ?_ ?_ ?_)
            all_goals first | rfl | (simp; omega) | omega | (unfold maxLen; omega) | exact ⟨rfl, rfl⟩ | exact ⟨rfl, rfl, rfl⟩ | skip
            · intro v' w5 hown5 hbel hgr
              have HW5 := Lib.hid (WitRow.push hown5 HWI.out.2)
              have HB5 := Lib.hid (hbel (w.heap.size + 1) _ (by omega) HB.out)
              have HR5 := Lib.hid ((HR.out.after ((Below.refl _ _).alloc (Nat.le_refl _) _)).grown hgr (row_other HR.out HWI.out.1 (by decide)))
              clear hown5 hbel hgr
              go_wp2
              go_roundw
              case rel => exact ⟨k + 1, _, by omega, by go_num, HW5.out, by simp; omega, HN.out _ (by simp), HR5.out, HB5.out⟩
              case measure => simp [intOf]; omega
          · have HN := Lib.hid (show L = [] ↔ ∀ u, u < k + 1 → anyE T len 0 u = true from ⟨fun e u hu => by
              by_cases e' : u = k
              · subst e'; exact hbk
              · exact hLi.1 e u (by omega), fun h => hLi.2 fun u hu => h u (by omega)⟩)
            rw [hbk] at hc
            clear hrow hb hwit hLi hbk
            go_wp2
            go_roundw
            case rel => exact ⟨k + 1, L, by omega, by go_num, HWI.out, by omega, HN.out, HR.out, HB.out⟩
            case measure => simp [intOf]; omega
        · obtain rfl : k = n := by omega
          have HBw := Lib.hid (show Below w.heap.size w wr from ((Below.refl _ _).alloc (Nat.le_refl _) _).trans (hb.mono (by omega)))
          have HP := Lib.hid (show L = [] ↔ Used (k : Int) T from hLi.trans (by
            rw [HL.out]
            exact anyE_used k T))
          have HWw := Lib.hid (show WitRow wr w.heap.size (.slice va L.length vc) 5 L from ⟨owns_base hwit.1 (by omega), hwit.2⟩)
          clear hrow hb hwit hLi
          go_wp2
          go_ret
          exact ⟨_, L, rfl, HWw.out, by omega, HP.out, HBw.out⟩
theorem info34 : (Tryz.prog.info? 28).map (fun i => (i.zero, i.size, i.bytes)) = some (some (.slice none 0 0), 1, 24) := by kernel_rfl
/-- Values in cells. -/
def vv (f : Nat → Value) (n : Nat) : List Value := (List.range n).map f
theorem vv_get (f : Nat → Value) {n i : Nat} (h : i < n) : (vv f n)[i]? = some (f i) := by simp [vv, h]
theorem vv_set (f : Nat → Value) (n x : Nat) (v : Value) : (vv f n).set x v = vv (fun j => if j = x then v else f j) n := set_map_range n _ _ x _ fun _ => rfl
theorem madeCells_vv (v : Value) (n : Nat) : (madeCells #[v] n).toList = vv (fun _ => v) n := by
  apply List.ext_getElem
  · simp [madeCells, vv]
  · intro i h1 h2
    simp [madeCells, vv, Nat.mod_one]
/-- The triangles at each vertex, in the middle of triangle k. -/
def atE (T : List Tr) (k j u : Nat) : List Nat := atV T u k ++ if (List.range j).any (fun l => tg (T! T k) l == (u : Int)) then [k] else []
theorem atE_zero (T : List Tr) (k u : Nat) : atE T k 0 u = atV T u k := by simp [atE]
theorem atE_three (T : List Tr) (k u : Nat) : atE T k 3 u = atE T (k + 1) 0 u := by
  rw [atE_zero]
  unfold atE
  have e : (List.range 3).any (fun l => tg (T! T k) l == (u : Int)) = hasB (T! T k) u := by
    simp [List.range_succ, tg, hasB, Bool.or_assoc]
  rw [e]
  cases h : hasB (T! T k) u
  · rw [atV_succ_no h]; simp
  · rw [atV_succ_yes h]; simp
theorem tg_apart {t : Tr} (h : loopB t = false) {l j : Nat} (hl : l < j) (hj : j < 3) : tg t l ≠ tg t j := by
  unfold loopB at h
  simp only [Bool.or_eq_false_iff, beq_eq_false_iff_ne] at h
  match j, hj with
  | 1, _ =>
    obtain rfl : l = 0 := by omega
    exact h.1.1
  | 2, _ =>
    rcases (by omega : l = 0 ∨ l = 1) with rfl | rfl
    · exact fun e => h.2 e.symm
    · exact h.1.2
theorem atE_succ {T : List Tr} {k j u : Nat} (h : loopB (T! T k) = false) (hj : j < 3) (hu : tg (T! T k) j = u) : (fun x => if x = u then atE T k j u ++ [k] else atE T k j x) = atE T k (j + 1) := by
  funext x
  unfold atE
  rw [List.range_succ, List.any_append]
  simp only [List.any_cons, List.any_nil, Bool.or_false]
  by_cases e : x = u
  · subst e
    have h0 : (List.range j).any (fun l => tg (T! T k) l == (x : Int)) = false := by
      simp only [List.any_eq_false, List.mem_range, beq_iff_eq]
      intro l hl e'
      exact tg_apart h hl hj (e'.trans hu.symm)
    rw [h0, hu]
    simp
  · have : (tg (T! T k) j == (x : Int)) = false := by
      rw [hu]; simp; omega
    simp [e, this]
theorem atE_le (T : List Tr) (k j u : Nat) : (atE T k j u).length ≤ k + 1 := by
  have := atV_le T u k
  unfold atE
  split <;> simp <;> omega
set_option maxRecDepth 100000 in
set_option maxHeartbeats 2000000 in
theorem cpinch_any (N : Int) (ao : Option Addr) (cap : Nat) (T : List Tr) (w : World) (hT : TrisAt w ao T) (hl : T.length ≤ 8192) (hN0 : 0 ≤ N) (hN1 : N ≤ 4096) (hv : VIn N T) (hg : NoLoop T T.length) (hu : Used N T) :
    Calls Tryz.prog 127 #[.agg #[.int .i64 N, .slice ao T.length cap]] w (WitPost w 6 (∀ v, 0 ≤ v → v < N → Unpinched T v)) := by
  obtain ⟨u0, gi, gz0, gz1, gz2⟩ := info_parts infoWit
  obtain ⟨i0, hi, hz0, hz1, hz2⟩ := info_parts info34
  obtain ⟨n, hn⟩ : ∃ n : Nat, N = n := ⟨N.toNat, by omega⟩
  subst hn
  have hn4 : n ≤ 4096 := by omega
  have HV := Lib.hid hv
  have HG := Lib.hid hg
  have HU := Lib.hid hu
  obtain ⟨len, hlen⟩ : ∃ n, n = T.length := ⟨_, rfl⟩
  rw [← hlen] at hl ⊢
  have HL := Lib.hid hlen
  have HT := Lib.hid (hT.mono (Nat.le_refl _) ((Below.refl _ _).alloc (Nat.le_refl _) (.cells #[.int .i64 (n : Int), .slice ao len cap] 24)))
  clear hlen hT hv hg hu
  go_enter Tryz.func127, Tryz.ntmps127
  go_wp2_with (at_make; refine wpList_make_full _ rfl _ _ _ rfl (w.heap.size + 1) 28 i0 (.slice none 0 0) 1 (by kernel_rfl) hi hz0 hz1 _ _ _ _ n rfl rfl rfl rfl (by rw [hz2]; omega) (by unfold maxLen; omega) (by simp) ?_)
  intro w1 hown hgr
  rw [madeCells_vv] at hown
  have hrow := RowIs.of_owns hown
  have HB1 := Lib.hid (show Below (w.heap.size + 1) (w.alloc (.cells #[.int .i64 (n : Int), .slice ao len cap] 24)) w1 from (Below.refl _ _).grown hgr (by simp) (by simp))
  obtain ⟨hc0, hc1, hbw, hsz⟩ := box_soup HB1.out
  have HR := Lib.hid hrow
  clear hown hgr hrow hbw hi hz0 hz1 hz2 i0
  obtain ⟨i0, hi, hz0, hz1, hz2⟩ := info_parts info3
  go_wp2
  clear hc0 hc1
  go_loopw [17] (fun i ws => ∃ (k : Nat) (vs : Nat → Value), k ≤ len ∧ i = .int .i64 k ∧ RowIs ws (w.heap.size + 1) 28 (vv vs n) ∧ Fam ws (w.heap.size + 2) vs (atE T k 0) ∧
      Below (w.heap.size + 1) (w.alloc (.cells #[.int .i64 (n : Int), .slice ao len cap] 24)) ws) (fun i _ => len - (intOf i).toNat)
  case atStart => exact ⟨0, _, by omega, rfl, HR.out, by
    have e : atE T 0 0 = fun _ => [] := by funext u; simp [atE, atV]
    rw [e]; exact Fam.nil _ _, HB1.out⟩
  case round =>
    clear HR HB1
    obtain ⟨k, vs, hk, rfl, hrow, hfam, hb⟩ := hrel
    have hbs := hb.size
    simp at hbs
    by_cases hlt : k < len
    · obtain ⟨b, off, x, y, z, rfl, ht, g0, g1, g2, -, -⟩ := HT.out.get (by simp) hb (i := k) (by have := HL.out; omega)
      have HVk := Lib.hid (fun j => HV.out k (by have := HL.out; omega) j)
      have HLK := Lib.hid (HG.out k (by have := HL.out; omega))
      rw [ht.out] at HVk
      have HR := Lib.hid (hrow.alloc (.cells #[.int .i64 x, .int .i64 y, .int .i64 z] 72))
      have HF := Lib.hid (hfam.more ((Below.refl _ _).alloc (Nat.le_refl _) (.cells #[.int .i64 x, .int .i64 y, .int .i64 z] 72)))
      have HB := Lib.hid (hb.alloc (by omega) (.cells #[.int .i64 x, .int .i64 y, .int .i64 z] 72))
      obtain ⟨W1, rfl⟩ : ∃ W1 : World, W1 = wr := ⟨_, rfl⟩
      clear hrow hb hfam
      go_wp2
      go_loopw [23] (fun i ws => ∃ (j : Nat) (vs : Nat → Value), j ≤ 3 ∧ i = .int .i64 j ∧ RowIs ws (w.heap.size + 1) 28 (vv vs n) ∧ Fam ws (w.heap.size + 2) vs (atE T k j) ∧
          Below (w.heap.size + 1) (w.alloc (.cells #[.int .i64 (n : Int), .slice (some ⟨b, off, none⟩) len cap] 24)) ws) (fun i _ => 3 - (intOf i).toNat)
      case atStart => exact ⟨0, vs, by omega, rfl, HR.out, HF.out, HB.out⟩
      case round =>
        clear HR HB HF
        obtain ⟨j, vs, hj, rfl, hrow, hfam, hb⟩ := hrel
        have hbs := hb.size
        simp at hbs
        by_cases hj3 : j < 3
        · have hix := index_tri x y z j hj3
          obtain ⟨u, hu, hun⟩ := nat_of_in (HVk.out j) rfl
          have HU := Lib.hid (show tg (T! T k) j = u from by rw [ht.out]; exact hu)
          rw [hu] at hix
          have hc := hrow.cell (vv_get vs hun)
          have hEl := atE_le T k j u
          have hown := hfam.1 u
          obtain ⟨vu, hvu⟩ : ∃ vu, vs u = vu := ⟨_, rfl⟩
          rw [hvu] at hc hown
          have HVU := Lib.hid hvu
          have HF := Lib.hid hfam
          have HR := Lib.hid hrow
          have HB := Lib.hid hb
          have HO := Lib.hid (hown.alloc (.cells #[.int .i64 (k : Int)] 3))
          have hrl := hrow.lt
          clear hrow hfam hb hu hvu hown
          go_wp2_with (at_builtin; refine wpList_append_own_at _ rfl _ _ 28 rfl (w.heap.size + 2) 3 i0 (.int .i64 0) 1 8 (by kernel_rfl) hi hz0 hz1 hz2 rfl (by decide) _ _ _ rfl HO.out ⟨wr.heap.size, 0, none⟩ 1 1 [.int .i64 (k : Int)] rfl rfl ?c1 ?c2 ?c3 ?c4 ?c5 ?_)
          case c1 => exact cell_one_new _ _ _
          case c2 => intro u hu; simp at hu; subst hu; rfl
          case c3 => unfold maxLen; omega
          case c4 => omega
          case c5 => simp; omega
          intro v' w3 hown3 hg3 _ hat3
          have hfam3 := (HF.out.more ((Below.refl _ _).alloc (Nat.le_refl _) (.cells #[.int .i64 (k : Int)] 3))).push u k v' (by exact hown3) (by rw [HVU.out]; exact hg3) (by
            rw [HVU.out]
            rcases hat3 with h | h
            · exact .inl h
            · exact .inr ⟨wr.heap.size + 1, by simp, h⟩)
          have hr3 := (HR.out.alloc (.cells #[.int .i64 (k : Int)] 3)).grown hg3 (by
            intro e
            have := (HO.out.lt _ e.symm).1
            omega)
          have hc3 := hr3.cell (vv_get vs hun)
          rw [HVU.out] at hc3
          have hf3 := hr3.free u
          have hb3 := (HB.out.alloc (by omega) (.cells #[.int .i64 (k : Int)] 3)).grown hg3 (by simp; omega) (fun q hq => by have := (HO.out.lt _ hq).1; omega)
          have hr4 := hr3.set u v'
          rw [vv_set] at hr4
          have hgs : w3.grownBy (w3.setCell ⟨w.heap.size + 1, u, none⟩ v') (some (w.heap.size + 1)) := ⟨rfl, rfl, rfl, by simp [World.setCell], fun q hq hne => Below.heap_setCell _ _ _ _ (fun e => hne (by rw [e]))⟩
          have HF4 := Lib.hid (hfam3.other hgs (by omega))
          rw [atE_succ HLK.out hj3 HU.out] at HF4
          have HR4 := Lib.hid hr4
          have HB4 := Lib.hid (hb3.setCell (p := ⟨w.heap.size + 1, u, none⟩) (Nat.le_refl _) v')
          obtain ⟨a', c', rfl⟩ := owns_slice hown3
          clear hown3 hg3 hat3 hfam3 hr3 hb3 hr4 hgs hc
          go_wp2
          go_roundw
          case rel => exact ⟨j + 1, _, by omega, by go_num, HR4.out, HF4.out, HB4.out⟩
          case measure => simp [intOf]; omega
        · obtain rfl : j = 3 := by omega
          have HR := Lib.hid hrow
          have HF := Lib.hid (show Fam wr (w.heap.size + 2) vs (atE T (k + 1) 0) from by
            have e : atE T k 3 = atE T (k + 1) 0 := funext fun u => atE_three T k u
            rw [← e]; exact hfam)
          have HB := Lib.hid hb
          clear hrow hfam hb
          go_wp2
          go_roundw
          case rel => exact ⟨k + 1, vs, by omega, by go_num, HR.out, HF.out, HB.out⟩
          case measure => simp [intOf]; omega
    · obtain rfl : len = k := by omega
      have HR := Lib.hid hrow
      have HF := Lib.hid hfam
      have HB := Lib.hid hb
      obtain ⟨W2, rfl⟩ : ∃ W2 : World, W2 = wr := ⟨_, rfl⟩
      clear hrow hfam hb
      go_wp2
      go_loopw [40, 8] (fun i v ws => ∃ (u : Nat) (L : List Ky), u ≤ n ∧ i = .int .i64 u ∧ WitRow ws W2.heap.size v 6 L ∧ L.length ≤ u ∧ (L = [] ↔ ∀ v : Int, 0 ≤ v → v < (u : Int) → Unpinched T v) ∧ Below W2.heap.size W2 ws) (fun i _ _ => n - (intOf i).toNat)
      case atStart => exact ⟨0, [], by omega, rfl, WitRow.nil _ _ _, by simp, by simp; intro v h1 h2; omega, Below.refl _ _⟩
      case round =>
        obtain ⟨u, L, hu, rfl, hwit, hLl, hLi, hb⟩ := hrel
        have HBa := Lib.hid (below_more HB.out hb (by omega))
        obtain ⟨hc0, hc1, hbw, hsz'⟩ := box_soup HBa.out
        have H := Lib.hid hb
        have HWI := Lib.hid hwit
        have HLI := Lib.hid hLi
        have hW2s := hb.size
        obtain ⟨va, vc, hve⟩ := owns_slice hwit.1
        subst hve
        clear hb hwit hLi
        by_cases hun : u < n
        · have hc := (HR.out.below H.out HR.out.lt).cell (vv_get vs hun)
          have hpos : 0 < (atV T u T.length).length := by
            obtain ⟨i, hi, hh⟩ := HU.out u (by omega) (by omega)
            exact List.length_pos_of_mem (atV_mem.2 ⟨hi, hh⟩)
          have hown := (HF.out.more H.out).1 u
          rw [atE_zero, HL.out] at hown
          obtain ⟨gu, cu, hve, -, hgs, -, -, hcu, -⟩ := owns_block hown hpos
          have HC := Lib.hid (together_any (n : Int) ao cap T (u : Int) (vs u) wr (HT.out.mono (by simp) HBa.out) (by have := HL.out; omega) (fun i hi j => I64.of_in (HV.out i hi j) (by omega))
            ⟨gu, cu, hve, hgs, fun i x hx => hcu i _ (nv_get hx)⟩ hpos)
          rw [← HL.out] at HC
          clear hown hve hgs hcu hpos
          go_wp2_with fail
          refine HC.out.mono ?_
          rintro e w5 ⟨⟨r, rfl, hr⟩, hb5⟩
          have H5 := Lib.hid (below_more H.out hb5 H.out.size)
          have HWI5 := Lib.hid (HWI.out.below hb5)
          have hw5s := hb5.size
          cases r
          · have HN := Lib.hid (show ∀ L' : List Ky, L' ≠ [] → (L' = [] ↔ ∀ v : Int, 0 ≤ v → v < ((u + 1 : Nat) : Int) → Unpinched T v) from fun L' hne => ⟨fun e => absurd e hne, fun h => by
              have := hr.2 (h u (by omega) (by omega))
              cases this⟩)
            clear hb5 HC hc hc0 hc1 hbw hr
            go_wp2_with (at_builtin; refine wpList_append_new _ rfl _ _ 132 rfl W2.heap.size 55 u0 _ 3 24 (by kernel_rfl) gi gz0 gz1 gz2 rfl (by decide) _ _ _ rfl HWI5.out.1 _ _ _ rfl (by first | rfl | simp) rfl ?_ ?_ ?_ ?_ ?_)
            all_goals first | rfl | (simp; omega) | omega | (unfold maxLen; omega) | exact ⟨rfl, rfl⟩ | exact ⟨rfl, rfl, rfl⟩ | skip
            · intro v' w6 hown6 hbel hgr
              have HW6 := Lib.hid (WitRow.push hown6 HWI5.out.2)
              have HB6 := Lib.hid (hbel W2.heap.size _ (Nat.le_refl _) H5.out)
              clear hown6 hbel hgr
              go_wp2
              go_roundw
              case rel => exact ⟨u + 1, _, by omega, by go_num, HW6.out, by simp; omega, HN.out _ (by simp), HB6.out⟩
              case measure => simp [intOf]; omega
          · have HN := Lib.hid (show L = [] ↔ ∀ v : Int, 0 ≤ v → v < ((u + 1 : Nat) : Int) → Unpinched T v from HLI.out.trans ⟨fun h v h0 h1 => by
              by_cases e : v = u
              · subst e; exact hr.1 rfl
              · exact h v h0 (by omega), fun h v h0 h1 => h v h0 (by omega)⟩)
            clear hb5 HC hc hc0 hc1 hbw hr
            go_wp2
            go_roundw
            case rel => exact ⟨u + 1, L, by omega, by go_num, HWI5.out, by omega, HN.out, H5.out⟩
            case measure => simp [intOf]; omega
        · obtain rfl : u = n := by omega
          have HBw := Lib.hid hbw
          have HWw := Lib.hid (show WitRow wr w.heap.size (.slice va L.length vc) 6 L from ⟨owns_base HWI.out.1 (by omega), HWI.out.2⟩)
          clear hbw
          go_wp2
          go_ret
          exact ⟨_, L, rfl, HWw.out, by omega, HLI.out, HBw.out⟩
end Go.Proofs.YtkjamheoihlekaaGreat

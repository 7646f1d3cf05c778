/- gypsumref09.All: no witness just if the triangles are a surface. gypsumref09.Surface: true just of a surface. -/
import Derived.Test.YtknioobpoieohaaGreatMarkLaw
import Derived.Test.YtknioobpoieohaaGreatRefSmall
namespace Go.Proofs.YtknioobpoieohaaGreat
set_option linter.unusedVariables false
set_option linter.unusedSimpArgs false
open Go.RowKit
theorem anyB_none {T : List Tr} {v : Int} {k i : Nat} (h : anyB T v k = false) (hi : i < k) : hasB (T! T i) v = false := by
  unfold anyB at h
  rw [List.any_eq_false] at h
  simpa using h i (List.mem_range.2 hi)
set_option maxRecDepth 100000 in
set_option maxHeartbeats 4000000 in
theorem rall_any (N : Int) (ao : Option Addr) (cap : Nat) (T : List Tr) (w : World) (hT : TrisAt w ao T) (hl : T.length ≤ 10000) :
    Calls Tryz.prog 75 #[.agg #[.int .i64 N, .slice ao T.length cap]] w fun e w' => ∃ v, e = .returned v ∧ Wits w' w.heap.size v (Surf N T) ∧ Below w.heap.size w w' := by
  obtain ⟨i0, hi, hz0, hz1, hz2⟩ := info_parts info95
  have HT := Lib.hid (hT.mono (Nat.le_refl _) ((Below.refl _ _).alloc (Nat.le_refl _) (.cells #[.int .i64 N, .slice ao T.length cap] 24)))
  have HC1 := Lib.hid (rindex_any N ao cap T (w.alloc (.cells #[.int .i64 N, .slice ao T.length cap] 24)) HT.out hl)
  obtain ⟨len, hlen⟩ : ∃ n, n = T.length := ⟨_, rfl⟩
  rw [← hlen] at hl HT HC1 ⊢
  have HL := Lib.hid hlen
  clear hlen hT
  go_enter Tryz.func75, Tryz.ntmps75
  go_wp2_with fail
  refine (HC1.out).mono ?_
  rintro e w1 ⟨v1, rfl, ⟨m1, xs1, hown1, hm1, hP1⟩, hb1⟩
  obtain ⟨hc0, hc1, hbw1, hsz1⟩ := box_soup (hb1.mono (by simp))
  obtain ⟨a1, c1, rfl⟩ := owns_slice hown1
  have HW1 := Lib.hid (owns_base hown1 (base' := w.heap.size + 1) (by simp))
  have HB1 := Lib.hid (show Below (w.heap.size + 1) _ w1 from hb1.mono (by simp))
  have HP1 := Lib.hid hP1
  have HBw1 := Lib.hid hbw1
  clear hown1 hP1 hb1 HC1 hbw1
  by_cases hz : m1 = 0
  case neg =>
    have hd : decide (0 < m1) = true := by simp; omega
    go_wp2
    go_ret
    exact ⟨_, rfl, ⟨m1, xs1, owns_base HW1.out (by omega), hm1, ⟨fun h => absurd h hz, fun h => HP1.out.2 ⟨h.n0, h.n1, by have := h.t1; have := HL.out; omega, h.vin⟩⟩⟩, HBw1.out⟩
  case pos =>
    have HI := Lib.hid (HP1.out.1 hz)
    subst hz
    go_wp2
    -- GEN
    clear hc0 hc1
    go_loopw [4, 3] (fun i v ws => ∃ (k m : Nat) (xs : List Value), k ≤ len ∧ m ≤ k ∧ i = .int .i64 k ∧ ws.ownsRow (w.heap.size + 1) 129 3 v m xs ∧ (m = 0 ↔ ∀ i, i < k → loopB (T! T i) = false) ∧
        Below (w.heap.size + 1) (w.alloc (.cells #[.int .i64 N, .slice ao len cap] 24)) ws) (fun i _ _ => len - (intOf i).toNat)
    case atStart => exact ⟨0, 0, xs1, by omega, by omega, rfl, HW1.out, ⟨fun _ i h => by omega, fun _ => rfl⟩, HB1.out⟩
    case round =>
      clear HW1 HB1 HBw1 HP1
      obtain ⟨k, m, xs, hk, hm, rfl, hown, hno, hb⟩ := hrel
      obtain ⟨hc0, hc1, hbw, hsz⟩ := box_soup hb
      have HW := Lib.hid hown
      have HNO := Lib.hid hno
      have HB := Lib.hid hb
      have HBw := Lib.hid hbw
      by_cases hlt : k < len
      · obtain ⟨b, off, x, y, z, rfl, ht, g0, g1, g2, hbs, hbs'⟩ := HT.out.get (by simp) HB.out (i := k) (by have := HL.out; omega)
        have HW2 := Lib.hid (hown.alloc (.cells #[.int .i64 x, .int .i64 y, .int .i64 z] 65))
        have HB2 := Lib.hid (HB.out.alloc (by omega) (.cells #[.int .i64 x, .int .i64 y, .int .i64 z] 65))
        clear hown hno hb hbw hbs
        cases h1 : x == y
        · cases h2 : y == z
          · cases h3 : z == x
            · have HNO' := Lib.hid (show m = 0 ↔ ∀ i, i < k + 1 → loopB (T! T i) = false from ⟨fun h i hi => by
                by_cases e : i = k
                · subst e; rw [ht.out]; unfold loopB; simp only [h1, h2, h3]; rfl
                · exact HNO.out.1 h i (by omega), fun h => HNO.out.2 fun i hi => h i (by omega)⟩)
              go_wp2
              go_roundw
              case rel => exact ⟨k + 1, m, xs, by omega, by omega, by go_num, HW2.out, HNO'.out, HB2.out⟩
              case measure => simp [intOf]; omega
            · have HX := Lib.hid h3
              go_wp2_with (at_builtin; refine wpList_append_new _ rfl _ _ 111 rfl (w.heap.size + 1) 129 i0 _ 3 24 (by kernel_rfl) hi hz0 hz1 hz2 rfl (by decide) _ _ _ rfl HW2.out _ _ _ rfl (by first | rfl | simp) rfl ?_ ?_ ?_ ?_ ?_)
              · exact ⟨rfl, rfl, rfl⟩
              · unfold maxLen; omega
              · omega
              · have := HB2.out.size
                simp at this ⊢; omega
              · intro v' w3 hown3 hbel hgr
                have HW3 := Lib.hid hown3
                have HB3 := Lib.hid (hbel (w.heap.size + 1) _ (Nat.le_refl _) HB2.out)
                clear hown3 hbel hgr
                go_wp2
                go_roundw
                case rel => exact ⟨k + 1, m + 1, _, by omega, by omega, by go_num, HW3.out, ⟨(fun h => absurd h (by omega)), fun h => by have h1 := h k (by omega); rw [ht.out] at h1; unfold loopB at h1; have h2 := HX.out; simp only [Bool.or_eq_false_iff] at h1; simp only [h1.1.1, h1.1.2, h1.2] at h2; cases h2⟩, HB3.out⟩
                case measure => simp [intOf]; omega

          · have HX := Lib.hid h2
            go_wp2_with (at_builtin; refine wpList_append_new _ rfl _ _ 111 rfl (w.heap.size + 1) 129 i0 _ 3 24 (by kernel_rfl) hi hz0 hz1 hz2 rfl (by decide) _ _ _ rfl HW2.out _ _ _ rfl (by first | rfl | simp) rfl ?_ ?_ ?_ ?_ ?_)
            · exact ⟨rfl, rfl, rfl⟩
            · unfold maxLen; omega
            · omega
            · have := HB2.out.size
              simp at this ⊢; omega
            · intro v' w3 hown3 hbel hgr
              have HW3 := Lib.hid hown3
              have HB3 := Lib.hid (hbel (w.heap.size + 1) _ (Nat.le_refl _) HB2.out)
              clear hown3 hbel hgr
              go_wp2
              go_roundw
              case rel => exact ⟨k + 1, m + 1, _, by omega, by omega, by go_num, HW3.out, ⟨(fun h => absurd h (by omega)), fun h => by have h1 := h k (by omega); rw [ht.out] at h1; unfold loopB at h1; have h2 := HX.out; simp only [Bool.or_eq_false_iff] at h1; simp only [h1.1.1, h1.1.2, h1.2] at h2; cases h2⟩, HB3.out⟩
              case measure => simp [intOf]; omega

        · have HX := Lib.hid h1
          go_wp2_with (at_builtin; refine wpList_append_new _ rfl _ _ 111 rfl (w.heap.size + 1) 129 i0 _ 3 24 (by kernel_rfl) hi hz0 hz1 hz2 rfl (by decide) _ _ _ rfl HW2.out _ _ _ rfl (by first | rfl | simp) rfl ?_ ?_ ?_ ?_ ?_)
          · exact ⟨rfl, rfl, rfl⟩
          · unfold maxLen; omega
          · omega
          · have := HB2.out.size
            simp at this ⊢; omega
          · intro v' w3 hown3 hbel hgr
            have HW3 := Lib.hid hown3
            have HB3 := Lib.hid (hbel (w.heap.size + 1) _ (Nat.le_refl _) HB2.out)
            clear hown3 hbel hgr
            go_wp2
            go_roundw
            case rel => exact ⟨k + 1, m + 1, _, by omega, by omega, by go_num, HW3.out, ⟨(fun h => absurd h (by omega)), fun h => by have h1 := h k (by omega); rw [ht.out] at h1; unfold loopB at h1; have h2 := HX.out; simp only [Bool.or_eq_false_iff] at h1; simp only [h1.1.1, h1.1.2, h1.2] at h2; cases h2⟩, HB3.out⟩
            case measure => simp [intOf]; omega

      · obtain rfl : len = k := by omega
        obtain ⟨a2, c2, rfl⟩ := owns_slice hown
        obtain ⟨W2, rfl⟩ : ∃ W2 : World, W2 = wr := ⟨_, rfl⟩
        clear hown hno hb hbw
        by_cases hz : m = 0
        case neg =>
          have hd : decide (0 < m) = true := by simp; omega
          go_wp2
          go_ret
          exact ⟨_, rfl, ⟨m, xs, owns_base HW.out (by omega), by omega, ⟨fun h => absurd h hz, fun h => HNO.out.2 fun i hi => h.noloop i (by have := HL.out; omega)⟩⟩, HBw.out⟩

        case pos =>
          have HLP := Lib.hid (HNO.out.1 hz)
          have HC2 := Lib.hid (pairs3 N ao cap T W2 (HT.out.mono (by simp) HB.out) (by have := HL.out; omega))
          rw [← HL.out] at HC2
          subst hz
          go_wp2_with fail
          refine (HC2.out).mono ?_
          rintro e w3 ⟨v3, m3, xs3, rfl, hown3, hm3, hP3, hb3⟩
          have HB3 := Lib.hid (below_more HB.out hb3 (by omega))
          obtain ⟨hc0', hc1', hbw3, hsz3⟩ := box_soup HB3.out
          obtain ⟨a3, c3, rfl⟩ := owns_slice hown3
          have HW3 := Lib.hid (owns_base hown3 (base' := w.heap.size + 1) (by omega))
          have HP3 := Lib.hid hP3
          have HBw3 := Lib.hid hbw3
          clear hown3 hP3 hb3 HC2 hbw3 HW HB HBw hc0 hc1
          by_cases hz : m3 = 0
          case neg =>
            have hd : decide (0 < m3) = true := by simp; omega
            go_wp2
            go_ret
            exact ⟨_, rfl, ⟨m3, xs3, owns_base HW3.out (by omega), by omega, ⟨fun h => absurd h hz, fun h => HP3.out.2 fun b a hb ha => h.tw b a (by have := HL.out; omega) ha⟩⟩, HBw3.out⟩
          case pos =>
            have HTW := Lib.hid (HP3.out.1 hz)
            have HC4 := Lib.hid (pairs4 N ao cap T w3 (HT.out.mono (by simp) HB3.out) (by have := HL.out; omega))
            rw [← HL.out] at HC4
            subst hz
            go_wp2_with fail
            refine (HC4.out).mono ?_
            rintro e w4 ⟨v4, m4, xs4, rfl, hown4, hm4, hP4, hb4⟩
            have HB4 := Lib.hid (below_more HB3.out hb4 (by omega))
            obtain ⟨hc0, hc1, hbw4, hsz4⟩ := box_soup HB4.out
            obtain ⟨a4, c4, rfl⟩ := owns_slice hown4
            have HW4 := Lib.hid (owns_base hown4 (base' := w.heap.size + 1) (by omega))
            have HP4 := Lib.hid hP4
            have HBw4 := Lib.hid hbw4
            clear hown4 hP4 hb4 HC4 hbw4 HW3 HB3 HBw3 hc0' hc1' HP3
            by_cases hz : m4 = 0
            case neg =>
              have hd : decide (0 < m4) = true := by simp; omega
              go_wp2
              go_ret
              exact ⟨_, rfl, ⟨m4, xs4, owns_base HW4.out (by omega), by omega, ⟨fun h => absurd h hz, fun h => HP4.out.2 fun b a hb ha => h.mir b a (by have := HL.out; omega) ha⟩⟩, HBw4.out⟩
            case pos =>
              have HMI := Lib.hid (HP4.out.1 hz)
              obtain ⟨n, hn⟩ : ∃ n : Nat, N = n := ⟨N.toNat, by have := HI.out; omega⟩
              subst hn
              have hn4 : n ≤ 4096 := by have := HI.out.2.1; omega
              subst hz
              go_wp2
              clear hc0 hc1
              go_loopw [6, 3] (fun i v ws => ∃ (k m : Nat) (xs : List Value), k ≤ n ∧ m ≤ k ∧ i = .int .i64 k ∧ ws.ownsRow (w.heap.size + 1) 129 3 v m xs ∧ (m = 0 ↔ ∀ u : Nat, u < k → ∃ i, i < len ∧ hasB (T! T i) u = true) ∧
                  Below (w.heap.size + 1) (w.alloc (.cells #[.int .i64 (n : Int), .slice ao len cap] 24)) ws) (fun i _ _ => n - (intOf i).toNat)
              case atStart => exact ⟨0, 0, xs4, by omega, by omega, rfl, HW4.out, ⟨fun _ i h => by omega, fun _ => rfl⟩, HB4.out⟩
              case round =>
                clear HW4 HB4 HBw4 HP4
                obtain ⟨k, m, xs, hk, hm, rfl, hown, hno, hb⟩ := hrel
                obtain ⟨hc0, hc1, hbw, hsz⟩ := box_soup hb
                have HW := Lib.hid hown
                have HNO := Lib.hid hno
                have HB := Lib.hid hb
                have HBw := Lib.hid hbw
                obtain ⟨W5, rfl⟩ : ∃ W5 : World, W5 = wr := ⟨_, rfl⟩
                clear hno hb hbw
                by_cases hlt : k < n
                · clear hown
                  go_wp2
                  clear hc0 hc1
                  go_loopw [8, 7] (fun i β xs => ∃ (l : Nat), l ≤ len ∧ i = .int .i64 l ∧ β = .bool (anyB T k l) ∧ Below W5.heap.size W5 xs) (fun i _ _ => len - (intOf i).toNat)
                  case atStart => exact ⟨0, by omega, rfl, rfl, Below.refl _ _⟩
                  case round =>
                    obtain ⟨l, hl', rfl, rfl, hb6⟩ := hrel
                    have HB6 := Lib.hid (below_more HB.out hb6 (by omega))
                    obtain ⟨hc0, hc1, hbw6, hsz6⟩ := box_soup HB6.out
                    have hs6 := hb6.size
                    have H6 := Lib.hid hb6
                    clear hb6 hbw6
                    by_cases hll : l < len
                    · obtain ⟨b, off, x, y, z, rfl, ht, g0, g1, g2, hbs, hbs'⟩ := HT.out.get (by simp) HB6.out (i := l) (by have := HL.out; omega)
                      clear hbs
                      have hE := anyB_succ T k l
                      have hct := fun w => has_tri x y z (k : Int) w
                      cases ha : anyB T k l
                      · cases hh : hasB (x, y, z) k
                        all_goals
                          rw [ha, ht.out, hh] at hE
                          rw [hh] at hct
                          have HC := Lib.hid hct
                          have HE := Lib.hid hE
                          clear hct hE ha hh
                          go_wp2_with fail
                          refine (HC.out _).mono ?_
                          rintro e w7 ⟨rfl, hb7⟩
                          have H7 := Lib.hid (below_more H6.out hb7 (by omega))
                          clear hb7
                          go_wp2
                          go_roundw
                          case rel => exact ⟨l + 1, by omega, by go_num, by rw [HE.out]; rfl, H7.out⟩
                          case measure => simp [intOf]; omega
                      · rw [ha] at hE
                        have HE := Lib.hid hE
                        clear hct hE ha
                        go_wp2
                        go_roundw
                        case rel => exact ⟨l + 1, by omega, by go_num, by rw [HE.out]; rfl, H6.out⟩
                        case measure => simp [intOf]; omega
                    · obtain rfl : len = l := by omega
                      have HW6 := Lib.hid (owns_below HW.out H6.out)
                      cases ha : anyB T k len
                      · have HAN := Lib.hid ha
                        go_wp2_with (at_builtin; refine wpList_append_new _ rfl _ _ 111 rfl (w.heap.size + 1) 129 i0 _ 3 24 (by kernel_rfl) hi hz0 hz1 hz2 rfl (by decide) _ _ _ rfl HW6.out _ _ _ rfl (by first | rfl | simp) rfl ?_ ?_ ?_ ?_ ?_)
                        · exact ⟨rfl, rfl, rfl⟩
                        · unfold maxLen; omega
                        · omega
                        · have := HB6.out.size
                          simp at this ⊢; omega
                        · intro v' w3 hown3 hbel hgr
                          have HW3 := Lib.hid hown3
                          have HB3 := Lib.hid (hbel (w.heap.size + 1) _ (Nat.le_refl _) HB6.out)
                          clear hown3 hbel hgr
                          go_wp2
                          go_roundw
                          case rel => exact ⟨k + 1, m + 1, _, by omega, by omega, by go_num, HW3.out, ⟨(fun h => absurd h (by omega)), fun h => by obtain ⟨i, hi, hh⟩ := h k (by omega); have h1 := anyB_none HAN.out hi; rw [hh] at h1; cases h1⟩, HB3.out⟩
                          case measure => simp [intOf]; omega

                      · have HNO' := Lib.hid (show m = 0 ↔ ∀ u : Nat, u < k + 1 → ∃ i, i < len ∧ hasB (T! T i) u = true from ⟨fun h u hu => by
                          by_cases e : u = k
                          · subst e; exact anyB_some ha
                          · exact HNO.out.1 h u (by omega), fun h => HNO.out.2 fun u hu => h u (by omega)⟩)
                        clear ha
                        go_wp2
                        go_roundw
                        case rel => exact ⟨k + 1, m, xs, by omega, by omega, by go_num, HW6.out, HNO'.out, HB6.out⟩
                        case measure => simp [intOf]; omega
                · obtain rfl : n = k := by omega
                  obtain ⟨a5, c5, rfl⟩ := owns_slice hown
                  clear hown
                  by_cases hz : m = 0
                  case neg =>
                    have hd : decide (0 < m) = true := by simp; omega
                    go_wp2
                    go_ret
                    exact ⟨_, rfl, ⟨m, xs, owns_base HW.out (by omega), by omega, ⟨fun h => absurd h hz, fun h => HNO.out.2 fun u hu => by obtain ⟨i, hi, hh⟩ := h.used u (by omega) (by omega); exact ⟨i, by have := HL.out; omega, hh⟩⟩⟩, HBw.out⟩

                  case pos =>
                    have HUS := Lib.hid (HNO.out.1 hz)
                    subst hz
                    go_wp2
                    clear hc0 hc1
                    go_loopw [9, 3] (fun i v ws => ∃ (k m : Nat) (xs : List Value), k ≤ n ∧ m ≤ k ∧ i = .int .i64 k ∧ ws.ownsRow (w.heap.size + 1) 129 3 v m xs ∧ (m = 0 ↔ ∀ u : Nat, u < k → Unpinched T u) ∧
                        Below (w.heap.size + 1) (w.alloc (.cells #[.int .i64 (n : Int), .slice ao len cap] 24)) ws) (fun i _ _ => n - (intOf i).toNat)
                    case atStart => exact ⟨0, 0, xs, by omega, by omega, rfl, HW.out, ⟨fun _ i h => by omega, fun _ => rfl⟩, HB.out⟩
                    case round =>
                      clear HW HB HBw HNO
                      obtain ⟨k, m, xs, hk, hm, rfl, hown, hno, hb⟩ := hrel
                      obtain ⟨hc0, hc1, hbw, hsz⟩ := box_soup hb
                      have HW := Lib.hid hown
                      have HNO := Lib.hid hno
                      have HB := Lib.hid hb
                      have HBw := Lib.hid hbw
                      clear hown hno hb hbw
                      by_cases hlt : k < n
                      · have HC := Lib.hid (pinched_any (n : Int) ao cap T k wr (HT.out.mono (by simp) HB.out) (by have := HL.out; omega))
                        rw [← HL.out] at HC
                        go_wp2_with fail
                        refine (HC.out).mono ?_
                        rintro e w7 ⟨r, rfl, hP7, hb7⟩
                        have HB7 := Lib.hid (below_more HB.out hb7 (by omega))
                        have HW7 := Lib.hid (owns_below HW.out hb7)
                        have HP7 := Lib.hid hP7
                        clear hb7 hP7 HC hc0 hc1
                        cases r
                        · have HNO' := Lib.hid (show m = 0 ↔ ∀ u : Nat, u < k + 1 → Unpinched T u from ⟨fun h u hu => by
                            by_cases e : u = k
                            · subst e; exact HP7.out.1 rfl
                            · exact HNO.out.1 h u (by omega), fun h => HNO.out.2 fun u hu => h u (by omega)⟩)
                          go_wp2
                          go_roundw
                          case rel => exact ⟨k + 1, m, xs, by omega, by omega, by go_num, HW7.out, HNO'.out, HB7.out⟩
                          case measure => simp [intOf]; omega
                        · skip
                          go_wp2_with (at_builtin; refine wpList_append_new _ rfl _ _ 111 rfl (w.heap.size + 1) 129 i0 _ 3 24 (by kernel_rfl) hi hz0 hz1 hz2 rfl (by decide) _ _ _ rfl HW7.out _ _ _ rfl (by first | rfl | simp) rfl ?_ ?_ ?_ ?_ ?_)
                          · exact ⟨rfl, rfl, rfl⟩
                          · unfold maxLen; omega
                          · omega
                          · have := HB7.out.size
                            simp at this ⊢; omega
                          · intro v' w3 hown3 hbel hgr
                            have HW3 := Lib.hid hown3
                            have HB3 := Lib.hid (hbel (w.heap.size + 1) _ (Nat.le_refl _) HB7.out)
                            clear hown3 hbel hgr
                            go_wp2
                            go_roundw
                            case rel => exact ⟨k + 1, m + 1, _, by omega, by omega, by go_num, HW3.out, ⟨(fun h => absurd h (by omega)), fun h => by have := HP7.out.2 (h k (by omega)); cases this⟩, HB3.out⟩
                            case measure => simp [intOf]; omega

                      · obtain rfl : n = k := by omega
                        have HSF := Lib.hid (show m = 0 ↔ Surf n T from ⟨fun h => by
                          obtain ⟨q0, q1, q2, q3⟩ := HI.out
                          have e := HL.out
                          exact ⟨q0, q1, by omega, q3, fun i hi => HLP.out i (by omega), fun b a hb ha => HTW.out b a (by omega) ha, fun b a hb ha => HMI.out b a (by omega) ha, fun u h0 h1 => by
                            obtain ⟨u', rfl⟩ := Int.eq_ofNat_of_zero_le h0
                            obtain ⟨i, hi, hh⟩ := HUS.out u' (by omega)
                            exact ⟨i, by omega, hh⟩, fun u h0 h1 => by
                            obtain ⟨u', rfl⟩ := Int.eq_ofNat_of_zero_le h0
                            exact HNO.out.1 h u' (by omega)⟩, fun h => HNO.out.2 fun u hu => h.pin u (by omega) (by omega)⟩)
                        go_wp2
                        go_ret
                        exact ⟨_, rfl, ⟨m, xs, owns_base HW.out (by omega), by omega, HSF.out⟩, HBw.out⟩
def YesMeans (r : Bool) (P : Prop) : Prop := r = true → P
set_option maxHeartbeats 400000 in
theorem surface_iff (N : Int) (ao : Option Addr) (cap : Nat) (T : List Tr) (w : World) (hT : TrisAt w ao T) (hl : T.length ≤ 10000) :
    Calls Tryz.prog 47 #[.agg #[.int .i64 N, .slice ao T.length cap]] w fun e w' => ∃ r, e = .returned (.bool r) ∧ (r = true ↔ Surf N T) ∧ Below w.heap.size w w' := by
  have hb0 : Below w.heap.size w (w.alloc (.cells #[.int .i64 N, .slice ao T.length cap] 24)) := (Below.refl _ _).alloc (Nat.le_refl _) _
  have HC := Lib.hid (rall_any N ao cap T (w.alloc (.cells #[.int .i64 N, .slice ao T.length cap] 24)) (hT.mono (Nat.le_refl _) hb0) hl)
  have HB0 := Lib.hid hb0
  clear hb0 hT
  go_enter Tryz.func47, Tryz.ntmps47
  go_wp2_with fail
  refine (HC.out).mono ?_
  rintro e w1 ⟨v1, rfl, ⟨m1, xs1, hown1, hm1, hP1⟩, hb1⟩
  obtain ⟨a1, c1, rfl⟩ := owns_slice hown1
  have HB1 := Lib.hid (HB0.out.trans (hb1.mono (by simp)))
  have HP := Lib.hid (show ((m1 : Int) == 0) = true ↔ Surf N T from ⟨fun h => hP1.1 (by simpa using h), fun h => by simpa using hP1.2 h⟩)
  clear hown1 hP1 hb1
  go_wp2
  go_ret
  exact ⟨_, rfl, HP.out, HB1.out⟩
theorem surface_any (N : Int) (ao : Option Addr) (cap : Nat) (T : List Tr) (w : World) (hT : TrisAt w ao T) (hl : T.length ≤ 10000) :
    Calls Tryz.prog 47 #[.agg #[.int .i64 N, .slice ao T.length cap]] w fun e w' => ∃ r, e = .returned (.bool r) ∧ YesMeans r (Surf N T) ∧ Below w.heap.size w w' :=
  (surface_iff N ao cap T w hT hl).mono fun e w' ⟨r, h1, h2, h3⟩ => ⟨r, h1, h2.1, h3⟩
end Go.Proofs.YtknioobpoieohaaGreat

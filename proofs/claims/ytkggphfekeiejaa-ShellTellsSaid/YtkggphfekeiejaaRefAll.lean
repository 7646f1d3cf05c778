/- gypsumref09.All, Surface: no witness only if the triangles are a surface. -/
import Derived.Test.YtkggphfekeiejaaRefPinched
import Derived.Test.YtkggphfekeiejaaRefPairs4
namespace Go.Proofs.Ytkggphfekeiejaa
set_option linter.unusedVariables false
set_option linter.unusedSimpArgs false
open Go.RowKit
def loopB (t : Tr) : Bool := t.1 == t.2.1 || t.2.1 == t.2.2 || t.2.2 == t.1
/-- The triangles are an oriented surface. -/
structure Surf (N : Int) (T : List Tr) : Prop where
  n0 : 0 ≤ N
  n1 : N ≤ 4096
  t1 : T.length ≤ 8192
  vin : VIn N T
  noloop : ∀ i, i < T.length → loopB (T! T i) = false
  tw : ∀ b a, b < T.length → a < b → twB (T! T a) (T! T b) = false
  mir : ∀ b a, b < T.length → a < b → mirB (T! T a) (T! T b) = false
  used : ∀ v, 0 ≤ v → v < N → ∃ i, i < T.length ∧ hasB (T! T i) v = true
  pin : ∀ v, 0 ≤ v → v < N → Unpinched T v
def anyB (T : List Tr) (v : Int) (k : Nat) : Bool := (List.range k).any fun i => hasB (T! T i) v
theorem anyB_succ (T : List Tr) (v : Int) (k : Nat) : anyB T v (k + 1) = (anyB T v k || hasB (T! T k) v) := by simp [anyB, List.range_succ]
theorem anyB_some {T : List Tr} {v : Int} {k : Nat} (h : anyB T v k = true) : ∃ i, i < k ∧ hasB (T! T i) v = true := by simpa [anyB] using h
set_option maxRecDepth 100000 in
set_option maxHeartbeats 4000000 in
theorem rall_any (N : Int) (ao : Option Addr) (cap : Nat) (T : List Tr) (w : World) (hT : TrisAt w ao T) (hl : T.length ≤ 10000) :
    Calls Try.prog 46 #[.agg #[.int .i64 N, .slice ao T.length cap]] w fun e w' => ∃ v, e = .returned v ∧ Wits w' w.heap.size v (Surf N T) ∧ Below w.heap.size w w' := by
  obtain ⟨i0, hi, hz0, hz1, hz2⟩ := info_parts info95
  have HT := Lib.hid (hT.mono (Nat.le_refl _) ((Below.refl _ _).alloc (Nat.le_refl _) (.cells #[.int .i64 N, .slice ao T.length cap] 24)))
  have HC1 := Lib.hid (rindex_any N ao cap T (w.alloc (.cells #[.int .i64 N, .slice ao T.length cap] 24)) HT.out hl)
  obtain ⟨len, hlen⟩ : ∃ n, n = T.length := ⟨_, rfl⟩
  rw [← hlen] at hl HT HC1 ⊢
  have HL := Lib.hid hlen
  clear hlen hT
  go_enter Try.func46, Try.ntmps46
  go_wp2_with fail
  refine (HC1.out).mono ?_
  rintro e w1 ⟨v1, rfl, ⟨m1, xs1, hown1, hm1, hP1⟩, hb1⟩
  obtain ⟨hc0, hc1, hbw1, hsz1⟩ := box_soup (hb1.mono (by simp))
  obtain ⟨a1, c1, rfl⟩ := owns_slice hown1
  have HW1 := Lib.hid (owns_base hown1 (base' := w.heap.size + 1) (by simp))
  have HB1 := Lib.hid (show Below (w.heap.size + 1) _ w1 from hb1.mono (by simp))
  have HP1 := Lib.hid hP1
  have HBw1 := Lib.hid hbw1
  clear hown1 hP1 hb1 HC1 hbw1
  by_cases hz : m1 = 0
  case neg =>
    have hd : decide (0 < m1) = true := by simp; omega
    go_wp2
    go_ret
    exact ⟨_, rfl, ⟨m1, xs1, owns_base HW1.out (by omega), hm1, fun h => absurd h hz⟩, HBw1.out⟩
  case pos =>
    have HI := Lib.hid (HP1.out hz)
    subst hz
    go_wp2
    -- GEN
    clear hc0 hc1
    go_loopw [4, 3] (fun i v ws => ∃ (k m : Nat) (xs : List Value), k ≤ len ∧ m ≤ k ∧ i = .int .i64 k ∧ ws.ownsRow (w.heap.size + 1) 95 3 v m xs ∧ (m = 0 → ∀ i, i < k → loopB (T! T i) = false) ∧
        Below (w.heap.size + 1) (w.alloc (.cells #[.int .i64 N, .slice ao len cap] 24)) ws) (fun i _ _ => len - (intOf i).toNat)
    case atStart => exact ⟨0, 0, xs1, by omega, by omega, rfl, HW1.out, fun _ i h => by omega, HB1.out⟩
    case round =>
      clear HW1 HB1 HBw1 HP1
      obtain ⟨k, m, xs, hk, hm, rfl, hown, hno, hb⟩ := hrel
      obtain ⟨hc0, hc1, hbw, hsz⟩ := box_soup hb
      have HW := Lib.hid hown
      have HNO := Lib.hid hno
      have HB := Lib.hid hb
      have HBw := Lib.hid hbw
      by_cases hlt : k < len
      · obtain ⟨b, off, x, y, z, rfl, ht, g0, g1, g2, hbs, hbs'⟩ := HT.out.get (by simp) HB.out (i := k) (by have := HL.out; omega)
        have HW2 := Lib.hid (hown.alloc (.cells #[.int .i64 x, .int .i64 y, .int .i64 z] 49))
        have HB2 := Lib.hid (HB.out.alloc (by omega) (.cells #[.int .i64 x, .int .i64 y, .int .i64 z] 49))
        clear hown hno hb hbw hbs
        cases h1 : x == y
        · cases h2 : y == z
          · cases h3 : z == x
            · have HNO' := Lib.hid (show m = 0 → ∀ i, i < k + 1 → loopB (T! T i) = false from fun h i hi => by
                by_cases e : i = k
                · subst e; rw [ht.out]; unfold loopB; simp only [h1, h2, h3]; rfl
                · exact HNO.out h i (by omega))
              go_wp2
              go_roundw
              case rel => exact ⟨k + 1, m, xs, by omega, by omega, by go_num, HW2.out, HNO'.out, HB2.out⟩
              case measure => simp [intOf]; omega
            · skip
              go_wp2_with (at_builtin; refine wpList_append_new _ rfl _ _ 84 rfl (w.heap.size + 1) 95 i0 _ 3 24 (by kernel_rfl) hi hz0 hz1 hz2 rfl (by decide) _ _ _ rfl HW2.out _ _ _ rfl (by first | rfl | simp) rfl ?_ ?_ ?_ ?_ ?_)
              · exact ⟨rfl, rfl, rfl⟩
              · unfold maxLen; omega
              · omega
              · have := HB2.out.size
                simp at this ⊢; omega
              · intro v' w3 hown3 hbel hgr
                have HW3 := Lib.hid hown3
                have HB3 := Lib.hid (hbel (w.heap.size + 1) _ (Nat.le_refl _) HB2.out)
                clear hown3 hbel hgr
                go_wp2
                go_roundw
                case rel => exact ⟨k + 1, m + 1, _, by omega, by omega, by go_num, HW3.out, (fun h => absurd h (by omega)), HB3.out⟩
                case measure => simp [intOf]; omega

          · skip
            go_wp2_with (at_builtin; refine wpList_append_new _ rfl _ _ 84 rfl (w.heap.size + 1) 95 i0 _ 3 24 (by kernel_rfl) hi hz0 hz1 hz2 rfl (by decide) _ _ _ rfl HW2.out _ _ _ rfl (by first | rfl | simp) rfl ?_ ?_ ?_ ?_ ?_)
            · exact ⟨rfl, rfl, rfl⟩
            · unfold maxLen; omega
            · omega
            · have := HB2.out.size
              simp at this ⊢; omega
            · intro v' w3 hown3 hbel hgr
              have HW3 := Lib.hid hown3
              have HB3 := Lib.hid (hbel (w.heap.size + 1) _ (Nat.le_refl _) HB2.out)
              clear hown3 hbel hgr
              go_wp2
              go_roundw
              case rel => exact ⟨k + 1, m + 1, _, by omega, by omega, by go_num, HW3.out, (fun h => absurd h (by omega)), HB3.out⟩
              case measure => simp [intOf]; omega

        · skip
          go_wp2_with (at_builtin; refine wpList_append_new _ rfl _ _ 84 rfl (w.heap.size + 1) 95 i0 _ 3 24 (by kernel_rfl) hi hz0 hz1 hz2 rfl (by decide) _ _ _ rfl HW2.out _ _ _ rfl (by first | rfl | simp) rfl ?_ ?_ ?_ ?_ ?_)
          · exact ⟨rfl, rfl, rfl⟩
          · unfold maxLen; omega
          · omega
          · have := HB2.out.size
            simp at this ⊢; omega
          · intro v' w3 hown3 hbel hgr
            have HW3 := Lib.hid hown3
            have HB3 := Lib.hid (hbel (w.heap.size + 1) _ (Nat.le_refl _) HB2.out)
            clear hown3 hbel hgr
            go_wp2
            go_roundw
            case rel => exact ⟨k + 1, m + 1, _, by omega, by omega, by go_num, HW3.out, (fun h => absurd h (by omega)), HB3.out⟩
            case measure => simp [intOf]; omega

      · obtain rfl : len = k := by omega
        obtain ⟨a2, c2, rfl⟩ := owns_slice hown
        obtain ⟨W2, rfl⟩ : ∃ W2 : World, W2 = wr := ⟨_, rfl⟩
        clear hown hno hb hbw
        by_cases hz : m = 0
        case neg =>
          have hd : decide (0 < m) = true := by simp; omega
          go_wp2
          go_ret
          exact ⟨_, rfl, ⟨m, xs, owns_base HW.out (by omega), by omega, fun h => absurd h hz⟩, HBw.out⟩

        case pos =>
          have HLP := Lib.hid (HNO.out hz)
          have HC2 := Lib.hid (pairs3 N ao cap T W2 (HT.out.mono (by simp) HB.out) (by have := HL.out; omega))
          rw [← HL.out] at HC2
          subst hz
          go_wp2_with fail
          refine (HC2.out).mono ?_
          rintro e w3 ⟨v3, m3, xs3, rfl, hown3, hm3, hP3, hb3⟩
          have HB3 := Lib.hid (below_more HB.out hb3 (by omega))
          obtain ⟨hc0', hc1', hbw3, hsz3⟩ := box_soup HB3.out
          obtain ⟨a3, c3, rfl⟩ := owns_slice hown3
          have HW3 := Lib.hid (owns_base hown3 (base' := w.heap.size + 1) (by omega))
          have HP3 := Lib.hid hP3
          have HBw3 := Lib.hid hbw3
          clear hown3 hP3 hb3 HC2 hbw3 HW HB HBw hc0 hc1
          by_cases hz : m3 = 0
          case neg =>
            have hd : decide (0 < m3) = true := by simp; omega
            go_wp2
            go_ret
            exact ⟨_, rfl, ⟨m3, xs3, owns_base HW3.out (by omega), by omega, fun h => absurd h hz⟩, HBw3.out⟩
          case pos =>
            have HTW := Lib.hid (HP3.out hz)
            have HC4 := Lib.hid (pairs4 N ao cap T w3 (HT.out.mono (by simp) HB3.out) (by have := HL.out; omega))
            rw [← HL.out] at HC4
            subst hz
            go_wp2_with fail
            refine (HC4.out).mono ?_
            rintro e w4 ⟨v4, m4, xs4, rfl, hown4, hm4, hP4, hb4⟩
            have HB4 := Lib.hid (below_more HB3.out hb4 (by omega))
            obtain ⟨hc0, hc1, hbw4, hsz4⟩ := box_soup HB4.out
            obtain ⟨a4, c4, rfl⟩ := owns_slice hown4
            have HW4 := Lib.hid (owns_base hown4 (base' := w.heap.size + 1) (by omega))
            have HP4 := Lib.hid hP4
            have HBw4 := Lib.hid hbw4
            clear hown4 hP4 hb4 HC4 hbw4 HW3 HB3 HBw3 hc0' hc1' HP3
            by_cases hz : m4 = 0
            case neg =>
              have hd : decide (0 < m4) = true := by simp; omega
              go_wp2
              go_ret
              exact ⟨_, rfl, ⟨m4, xs4, owns_base HW4.out (by omega), by omega, fun h => absurd h hz⟩, HBw4.out⟩
            case pos =>
              have HMI := Lib.hid (HP4.out hz)
              obtain ⟨n, hn⟩ : ∃ n : Nat, N = n := ⟨N.toNat, by have := HI.out; omega⟩
              subst hn
              have hn4 : n ≤ 4096 := by have := HI.out.2.1; omega
              subst hz
              go_wp2
              clear hc0 hc1
              go_loopw [6, 3] (fun i v ws => ∃ (k m : Nat) (xs : List Value), k ≤ n ∧ m ≤ k ∧ i = .int .i64 k ∧ ws.ownsRow (w.heap.size + 1) 95 3 v m xs ∧ (m = 0 → ∀ u : Nat, u < k → ∃ i, i < len ∧ hasB (T! T i) u = true) ∧
                  Below (w.heap.size + 1) (w.alloc (.cells #[.int .i64 (n : Int), .slice ao len cap] 24)) ws) (fun i _ _ => n - (intOf i).toNat)
              case atStart => exact ⟨0, 0, xs4, by omega, by omega, rfl, HW4.out, fun _ i h => by omega, HB4.out⟩
              case round =>
                clear HW4 HB4 HBw4 HP4
                obtain ⟨k, m, xs, hk, hm, rfl, hown, hno, hb⟩ := hrel
                obtain ⟨hc0, hc1, hbw, hsz⟩ := box_soup hb
                have HW := Lib.hid hown
                have HNO := Lib.hid hno
                have HB := Lib.hid hb
                have HBw := Lib.hid hbw
                obtain ⟨W5, rfl⟩ : ∃ W5 : World, W5 = wr := ⟨_, rfl⟩
                clear hno hb hbw
                by_cases hlt : k < n
                · clear hown
                  go_wp2
                  clear hc0 hc1
                  go_loopw [8, 7] (fun i β xs => ∃ (l : Nat), l ≤ len ∧ i = .int .i64 l ∧ β = .bool (anyB T k l) ∧ Below W5.heap.size W5 xs) (fun i _ _ => len - (intOf i).toNat)
                  case atStart => exact ⟨0, by omega, rfl, rfl, Below.refl _ _⟩
                  case round =>
                    obtain ⟨l, hl', rfl, rfl, hb6⟩ := hrel
                    have HB6 := Lib.hid (below_more HB.out hb6 (by omega))
                    obtain ⟨hc0, hc1, hbw6, hsz6⟩ := box_soup HB6.out
                    have hs6 := hb6.size
                    have H6 := Lib.hid hb6
                    clear hb6 hbw6
                    by_cases hll : l < len
                    · obtain ⟨b, off, x, y, z, rfl, ht, g0, g1, g2, hbs, hbs'⟩ := HT.out.get (by simp) HB6.out (i := l) (by have := HL.out; omega)
                      clear hbs
                      have hE := anyB_succ T k l
                      have hct := fun w => has_tri x y z (k : Int) w
                      cases ha : anyB T k l
                      · cases hh : hasB (x, y, z) k
                        all_goals
                          rw [ha, ht.out, hh] at hE
                          rw [hh] at hct
                          have HC := Lib.hid hct
                          have HE := Lib.hid hE
                          clear hct hE ha hh
                          go_wp2_with fail
                          refine (HC.out _).mono ?_
                          rintro e w7 ⟨rfl, hb7⟩
                          have H7 := Lib.hid (below_more H6.out hb7 (by omega))
                          clear hb7
                          go_wp2
                          go_roundw
                          case rel => exact ⟨l + 1, by omega, by go_num, by rw [HE.out]; rfl, H7.out⟩
                          case measure => simp [intOf]; omega
                      · rw [ha] at hE
                        have HE := Lib.hid hE
                        clear hct hE ha
                        go_wp2
                        go_roundw
                        case rel => exact ⟨l + 1, by omega, by go_num, by rw [HE.out]; rfl, H6.out⟩
                        case measure => simp [intOf]; omega
                    · obtain rfl : len = l := by omega
                      have HW6 := Lib.hid (owns_below HW.out H6.out)
                      cases ha : anyB T k len
                      · skip
                        go_wp2_with (at_builtin; refine wpList_append_new _ rfl _ _ 84 rfl (w.heap.size + 1) 95 i0 _ 3 24 (by kernel_rfl) hi hz0 hz1 hz2 rfl (by decide) _ _ _ rfl HW6.out _ _ _ rfl (by first | rfl | simp) rfl ?_ ?_ ?_ ?_ ?_)
                        · exact ⟨rfl, rfl, rfl⟩
                        · unfold maxLen; omega
                        · omega
                        · have := HB6.out.size
                          simp at this ⊢; omega
                        · intro v' w3 hown3 hbel hgr
                          have HW3 := Lib.hid hown3
                          have HB3 := Lib.hid (hbel (w.heap.size + 1) _ (Nat.le_refl _) HB6.out)
                          clear hown3 hbel hgr
                          go_wp2
                          go_roundw
                          case rel => exact ⟨k + 1, m + 1, _, by omega, by omega, by go_num, HW3.out, (fun h => absurd h (by omega)), HB3.out⟩
                          case measure => simp [intOf]; omega

                      · have HNO' := Lib.hid (show m = 0 → ∀ u : Nat, u < k + 1 → ∃ i, i < len ∧ hasB (T! T i) u = true from fun h u hu => by
                          by_cases e : u = k
                          · subst e; exact anyB_some ha
                          · exact HNO.out h u (by omega))
                        clear ha
                        go_wp2
                        go_roundw
                        case rel => exact ⟨k + 1, m, xs, by omega, by omega, by go_num, HW6.out, HNO'.out, HB6.out⟩
                        case measure => simp [intOf]; omega
                · obtain rfl : n = k := by omega
                  obtain ⟨a5, c5, rfl⟩ := owns_slice hown
                  clear hown
                  by_cases hz : m = 0
                  case neg =>
                    have hd : decide (0 < m) = true := by simp; omega
                    go_wp2
                    go_ret
                    exact ⟨_, rfl, ⟨m, xs, owns_base HW.out (by omega), by omega, fun h => absurd h hz⟩, HBw.out⟩

                  case pos =>
                    have HUS := Lib.hid (HNO.out hz)
                    subst hz
                    go_wp2
                    clear hc0 hc1
                    go_loopw [9, 3] (fun i v ws => ∃ (k m : Nat) (xs : List Value), k ≤ n ∧ m ≤ k ∧ i = .int .i64 k ∧ ws.ownsRow (w.heap.size + 1) 95 3 v m xs ∧ (m = 0 → ∀ u : Nat, u < k → Unpinched T u) ∧
                        Below (w.heap.size + 1) (w.alloc (.cells #[.int .i64 (n : Int), .slice ao len cap] 24)) ws) (fun i _ _ => n - (intOf i).toNat)
                    case atStart => exact ⟨0, 0, xs, by omega, by omega, rfl, HW.out, fun _ i h => by omega, HB.out⟩
                    case round =>
                      clear HW HB HBw HNO
                      obtain ⟨k, m, xs, hk, hm, rfl, hown, hno, hb⟩ := hrel
                      obtain ⟨hc0, hc1, hbw, hsz⟩ := box_soup hb
                      have HW := Lib.hid hown
                      have HNO := Lib.hid hno
                      have HB := Lib.hid hb
                      have HBw := Lib.hid hbw
                      clear hown hno hb hbw
                      by_cases hlt : k < n
                      · have HC := Lib.hid (pinched_any (n : Int) ao cap T k wr (HT.out.mono (by simp) HB.out) (by have := HL.out; omega))
                        rw [← HL.out] at HC
                        go_wp2_with fail
                        refine (HC.out).mono ?_
                        rintro e w7 ⟨r, rfl, hP7, hb7⟩
                        have HB7 := Lib.hid (below_more HB.out hb7 (by omega))
                        have HW7 := Lib.hid (owns_below HW.out hb7)
                        have HP7 := Lib.hid hP7
                        clear hb7 hP7 HC hc0 hc1
                        cases r
                        · have HNO' := Lib.hid (show m = 0 → ∀ u : Nat, u < k + 1 → Unpinched T u from fun h u hu => by
                            by_cases e : u = k
                            · subst e; exact HP7.out rfl
                            · exact HNO.out h u (by omega))
                          go_wp2
                          go_roundw
                          case rel => exact ⟨k + 1, m, xs, by omega, by omega, by go_num, HW7.out, HNO'.out, HB7.out⟩
                          case measure => simp [intOf]; omega
                        · skip
                          go_wp2_with (at_builtin; refine wpList_append_new _ rfl _ _ 84 rfl (w.heap.size + 1) 95 i0 _ 3 24 (by kernel_rfl) hi hz0 hz1 hz2 rfl (by decide) _ _ _ rfl HW7.out _ _ _ rfl (by first | rfl | simp) rfl ?_ ?_ ?_ ?_ ?_)
                          · exact ⟨rfl, rfl, rfl⟩
                          · unfold maxLen; omega
                          · omega
                          · have := HB7.out.size
                            simp at this ⊢; omega
                          · intro v' w3 hown3 hbel hgr
                            have HW3 := Lib.hid hown3
                            have HB3 := Lib.hid (hbel (w.heap.size + 1) _ (Nat.le_refl _) HB7.out)
                            clear hown3 hbel hgr
                            go_wp2
                            go_roundw
                            case rel => exact ⟨k + 1, m + 1, _, by omega, by omega, by go_num, HW3.out, (fun h => absurd h (by omega)), HB3.out⟩
                            case measure => simp [intOf]; omega

                      · obtain rfl : n = k := by omega
                        have HSF := Lib.hid (show m = 0 → Surf n T from fun h => by
                          obtain ⟨q0, q1, q2, q3⟩ := HI.out
                          have e := HL.out
                          exact ⟨q0, q1, by omega, q3, fun i hi => HLP.out i (by omega), fun b a hb ha => HTW.out b a (by omega) ha, fun b a hb ha => HMI.out b a (by omega) ha, fun u h0 h1 => by
                            obtain ⟨u', rfl⟩ := Int.eq_ofNat_of_zero_le h0
                            obtain ⟨i, hi, hh⟩ := HUS.out u' (by omega)
                            exact ⟨i, by omega, hh⟩, fun u h0 h1 => by
                            obtain ⟨u', rfl⟩ := Int.eq_ofNat_of_zero_le h0
                            exact HNO.out h u' (by omega)⟩)
                        go_wp2
                        go_ret
                        exact ⟨_, rfl, ⟨m, xs, owns_base HW.out (by omega), by omega, HSF.out⟩, HBw.out⟩
end Go.Proofs.Ytkggphfekeiejaa

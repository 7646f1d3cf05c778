/- gypsumref09.Pinched: false only if all triangles at the vertex hang together there. -/
import Derived.Test.YtkggphfekeiejaaPinch
namespace Go.Proofs.Ytkggphfekeiejaa
set_option linter.unusedVariables false
set_option linter.unusedSimpArgs false
open Go.RowKit
def PinchPost (r : Bool) (P : Prop) : Prop := r = false → P
/-- In the middle of the marking: the marks, and that what is marked is reached. -/
def PSt (T : List Tr) (v : Int) (I : List Nat) (W ws : World) (β : Nat → Bool) : Prop := RowIs ws W.heap.size 4 (bv β I.length) ∧ PInv T v I β ∧ Below W.heap.size W ws
theorem PSt.more {T : List Tr} {v : Int} {I : List Nat} {W ws wt : World} {β : Nat → Bool} (h : PSt T v I W ws β) (hb : Below ws.heap.size ws wt) : PSt T v I W wt β :=
  ⟨h.1.below hb h.1.lt, h.2.1, below_more h.2.2 hb h.2.2.size⟩
theorem len_iff_pos {n : Nat} (h : ¬ n = 0) : ((n : Int) == 0) = false := by simp; omega
set_option maxRecDepth 100000 in
set_option maxHeartbeats 2000000 in
theorem pinched_any (N : Int) (ao : Option Addr) (cap : Nat) (T : List Tr) (v : Int) (w : World) (hT : TrisAt w ao T) (hl : T.length ≤ 10000) :
    Calls Try.prog 60 #[.agg #[.int .i64 N, .slice ao T.length cap], .int .i64 v] w fun e w' => ∃ r, e = .returned (.bool r) ∧ PinchPost r (Unpinched T v) ∧ Below w.heap.size w w' := by
  obtain ⟨i0, hi, hz0, hz1, hz2⟩ := info_parts info49
  obtain ⟨len, hlen⟩ : ∃ n, n = T.length := ⟨_, rfl⟩
  rw [← hlen] at hl ⊢
  have HL := Lib.hid hlen
  have HT := Lib.hid (hT.mono (Nat.le_refl _) ((Below.refl _ _).alloc (Nat.le_refl _) (.cells #[.int .i64 N, .slice ao len cap] 24)))
  clear hlen hT
  go_enter Try.func60, Try.ntmps60
  go_wp2
  go_loopw [6, 5] (fun i u ws => ∃ (k : Nat), k ≤ len ∧ i = .int .i64 k ∧ ws.ownsRow (w.heap.size + 1) 49 3 u (atV T v k).length (tcells ((atV T v k).map (T! T))) ∧
      Below (w.heap.size + 1) (w.alloc (.cells #[.int .i64 N, .slice ao len cap] 24)) ws) (fun i _ _ => len - (intOf i).toNat)
  case atStart => exact ⟨0, by omega, rfl, by exact World.ownsRow_nil _ _ _ _, Below.refl _ _⟩
  case round =>
    obtain ⟨k, hk, rfl, hown, hb⟩ := hrel
    obtain ⟨hc0, hc1, hbw, hsz⟩ := box_soup hb
    have hle := atV_le T v k
    have HW := Lib.hid hown
    have HB := Lib.hid hb
    have HBw := Lib.hid hbw
    clear hbw
    by_cases hlt : k < len
    · obtain ⟨b, off, x, y, z, rfl, ht, g0, g1, g2, hbs, hbs'⟩ := HT.out.get (by simp) HB.out (i := k) (by have := HL.out; omega)
      clear hown hb hbs
      have hct := fun w => has_tri x y z v w
      cases hh : hasB (x, y, z) v
      · rw [hh] at hct
        have HC := Lib.hid hct
        have hE := atV_succ_no (T := T) (v := v) (k := k) (by rw [ht.out]; exact hh)
        have HE := Lib.hid hE
        clear hct hh hE
        go_wp2_with fail
        refine (HC.out _).mono ?_
        rintro e w2 ⟨rfl, hb2⟩
        have HB2 := Lib.hid (below_more HB.out hb2 (by omega))
        have HW2 := Lib.hid (owns_below HW.out hb2)
        clear hb2
        go_wp2
        go_roundw
        case rel => exact ⟨k + 1, by omega, by go_num, by rw [HE.out]; exact HW2.out, HB2.out⟩
        case measure => simp [intOf]; omega
      · rw [hh] at hct
        have HC := Lib.hid hct
        have hE := atV_succ_yes (T := T) (v := v) (k := k) (by rw [ht.out]; exact hh)
        have HE := Lib.hid hE
        clear hct hh hE
        go_wp2_with fail
        refine (HC.out _).mono ?_
        rintro e w2 ⟨rfl, hb2⟩
        have HB2 := Lib.hid (below_more HB.out hb2 (by omega))
        have HW2 := Lib.hid (owns_below HW.out hb2)
        have hs2 := hb2.size
        obtain ⟨hca, hcb⟩ := bcell hb2
        clear hb2
        go_wp2_with (at_builtin; refine wpList_append_new _ rfl _ _ 22 rfl (w.heap.size + 1) 49 i0 _ 3 24 (by kernel_rfl) hi hz0 hz1 hz2 rfl (by decide) _ _ _ rfl HW2.out _ _ _ rfl (by first | rfl | simp) rfl ?_ ?_ ?_ ?_ ?_)
        · exact ⟨rfl, rfl, rfl⟩
        · unfold maxLen; omega
        · omega
        · omega
        · intro v' w3 hown3 hbel hgr
          have HW3 := Lib.hid hown3
          have HB3 := Lib.hid (hbel (w.heap.size + 1) _ (Nat.le_refl _) HB2.out)
          clear hown3 hbel hgr hca hcb
          go_wp2
          go_roundw
          case rel => exact ⟨k + 1, by omega, by go_num, by
            rw [HE.out, List.map_append, List.map_singleton, tcells_snoc, ht.out, List.length_append]
            exact HW3.out, HB3.out⟩
          case measure => simp [intOf]; omega
    · obtain rfl : len = k := by omega
      obtain ⟨W1, rfl⟩ : ∃ W1 : World, W1 = wr := ⟨_, rfl⟩
      obtain ⟨io, icap, rfl, hIT⟩ := owns_tris (L := (atV T v len).map (T! T)) (by simpa using hown)
      rw [List.length_map] at *
      have HI := Lib.hid hIT
      have HmT := Lib.hid (show len = T.length from HL.out)
      clear hown hb hIT HW
      obtain ⟨I, hI⟩ : ∃ I, I = atV T v len := ⟨_, rfl⟩
      rw [← hI] at hle HI ⊢
      have HII := Lib.hid hI
      clear hI
      by_cases hm0 : I.length = 0
      · have HE := Lib.hid (show Unpinched T v from PInv.empty (by rw [← HmT.out, ← HII.out]; exact hm0))
        rw [hm0]
        clear HI hm0
        go_wp2
        go_ret
        exact ⟨false, rfl, fun _ => HE.out, HBw.out⟩
      · have hm1 := len_iff_pos hm0
        have hmp : 0 < I.length := by omega
        clear hi hz0 hz1 hz2 i0
        obtain ⟨i0, hi, hz0, hz1, hz2⟩ := info_parts info4
        go_wp2_with (at_make; refine wpList_make_full _ rfl _ _ _ rfl W1.heap.size 4 i0 (.bool false) 1 (by kernel_rfl) hi hz0 hz1 _ _ _ _ I.length rfl rfl rfl rfl (by rw [hz2]; omega) (by unfold maxLen; omega) (Nat.le_refl _) ?_)
        intro w2 hown2 hgr2
        rw [madeCells_bv] at hown2
        have hrow := RowIs.of_owns hown2
        have hb2 : Below W1.heap.size W1 w2 := (Below.refl _ _).grown hgr2 (Nat.le_refl _) (by simp)
        have hc0' := hrow.cell (bv_get (fun _ => false) hmp)
        have hf0' := hrow.free 0
        have hr2 := hrow.set 0 (.bool true)
        rw [bv_set] at hr2
        have HS := Lib.hid (show PSt T v I W1 (w2.setCell ⟨W1.heap.size, 0, none⟩ (.bool true)) (updB (fun _ => false) 0 true) from ⟨hr2, PInv.start _ _ _, hb2.setCell (Nat.le_refl _) _⟩)
        clear hown2 hgr2 hrow hb2 hr2 hc0 hc1
        go_wp2
        clear hc0' hf0'
        go_loopw [45] (fun i ws => ∃ (r : Nat) (β : Nat → Bool), r ≤ I.length ∧ i = .int .i64 r ∧ PSt T v I W1 ws β) (fun i _ => I.length - (intOf i).toNat)
        case atStart => exact ⟨0, _, by omega, rfl, HS.out⟩
        case round =>
          clear HS
          obtain ⟨r, β, hr, rfl, hst⟩ := hrel
          have HS := Lib.hid hst
          clear hst
          by_cases hrm : r < I.length
          · go_wp2
            go_loopw [8] (fun i ws => ∃ (p : Nat) (β : Nat → Bool), p ≤ I.length ∧ i = .int .i64 p ∧ PSt T v I W1 ws β) (fun i _ => I.length - (intOf i).toNat)
            case atStart => exact ⟨0, β, by omega, rfl, HS.out⟩
            case round =>
              clear HS
              obtain ⟨p, β, hp, rfl, hst⟩ := hrel
              have HS := Lib.hid hst
              clear hst
              by_cases hpm : p < I.length
              · go_wp2
                go_loopw [9] (fun i ws => ∃ (q : Nat) (β : Nat → Bool), q ≤ I.length ∧ i = .int .i64 q ∧ PSt T v I W1 ws β) (fun i _ => I.length - (intOf i).toNat)
                case atStart => exact ⟨0, β, by omega, rfl, HS.out⟩
                case round =>
                  clear HS
                  obtain ⟨q, β, hq, rfl, hst⟩ := hrel
                  by_cases hqm : q < I.length
                  · have hcp := hst.1.cell (bv_get β hpm)
                    have hcq := hst.1.cell (bv_get β hqm)
                    have HS := Lib.hid hst
                    clear hst
                    obtain ⟨x, hx⟩ : ∃ x, Hid (β p = x) := ⟨_, rfl⟩
                    obtain ⟨y, hy⟩ : ∃ y, Hid (β q = y) := ⟨_, rfl⟩
                    rw [hx.out] at hcp
                    rw [hy.out] at hcq
                    cases x
                    · go_wp2
                      go_roundw
                      case rel => exact ⟨q + 1, β, by omega, by go_num, HS.out⟩
                      case measure => simp [intOf]; omega
                    · cases y
                      · obtain ⟨b, off, hE1, hbI⟩ : ∃ b off, io = some ⟨b, off, none⟩ ∧ b < W1.heap.size := by
                          obtain ⟨b, off, e, -, hb⟩ := HI.out.at (i := 0) (j := 0) (by simpa using hmp) (by omega)
                          exact ⟨b, off, e, hb⟩
                        cases hE1
                        go_wp2
                        clear hcp hcq
                        go_loopw [10] (fun i xs => ∃ (j : Nat) (γ : Nat → Bool), j ≤ 3 ∧ i = .int .i64 j ∧ PSt T v I W1 xs γ ∧ γ p = true) (fun i _ => 3 - (intOf i).toNat)
                        case atStart => exact ⟨0, β, by omega, rfl, HS.out, hx.out⟩
                        case round =>
                          clear HS
                          obtain ⟨j, γ, hj, rfl, hst, hγ⟩ := hrel
                          have HG := Lib.hid hγ
                          clear hγ
                          by_cases hj3 : j < 3
                          · obtain ⟨b', off', hE, hcell, -⟩ := HI.out.at (i := p) (j := j) (by simpa using hpm) hj3
                            cases hE
                            obtain ⟨b', off', a1, a2, a3, hE, ht, g0, g1, g2, -, -⟩ := HI.out.get (Nat.le_refl _) hst.2.2 (i := q) (by simpa using hqm)
                            cases hE
                            obtain ⟨u, hu⟩ : ∃ u, Hid (tg (T! (I.map (T! T)) p) j = u) := ⟨_, rfl⟩
                            rw [hu.out] at hcell
                            have hcx := (hst.2.2.cell (p := ⟨b, off + p * 3 + j, none⟩) hbI).trans hcell
                            have hfz := hst.1.free q
                            have hcq := hst.1.cell (bv_get γ hqm)
                            have HS := Lib.hid hst
                            clear hst hcell
                            cases huv : u == v
                            · have hne : (u != v) = true := by simp [bne, huv]
                              have hct := fun w => has_tri a1 a2 a3 u w
                              cases hh : hasB (a1, a2, a3) u
                              · rw [hh] at hct
                                have HC := Lib.hid hct
                                clear hct hh hcq hfz
                                go_wp2_with fail
                                refine (HC.out _).mono ?_
                                rintro e w3 ⟨rfl, hb3⟩
                                have HS3 := Lib.hid (HS.out.more hb3)
                                clear hb3
                                go_wp2
                                go_roundw
                                case rel => exact ⟨j + 1, γ, by omega, by go_num, HS3.out, HG.out⟩
                                case measure => simp [intOf]; omega
                              · have HM := Lib.hid (show PInv T v I (updB γ q true) from by
                                  have h1 := HS.out.2.1
                                  have e1 := hu.out
                                  rw [T!_map I T p hpm] at e1
                                  have e2 := ht.out
                                  rw [T!_map I T q hqm] at e2
                                  have hnv : ¬ u = v := by simpa using huv
                                  have := HII.out
                                  subst this
                                  exact h1.mark (by have := HmT.out; omega) hpm hqm HG.out hj3 (by rw [e1]; exact hnv) (by rw [e1, e2]; exact hh))
                                rw [hh] at hct
                                have HC := Lib.hid hct
                                clear hct hh
                                go_wp2_with fail
                                refine (HC.out _).mono ?_
                                rintro e w3 ⟨rfl, hb3⟩
                                have HS3 := Lib.hid (HS.out.more hb3)
                                have hcq3 := HS3.out.1.cell (bv_get γ hqm)
                                have hfz3 := HS3.out.1.free q
                                have hr4 := HS3.out.1.set q (.bool true)
                                rw [bv_set] at hr4
                                have HS4 := Lib.hid (show PSt T v I W1 (w3.setCell ⟨W1.heap.size, q, none⟩ (.bool true)) (updB γ q true) from ⟨hr4, HM.out, HS3.out.2.2.setCell (Nat.le_refl _) _⟩)
                                have HG4 := Lib.hid (show updB γ q true p = true from by unfold updB; split <;> simp [HG.out])
                                clear hb3 hcq hfz hr4 g0 g1 g2 hcx
                                generalize γ q = gq at *
                                go_wp2
                                go_roundw
                                case rel => exact ⟨j + 1, updB γ q true, by omega, by go_num, HS4.out, HG4.out⟩
                                case measure => simp [intOf]; omega
                            · have hne : (u != v) = false := by simp [bne, huv]
                              clear hcq hfz g0 g1 g2
                              go_wp2
                              go_roundw
                              case rel => exact ⟨j + 1, γ, by omega, by go_num, HS.out, HG.out⟩
                              case measure => simp [intOf]; omega
                          · have HS := Lib.hid hst
                            clear hst
                            go_wp2
                            go_roundw
                            case rel => exact ⟨q + 1, γ, by omega, by go_num, HS.out⟩
                            case measure => simp [intOf]; omega
                      · go_wp2
                        go_roundw
                        case rel => exact ⟨q + 1, β, by omega, by go_num, HS.out⟩
                        case measure => simp [intOf]; omega
                  · have HS := Lib.hid hst
                    clear hst
                    go_wp2
                    go_roundw
                    case rel => exact ⟨p + 1, β, by omega, by go_num, HS.out⟩
                    case measure => simp [intOf]; omega
              · go_wp2
                go_roundw
                case rel => exact ⟨r + 1, β, by omega, by go_num, HS.out⟩
                case measure => simp [intOf]; omega
          · go_wp2
            go_loopw [12] (fun i xs => ∃ (p : Nat), p ≤ I.length ∧ i = .int .i64 p ∧ PSt T v I W1 xs β ∧ ∀ l, l < p → β l = true) (fun i _ => I.length - (intOf i).toNat)
            case atStart => exact ⟨0, by omega, rfl, HS.out, fun l h => by omega⟩
            case round =>
              clear HS
              obtain ⟨p, hp, rfl, hst, hall⟩ := hrel
              by_cases hpm : p < I.length
              · have hcp := hst.1.cell (bv_get β hpm)
                have HS := Lib.hid hst
                have HA := Lib.hid hall
                clear hst hall
                obtain ⟨x, hx⟩ : ∃ x, Hid (β p = x) := ⟨_, rfl⟩
                rw [hx.out] at hcp
                cases x
                · go_wp2
                  go_ret
                  exact ⟨true, rfl, (fun h => by cases h), below_more HBw.out HS.out.2.2 HBw.out.size⟩
                · go_wp2
                  go_roundw
                  case rel => exact ⟨p + 1, by omega, by go_num, HS.out, fun l hl => by
                    by_cases e : l = p
                    · subst e; exact hx.out
                    · exact HA.out l (by omega)⟩
                  case measure => simp [intOf]; omega
              · have HE := Lib.hid (show Unpinched T v from by
                  have h1 := hst.2.1
                  rw [HII.out, HmT.out] at h1
                  exact h1.stop (fun l hl => hall l (by rw [← HmT.out, ← HII.out] at hl; omega)))
                have HS := Lib.hid hst
                clear hst hall
                go_wp2
                go_ret
                exact ⟨false, rfl, fun _ => HE.out, below_more HBw.out HS.out.2.2 HBw.out.size⟩
end Go.Proofs.Ytkggphfekeiejaa

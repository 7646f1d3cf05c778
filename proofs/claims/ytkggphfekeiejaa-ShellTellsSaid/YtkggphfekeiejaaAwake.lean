/- gypsumlaw13.awake: the document's example comes out true. -/
import Derived.Test.YtkggphfekeiejaaSolid
import Derived.Test.YtkggphfekeiejaaFits
import Derived.Test.YtkggphfekeiejaaTabSoup
import Derived.Test.YtkggphfekeiejaaSame
import Derived.Deep.DeepCutAuto
import Derived.Deep.RegionHeldLaw
namespace Go.Proofs.Ytkggphfekeiejaa
set_option linter.unusedVariables false
set_option linter.unusedSimpArgs false
open Go.RowKit
theorem row_own_ne {w : World} {p base n sz : Nat} {e e' : TypeId} {ys xs : List Value} {v : Value} (h : RowIs w p e ys) (k : w.ownsRow base e' sz v n xs) (hne : e ≠ e') : some p ≠ v.ownBlock := by
  obtain ⟨_, k2⟩ := k
  rcases k2 with ⟨k2, _⟩ | ⟨g2, cap', cur', rfl, _, kk, _⟩
  · subst k2; simp [Value.ownBlock]
  · intro e
    simp [Value.ownBlock] at e
    subst e
    unfold RowIs at h
    rw [h] at kk
    simp at kk
    exact hne kk.2
theorem RowIs.tris {w : World} {g : Nat} {e : TypeId} {T : List Tr} (h : RowIs w g e (tcells T)) : TrisAt w (some ⟨g, 0, none⟩) T := fun _ =>
  ⟨g, 0, rfl, h.lt, fun i hi => by
    have h0 := h.cell (tcells_get T i 0 hi (by omega))
    have h1 := h.cell (tcells_get T i 1 hi (by omega))
    have h2 := h.cell (tcells_get T i 2 hi (by omega))
    rw [Nat.zero_add]
    exact ⟨h0, h1, h2⟩⟩
set_option maxRecDepth 100000 in
set_option maxHeartbeats 1000000 in
theorem solid_ok (w : World) : Calls Try.prog 27 #[] w fun e w' => ∃ g, e = .returned (.agg #[.int .i64 4, .slice (some ⟨g, 0, none⟩) 4 4]) ∧ TrisAt w' (some ⟨g, 0, none⟩) solid ∧ Below w.heap.size w w' := by
  go_enter Try.func27, Try.ntmps27
  go_wp2
  refine bodyPost_ret (v := .agg #[.int .i64 4, .slice (some ⟨w.heap.size + 1, 0, none⟩) 4 4]) (by simp [results, Try.results27, go_sem]) rfl ⟨w.heap.size + 1, rfl, ?_, ?_⟩
  · have hr := RowIs.made (w.alloc (.cells #[.int .i64 4, .slice (some ⟨w.heap.size + 1, 0, none⟩) 4 4] 24)) 49 (tcells solid)
    have := hr.tris
    simp at this
    exact this
  · exact ((Below.refl _ _).alloc (Nat.le_refl _) _).alloc (by simp) _
theorem solid_step (k : Nat) (hk : k < 4) : ∃ x y z : Int, T! solid k = (x, y, z) ∧ 0 ≤ x ∧ x ≤ 3 ∧ 0 ≤ y ∧ y ≤ 3 ∧ 0 ≤ z ∧ z ≤ 3 ∧ twoS.take (4 + (k + 1)) = twoS.take (4 + k) ++ [(x + 4, y + 4, z + 4)] := by
  have h : k = 0 ∨ k = 1 ∨ k = 2 ∨ k = 3 := by omega
  rcases h with rfl | rfl | rfl | rfl
  · exact ⟨0, 1, 2, rfl, by decide, by decide, by decide, by decide, by decide, by decide, rfl⟩
  · exact ⟨0, 3, 1, rfl, by decide, by decide, by decide, by decide, by decide, by decide, rfl⟩
  · exact ⟨1, 3, 2, rfl, by decide, by decide, by decide, by decide, by decide, by decide, rfl⟩
  · exact ⟨2, 3, 0, rfl, by decide, by decide, by decide, by decide, by decide, by decide, rfl⟩
set_option maxRecDepth 100000 in
set_option maxHeartbeats 4000000 in
theorem awake_ok (w : World) : Calls Try.prog 12 #[] w fun e w' => e = .returned (.bool true) ∧ Below w.heap.size w w' := by
  obtain ⟨i4, hi4, hx0, hx1, hx2⟩ := info_parts info49
  go_enter Try.func12, Try.ntmps12
  go_wp2_with fail
  refine (solid_ok _).mono ?_
  rintro e w1 ⟨ga, rfl, hsa, hb1⟩
  have hga : ga < w1.heap.size := by
    obtain ⟨b, off, e, hlt, -⟩ := hsa (by simp [solid])
    cases e; exact hlt
  have HB1 := Lib.hid hb1
  have HSA := Lib.hid hsa
  have HXA := Lib.hid ((RowIs.made w1 24 [.int .i64 4, .slice (some ⟨ga, 0, none⟩) 4 4]).alloc (.cells #[] 49))
  have xa := HXA.out.cell (i := 1) rfl
  obtain ⟨ab, hab⟩ : ∃ ab, ab = w1.heap.size := ⟨_, rfl⟩
  have hb1' : Below w1.heap.size w1 ((w1.alloc (.cells #[.int .i64 4, .slice (some ⟨ga, 0, none⟩) 4 4] 24)).alloc (.cells #[] 49)) := ((Below.refl _ _).alloc (Nat.le_refl _) _).alloc (by simp) _
  have HSB := Lib.hid (hsa.mono (Nat.le_refl _) hb1')
  have hr0 := RowIs.made (w1.alloc (.cells #[.int .i64 4, .slice (some ⟨ga, 0, none⟩) 4 4] 24)) 49 []
  have hr0' : RowIs ((w1.alloc (.cells #[.int .i64 4, .slice (some ⟨ga, 0, none⟩) 4 4] 24)).alloc (.cells #[] 49)) (w1.heap.size + 1) 49 [] := by simpa using hr0
  have HO0 := Lib.hid (hr0'.owns (base := w1.heap.size + 1) (size := 3) (n := 0) (Nat.le_refl _) rfl (by decide))
  have HB1' := Lib.hid hb1'
  have HAB := Lib.hid hab
  clear hb1 hsa hr0 hr0' hb1' hab
  go_wp2_with (at_builtin; refine wpList_append_own _ rfl _ _ 22 rfl (w1.heap.size + 1) 49 i4 (.agg #[.int .i64 0, .int .i64 0, .int .i64 0]) 3 24 (by kernel_rfl) hi4 hx0 hx1 hx2 rfl (by decide) _ _ _ rfl HO0.out ⟨ga, 0, none⟩ 4 4 (tcells solid) rfl rfl (fun j u hu => by have := HSB.out.cells j u hu; simpa [Addr.add_lit] using this) (tcells_one solid) ?_ ?_ ?_ ?_)
  · decide
  · decide
  · simp
  · intro v' w2 hown hgr _
    have hown' : w2.ownsRow (w1.heap.size + 1) 49 3 v' 4 (tcells (twoS.take 4)) := hown
    obtain ⟨ao2, cap2, rfl⟩ := owns_slice hown'
    have hs2 := hgr.size
    simp at hs2
    have HXA2 := Lib.hid (show RowIs w2 ab 24 [.int .i64 4, .slice (some ⟨ga, 0, none⟩) 4 4] from by
      rw [HAB.out]; exact HXA.out.grown hgr (by simp [Value.ownBlock]))
    have HB2 := Lib.hid (HB1'.out.grown hgr (by simp; omega) (fun q hq => by simp [Value.ownBlock] at hq; omega))
    have HO2 := Lib.hid hown'
    have HX2 := Lib.hid (RowIs.made w2 24 [.int .i64 8, .slice ao2 4 cap2])
    have hb3 : Below w2.heap.size w2 (w2.alloc (.cells #[.int .i64 8, .slice ao2 4 cap2] 24)) := (Below.refl _ _).alloc (Nat.le_refl _) _
    have xa2 := (HXA2.out.after hb3).cell (i := 1) rfl
    have HO3 := Lib.hid (owns_below hown' hb3)
    have HXA3 := Lib.hid (HXA2.out.after hb3)
    have HB3 := Lib.hid (below_more HB2.out hb3 HB2.out.size)
    obtain ⟨B, hB⟩ : ∃ B, B = w1.heap.size + 1 := ⟨_, rfl⟩
    rw [← hB] at HO3
    have HBB := Lib.hid hB
    have haB : ab < B := by have := HAB.out; omega
    have hB2 : B ≤ w2.heap.size := by omega
    clear hown hgr hown' hb3 hB xa HXA2 HO2
    rw [← HAB.out]
    go_upto_region 3 with fail
    obtain ⟨sb, hsb⟩ : ∃ sb, sb = w2.heap.size := ⟨_, rfl⟩
    obtain ⟨W3, hW3⟩ : ∃ W3, W3 = w2.alloc (.cells #[.int .i64 8, .slice ao2 4 cap2] 24) := ⟨_, rfl⟩
    rw [← hsb, ← hW3]
    rw [← hW3] at xa2 HO3 HXA3 HB3 HX2
    rw [← hsb] at HX2 hB2
    have hs3 : B ≤ W3.heap.size := by have := HX2.out.lt; omega
    have hsl : sb < W3.heap.size := HX2.out.lt
    clear hsb hW3
    go_wp2_with fail
    clear xa2
    go_loopw [17] (fun i ws => ∃ (k : Nat) (v : Value), k ≤ 4 ∧ i = .int .i64 k ∧ RowIs ws sb 24 [.int .i64 8, v] ∧ ws.ownsRow B 49 3 v (4 + k) (tcells (twoS.take (4 + k))) ∧ Below B W3 ws) (fun i _ => 4 - (intOf i).toNat)
    case atStart => exact ⟨0, _, by omega, rfl, HX2.out, HO3.out, Below.refl _ _⟩
    case round =>
      obtain ⟨k, v, hk, rfl, hx, ho, hb⟩ := hrel
      obtain ⟨W4, rfl⟩ : ∃ W4 : World, W4 = wr := ⟨_, rfl⟩
      obtain ⟨ao, cap, rfl⟩ := owns_slice ho
      have HX := Lib.hid hx
      have HO := Lib.hid ho
      have HB := Lib.hid hb
      have hsz := hb.size
      by_cases hlt : k < 4
      · obtain ⟨x, y, z, ht, bx0, bx1, by0, by1, bz0, bz1, htk⟩ := solid_step k hlt
        have hb14 : Below w1.heap.size w1 W4 := HB3.out.trans (hb.mono (by have := HBB.out; omega))
        obtain ⟨sa, soff, x', y', z', e9, ht', g0, g1, g2, -, -⟩ := HSA.out.get (Nat.le_refl _) hb14 (i := k) hlt
        cases e9
        have hxx := ht'.out
        rw [ht] at hxx
        cases hxx
        have HTK := Lib.hid htk
        simp only [Nat.zero_add] at g0 g1 g2
        clear hx ho hb hb14 ht ht' htk
        have x1 := HX.out.cell (i := 1) rfl
        have x1' : ∀ o, (W4.alloc o).cell? ⟨sb, 1, none⟩ = some (.slice ao (4 + k) cap) := fun o => (((Below.refl _ _).alloc (Nat.le_refl W4.heap.size) o).cell (p := ⟨sb, 1, none⟩) HX.out.lt).trans x1
        have HO4 := Lib.hid (HO.out.alloc (.cells #[.int .i64 x, .int .i64 y, .int .i64 z] 49))
        have HX4 := Lib.hid (HX.out.alloc (.cells #[.int .i64 x, .int .i64 y, .int .i64 z] 49))
        have HB4 := Lib.hid (HB.out.alloc (by omega) (.cells #[.int .i64 x, .int .i64 y, .int .i64 z] 49))
        go_wp2_with (at_builtin; refine wpList_append_new _ rfl _ _ 22 rfl B 49 i4 _ 3 24 (by kernel_rfl) hi4 hx0 hx1 hx2 rfl (by decide) _ _ _ rfl HO4.out _ _ _ rfl (by first | rfl | simp) rfl ?_ ?_ ?_ ?_ ?_)
        · exact ⟨rfl, rfl, rfl⟩
        · unfold maxLen; omega
        · omega
        · simp; omega
        · intro v' w5 hown hbel hgr
          obtain ⟨ao5, cap5, rfl⟩ := owns_slice hown
          have hx5 := RowIs.grown (HX4.out.alloc _) hgr (row_own_ne HX4.out HO4.out (by decide))
          have x5 := hx5.cell (i := 1) rfl
          have f5 := hx5.free 1
          have HX6 := Lib.hid (hx5.set 1 (.slice ao5 (4 + k + 1) cap5))
          have HB6 := Lib.hid ((hbel B W3 (Nat.le_refl _) HB4.out).setCell (p := ⟨sb, 1, none⟩) hB2 (.slice ao5 (4 + k + 1) cap5))
          have HO6 := Lib.hid (show (w5.setCell ⟨sb, 1, none⟩ (.slice ao5 (4 + k + 1) cap5)).ownsRow B 49 3 (.slice ao5 (4 + k + 1) cap5) (4 + (k + 1)) (tcells (twoS.take (4 + (k + 1)))) from by
            rw [HTK.out, tcells_snoc]
            exact hown.kept (grown_set w5 sb 1 _) (by
              have := row_own_ne hx5 hown (by decide)
              exact .inr fun e => this e.symm))
          clear hown hbel hgr hx5 x1 x1' g0 g1 g2
          go_wp2
          go_roundw
          case rel => exact ⟨k + 1, _, by omega, by go_num, HX6.out, HO6.out, HB6.out⟩
          case measure => simp [intOf]; omega
      · obtain rfl : k = 4 := by omega
        have x0 := HX.out.cell (i := 0) rfl
        have x1 := HX.out.cell (i := 1) rfl
        have htr : TrisAt W4 ao twoS := by
          obtain ⟨a', c', e, h⟩ := owns_tris (L := twoS) ho
          cases e; exact h
        have HNW := Lib.hid (new_ok 8 ao cap twoS W4 htr twoS_surf)
        have HB14 := Lib.hid (show Below w1.heap.size w1 W4 from HB3.out.trans (hb.mono (by have := HBB.out; omega)))
        have HXA4 := Lib.hid (HXA3.out.below hb (by omega))
        clear hx ho hb htr HX HO HB
        go_wp2_with fail
        refine HNW.out.mono ?_
        rintro e w5 ⟨p, rfl, hp, htab, hb5⟩
        have HT5 := Lib.hid htab
        have HB15 := Lib.hid (below_more HB14.out hb5 HB14.out.size)
        have HXA5 := Lib.hid (HXA4.out.after hb5)
        clear htab hb5 x0 x1
        have hnq : ∀ w, (binOp .neq 45 (.agg #[.int .i64 0, .int .i64 0, .int .i64 0]) (.agg #[.int .i64 0, .int .i64 0, .int .i64 0])).run Try.prog w = .ok (.bool false) w := fun _ => by kernel_rfl
        go_upto_region 9 with fail
        have hb6 : Below w5.heap.size w5 (w5.alloc (.cells #[.int .i64 0, .int .i64 0, .int .i64 0] 45)) := (Below.refl _ _).alloc (Nat.le_refl _) _
        have HW6 := Lib.hid (RowIs.made w5 45 [.int .i64 0, .int .i64 0, .int .i64 0])
        obtain ⟨wb, hwb⟩ : ∃ wb, wb = w5.heap.size := ⟨_, rfl⟩
        obtain ⟨W6, hW6⟩ : ∃ W6, W6 = w5.alloc (.cells #[.int .i64 0, .int .i64 0, .int .i64 0] 45) := ⟨_, rfl⟩
        rw [← hW6, ← hwb]
        rw [← hW6] at hb6 HW6
        rw [← hwb] at HW6
        have HT6 := Lib.hid (HT5.out.mono (Nat.le_refl _) hb6)
        have HB16 := Lib.hid (below_more HB15.out hb6 HB15.out.size)
        have HXA6 := Lib.hid (HXA5.out.after hb6)
        have q0 := HW6.out.cell (i := 0) rfl
        have q1 := HW6.out.cell (i := 1) rfl
        have q2 := HW6.out.cell (i := 2) rfl
        have HCT := Lib.hid (count_any W6 p 8 twoS HT6.out (fun i j _ _ h => twoS_surf.adj_symm h) (fun c h0 h1 => opp_lt c h0 h1))
        clear hW6 hwb hb6 HT5 HXA5 HB15
        go_wp2_with fail
        refine HCT.out.mono ?_
        rintro e w7 ⟨L, rfl, hsh, hb7⟩
        have hcn : cnt L twoS.length = 2 := by
          rw [cnt_congr (M := twoL) twoS.length (fun i hi => twoS_L hsh i hi)]
          exact twoS_cnt
        rw [hcn]
        have HT7 := Lib.hid (HT6.out.mono (Nat.le_refl _) hb7)
        have HB17 := Lib.hid (below_more HB16.out hb7 HB16.out.size)
        have HXA7 := Lib.hid (HXA6.out.after hb7)
        have HSP := Lib.hid (split_any w7 p 8 twoS HT7.out (fun i j _ _ h => twoS_surf.adj_symm h) (fun c h0 h1 => opp_lt c h0 h1) (fun i j h => (twoS_surf.adj_nb h).1))
        clear hsh hb7 hcn q0 q1 q2 HCT HW6 HT6 HB16 HXA6
        go_wp2_with fail
        refine HSP.out.mono ?_
        rintro e w8 ⟨L, hsh, hb8, h⟩
        have hcn : cnt L twoS.length = 2 := by
          rw [cnt_congr (M := twoL) twoS.length (fun i hi => twoS_L hsh i hi)]
          exact twoS_cnt
        rcases h with ⟨h0, -⟩ | ⟨gp, m, f, hm, hm0, rfl, hgp, hrow, hpk⟩
        · omega
        · obtain rfl : m = 2 := by omega
          have hp0 := hpk 0 (by omega)
          have hp1 := hpk 1 (by omega)
          rw [partOf_congr (L := L) (M := twoL) (n := twoS.length) (fun i hi => twoS_L hsh i hi)] at hp0 hp1
          replace hp0 : PartOk w8 gp (f 0) ⟨4, solid, [0, 1, 2, 3], [0, 1, 2, 3]⟩ := by
            have := hp0; rw [show twoS.length = 8 from rfl, twoS_part0] at this; exact this
          replace hp1 : PartOk w8 gp (f 1) ⟨4, solid, [4, 5, 6, 7], [4, 5, 6, 7]⟩ := by
            have := hp1; rw [show twoS.length = 8 from rfl, twoS_part1] at this; exact this
          obtain ⟨aoS, cS, aoV, cV, aoT, cT, r00, r01, r02, r03, hS0, -, -, -⟩ := hp0
          obtain ⟨aoS1, cS1, aoV1, cV1, aoT1, cT1, r10, r11, r12, r13, hS1, hV1, hT1, -⟩ := hp1
          have HT8 := Lib.hid (HT7.out.mono (Nat.le_refl _) hb8)
          have HB18 := Lib.hid (below_more HB17.out hb8 HB17.out.size)
          have HXA8 := Lib.hid (HXA7.out.after hb8)
          have HSA8 := Lib.hid (HSA.out.mono (Nat.le_refl _) HB18.out)
          have hgl : gp < w8.heap.size := hrow.lt
          have g0 : w8.cell? ⟨gp, 0, none⟩ = some (.int .i64 4) := by have := hrow.cell (pc_get f (m := 2) (k := 0) (c := 0) (by omega) (by omega)); rw [r00] at this; exact this
          have g1 : w8.cell? ⟨gp, 1, none⟩ = some (.slice aoS 4 cS) := by have := hrow.cell (pc_get f (m := 2) (k := 0) (c := 1) (by omega) (by omega)); rw [r01] at this; exact this
          have g4 : w8.cell? ⟨gp, 4, none⟩ = some (.int .i64 4) := by have := hrow.cell (pc_get f (m := 2) (k := 1) (c := 0) (by omega) (by omega)); rw [r10] at this; exact this
          have g5 : w8.cell? ⟨gp, 5, none⟩ = some (.slice aoS1 4 cS1) := by have := hrow.cell (pc_get f (m := 2) (k := 1) (c := 1) (by omega) (by omega)); rw [r11] at this; exact this
          obtain ⟨vb, voff, eV, hvl, hvc⟩ := hV1 (by simp)
          obtain ⟨tb, toff, eT, htl, htc⟩ := hT1 (by simp)
          subst eV
          subst eT
          have g6 : w8.cell? ⟨gp, 6, none⟩ = some (.slice (some ⟨vb, voff, none⟩) 4 cV1) := by have := hrow.cell (pc_get f (m := 2) (k := 1) (c := 2) (by omega) (by omega)); rw [r12] at this; exact this
          have g7 : w8.cell? ⟨gp, 7, none⟩ = some (.slice (some ⟨tb, toff, none⟩) 4 cT1) := by have := hrow.cell (pc_get f (m := 2) (k := 1) (c := 3) (by omega) (by omega)); rw [r13] at this; exact this
          have v0 : w8.cell? ⟨vb, voff, none⟩ = some (.int .i64 4) := hvc 0 (by simp)
          have t3 : w8.cell? ⟨tb, toff + 3, none⟩ = some (.int .i64 7) := htc 3 (by simp)
          have a0 := HXA8.out.cell (i := 0) rfl
          have a1 := HXA8.out.cell (i := 1) rfl
          have hal : ab < w8.heap.size := HXA8.out.lt
          have HS0 := Lib.hid (show ∀ w', Hid (Below w8.heap.size w8 w') → Calls Try.prog 19 #[.agg #[.int .i64 4, .slice aoS 4 cS], .agg #[.int .i64 4, .slice (some ⟨ga, 0, none⟩) 4 4]] w' fun e w'' => e = .returned (.bool true) ∧ Hid (Below w8.heap.size w8 w'') from fun w' hb =>
            (same_any 4 4 aoS (some ⟨ga, 0, none⟩) cS 4 solid solid w' (by decide) (hS0.mono (Nat.le_refl _) hb.out) (HSA8.out.mono (Nat.le_refl _) hb.out)).mono fun e w'' h => ⟨by rw [h.1]; simp, below_more hb.out h.2 hb.out.size⟩)
          have HS1 := Lib.hid (show ∀ w', Hid (Below w8.heap.size w8 w') → Calls Try.prog 19 #[.agg #[.int .i64 4, .slice aoS1 4 cS1], .agg #[.int .i64 4, .slice (some ⟨ga, 0, none⟩) 4 4]] w' fun e w'' => e = .returned (.bool true) ∧ Hid (Below w8.heap.size w8 w'') from fun w' hb =>
            (same_any 4 4 aoS1 (some ⟨ga, 0, none⟩) cS1 4 solid solid w' (by decide) (hS1.mono (Nat.le_refl _) hb.out) (HSA8.out.mono (Nat.le_refl _) hb.out)).mono fun e w'' h => ⟨by rw [h.1]; simp, below_more hb.out h.2 hb.out.size⟩)
          have HOF := Lib.hid (show ∀ w', Hid (Below w8.heap.size w8 w') → Calls Try.prog 16 #[.pointer (some ⟨p, 0, none⟩)] w' fun e w'' => ∃ g, e = .returned (.slice (some ⟨g, 0, none⟩) 8 8) ∧ w''.cell? ⟨g, 4, none⟩ = some (.int .i64 1) ∧ Hid (Below w8.heap.size w8 w'') from fun w' hb =>
            (of_any w' p 8 twoS (HT8.out.mono (Nat.le_refl _) hb.out) (fun i j _ _ h => twoS_surf.adj_symm h) (fun c h0 h1 => opp_lt c h0 h1)).mono fun e w'' h => by
              obtain ⟨g, L, he, hg, hr, hs, hbb⟩ := h
              refine ⟨g, he, ?_, below_more hb.out hbb hb.out.size⟩
              have := hr.cell (iv_get L (n := twoS.length) (i := 4) (by decide))
              rw [twoS_L hs 4 (by omega)] at this
              exact this)
          have HD0 := Lib.hid (show Below w8.heap.size w8 w8.drew from ⟨rfl, rfl, rfl, Nat.le_refl _, fun _ _ => rfl⟩)
          clear hsh hb8 hpk hrow r00 r01 r02 r03 r10 r11 r12 r13 hS0 hS1 hV1 hT1 hvc htc HT7 HB17 HXA7 HSP HXA8 HSA8 hcn hm hm0 hgp HXA3 HB3 HSA HSB HXA
          have HK := Lib.hid (show ∀ w', Hid (Below w8.heap.size w8 w') → w'.cell? ⟨gp, 0, none⟩ = some (.int .i64 4) ∧ w'.cell? ⟨gp, 1, none⟩ = some (.slice aoS 4 cS) ∧ w'.cell? ⟨gp, 4, none⟩ = some (.int .i64 4) ∧ w'.cell? ⟨gp, 5, none⟩ = some (.slice aoS1 4 cS1) ∧ w'.cell? ⟨gp, 6, none⟩ = some (.slice (some ⟨vb, voff, none⟩) 4 cV1) ∧ w'.cell? ⟨gp, 7, none⟩ = some (.slice (some ⟨tb, toff, none⟩) 4 cT1) ∧ w'.cell? ⟨vb, voff, none⟩ = some (.int .i64 4) ∧ w'.cell? ⟨tb, toff + 3, none⟩ = some (.int .i64 7) ∧ w'.cell? ⟨ab, 0, none⟩ = some (.int .i64 4) ∧ w'.cell? ⟨ab, 1, none⟩ = some (.slice (some ⟨ga, 0, none⟩) 4 4) from fun w' hb =>
            ⟨(hb.out.cell (p := ⟨gp, _, none⟩) hgl).trans g0, (hb.out.cell (p := ⟨gp, _, none⟩) hgl).trans g1, (hb.out.cell (p := ⟨gp, _, none⟩) hgl).trans g4, (hb.out.cell (p := ⟨gp, _, none⟩) hgl).trans g5, (hb.out.cell (p := ⟨gp, _, none⟩) hgl).trans g6, (hb.out.cell (p := ⟨gp, _, none⟩) hgl).trans g7,
              (hb.out.cell (p := ⟨vb, _, none⟩) hvl).trans v0, (hb.out.cell (p := ⟨tb, _, none⟩) htl).trans t3, (hb.out.cell (p := ⟨ab, _, none⟩) hal).trans a0, (hb.out.cell (p := ⟨ab, _, none⟩) hal).trans a1⟩)
          clear g0 g1 g4 g5 g6 g7 v0 t3 a0 a1 hgl hvl htl hal
          go_upto_region 12 with fail
          refine wp_region_held_drew (S := (fun w' => w'.cell? ⟨gp, 0, none⟩ = some (.int .i64 4) ∧ w'.cell? ⟨gp, 1, none⟩ = some (.slice aoS 4 cS) ∧ w'.cell? ⟨gp, 4, none⟩ = some (.int .i64 4) ∧ w'.cell? ⟨gp, 5, none⟩ = some (.slice aoS1 4 cS1) ∧ w'.cell? ⟨gp, 6, none⟩ = some (.slice (some ⟨vb, voff, none⟩) 4 cV1) ∧ w'.cell? ⟨gp, 7, none⟩ = some (.slice (some ⟨tb, toff, none⟩) 4 cT1) ∧ w'.cell? ⟨vb, voff, none⟩ = some (.int .i64 4) ∧ w'.cell? ⟨tb, toff + 3, none⟩ = some (.int .i64 7) ∧ w'.cell? ⟨ab, 0, none⟩ = some (.int .i64 4) ∧ w'.cell? ⟨ab, 1, none⟩ = some (.slice (some ⟨ga, 0, none⟩) 4 4))) (by kernel_rfl) ?_ (fun hHeld0 => ?_)
          · ((try dsimp only); exact HK.out _ (by assumption))
          refine wpAnyH_take (i := 0) (v := ?_) rfl (by kernel_rfl) (by kernel_rfl) (by kernel_rfl) (fun _ _ _ h => h) (Or.inl ⟨by rfl, ?_⟩) (by assumption) ?_
          rotate_left
          · (intro w hSw; (try dsimp only at hSw); go_simp; try with_reducible rfl)
          try simp only [List.getElem_toArray, List.getElem_cons_succ, List.getElem_cons_zero, Act.put, List.setIfInBounds_toArray, List.set_cons_zero, List.set_cons_succ]
          refine wpAnyH_take (i := 1) (v := ?_) rfl (by kernel_rfl) (by kernel_rfl) (by kernel_rfl) (fun _ _ _ h => h) (Or.inl ⟨by rfl, ?_⟩) (by assumption) ?_
          rotate_left
          · (intro w hSw; (try dsimp only at hSw); go_simp; try with_reducible rfl)
          try simp only [List.getElem_toArray, List.getElem_cons_succ, List.getElem_cons_zero, Act.put, List.setIfInBounds_toArray, List.set_cons_zero, List.set_cons_succ]
          refine wpAnyH_take (i := 2) (v := ?_) rfl (by kernel_rfl) (by kernel_rfl) (by kernel_rfl) (fun _ _ _ h => h) (Or.inl ⟨by rfl, ?_⟩) (by assumption) ?_
          rotate_left
          · (intro w hSw; (try dsimp only at hSw); go_simp; try with_reducible rfl)
          try simp only [List.getElem_toArray, List.getElem_cons_succ, List.getElem_cons_zero, Act.put, List.setIfInBounds_toArray, List.set_cons_zero, List.set_cons_succ]
          refine wpAnyH_take (i := 3) (v := ?_) rfl (by kernel_rfl) (by kernel_rfl) (by kernel_rfl) (fun _ _ _ h => h) (Or.inl ⟨by rfl, ?_⟩) (by assumption) ?_
          rotate_left
          · (intro w hSw; (try dsimp only at hSw); go_simp; try with_reducible rfl)
          try simp only [List.getElem_toArray, List.getElem_cons_succ, List.getElem_cons_zero, Act.put, List.setIfInBounds_toArray, List.set_cons_zero, List.set_cons_succ]
          refine wpAnyH_take (i := 4) (v := ?_) rfl (by kernel_rfl) (by kernel_rfl) (by kernel_rfl) (fun _ _ _ h => h) (Or.inl ⟨by rfl, ?_⟩) (by assumption) ?_
          rotate_left
          · (intro w hSw; (try dsimp only at hSw); go_simp; try with_reducible rfl)
          try simp only [List.getElem_toArray, List.getElem_cons_succ, List.getElem_cons_zero, Act.put, List.setIfInBounds_toArray, List.set_cons_zero, List.set_cons_succ]
          refine wpAnyH_take (i := 5) (v := ?_) rfl (by kernel_rfl) (by kernel_rfl) (by kernel_rfl) (fun _ _ _ h => h) (Or.inl ⟨by rfl, ?_⟩) (by assumption) ?_
          rotate_left
          · (intro w hSw; (try dsimp only at hSw); go_simp; try with_reducible rfl)
          try simp only [List.getElem_toArray, List.getElem_cons_succ, List.getElem_cons_zero, Act.put, List.setIfInBounds_toArray, List.set_cons_zero, List.set_cons_succ]
          refine wpAnyH_take (i := 6) (v := ?_) rfl (by kernel_rfl) (by kernel_rfl) (by kernel_rfl) (fun _ _ _ h => h) (Or.inl ⟨by rfl, ?_⟩) (by assumption) ?_
          rotate_left
          · (intro w hSw; (try dsimp only at hSw); go_simp; try with_reducible rfl)
          try simp only [List.getElem_toArray, List.getElem_cons_succ, List.getElem_cons_zero, Act.put, List.setIfInBounds_toArray, List.set_cons_zero, List.set_cons_succ]
          refine wpAnyH_take (i := 7) (v := ?_) rfl (by kernel_rfl) (by kernel_rfl) (by kernel_rfl) (fun _ _ _ h => h) (Or.inl ⟨by rfl, ?_⟩) (by assumption) ?_
          rotate_left
          · (intro w hSw; (try dsimp only at hSw); go_simp; try with_reducible rfl)
          try simp only [List.getElem_toArray, List.getElem_cons_succ, List.getElem_cons_zero, Act.put, List.setIfInBounds_toArray, List.set_cons_zero, List.set_cons_succ]
          refine wpAnyH_take (i := 8) (v := ?_) rfl (by kernel_rfl) (by kernel_rfl) (by kernel_rfl) (fun _ _ _ h => h) (Or.inl ⟨by rfl, ?_⟩) (by assumption) ?_
          rotate_left
          · (intro w hSw; (try dsimp only at hSw); go_simp; try with_reducible rfl)
          try simp only [List.getElem_toArray, List.getElem_cons_succ, List.getElem_cons_zero, Act.put, List.setIfInBounds_toArray, List.set_cons_zero, List.set_cons_succ]
          refine wpAnyH_ready (rs := [9]) (by kernel_rfl) (by simp) ?_
          refine AllReadyH.cons rfl (fun K hK => ?_) AllReadyH.nil
          go_simp
          go_wp2_with (first | (go_at_call 19; (with_reducible refine (HS0.out _ (by assumption)).mono ?_); rintro e w9 ⟨rfl, hh⟩) | (go_at_call 19; (with_reducible refine (HS1.out _ (by assumption)).mono ?_); rintro e w9 ⟨rfl, hh⟩) | (go_at_call 16; (with_reducible refine (HOF.out _ (by assumption)).mono ?_); rintro e w9 ⟨g9, rfl, hg9, hh⟩))
          refine hK.out _ _ ?_ (fun hHeld1 => ?_)
          · ((try dsimp only); exact HK.out _ (by assumption))
          clear hK K hHeld0
          refine wpAnyH_take (i := 10) (v := ?_) rfl (by kernel_rfl) (by kernel_rfl) (by kernel_rfl) (fun _ _ _ h => h) (Or.inl ⟨by rfl, ?_⟩) (by assumption) ?_
          rotate_left
          · (intro w hSw; (try dsimp only at hSw); go_simp; try with_reducible rfl)
          try simp only [List.getElem_toArray, List.getElem_cons_succ, List.getElem_cons_zero, Act.put, List.setIfInBounds_toArray, List.set_cons_zero, List.set_cons_succ]
          refine wpAnyH_take (i := 11) (v := ?_) rfl (by kernel_rfl) (by kernel_rfl) (by kernel_rfl) (fun _ _ _ h => h) (Or.inl ⟨by rfl, ?_⟩) (by assumption) ?_
          rotate_left
          · (intro w hSw; (try dsimp only at hSw); go_simp; try with_reducible rfl)
          try simp only [List.getElem_toArray, List.getElem_cons_succ, List.getElem_cons_zero, Act.put, List.setIfInBounds_toArray, List.set_cons_zero, List.set_cons_succ]
          refine wpAnyH_take (i := 12) (v := ?_) rfl (by kernel_rfl) (by kernel_rfl) (by kernel_rfl) (fun _ _ _ h => h) (Or.inl ⟨by rfl, ?_⟩) (by assumption) ?_
          rotate_left
          · (intro w hSw; (try dsimp only at hSw); go_simp; try with_reducible rfl)
          try simp only [List.getElem_toArray, List.getElem_cons_succ, List.getElem_cons_zero, Act.put, List.setIfInBounds_toArray, List.set_cons_zero, List.set_cons_succ]
          refine wpAnyH_take (i := 13) (v := ?_) rfl (by kernel_rfl) (by kernel_rfl) (by kernel_rfl) (fun _ _ _ h => h) (Or.inl ⟨by rfl, ?_⟩) (by assumption) ?_
          rotate_left
          · (intro w hSw; (try dsimp only at hSw); go_simp; try with_reducible rfl)
          try simp only [List.getElem_toArray, List.getElem_cons_succ, List.getElem_cons_zero, Act.put, List.setIfInBounds_toArray, List.set_cons_zero, List.set_cons_succ]
          refine wpAnyH_take (i := 14) (v := ?_) rfl (by kernel_rfl) (by kernel_rfl) (by kernel_rfl) (fun _ _ _ h => h) (Or.inl ⟨by rfl, ?_⟩) (by assumption) ?_
          rotate_left
          · (intro w hSw; (try dsimp only at hSw); go_simp; try with_reducible rfl)
          try simp only [List.getElem_toArray, List.getElem_cons_succ, List.getElem_cons_zero, Act.put, List.setIfInBounds_toArray, List.set_cons_zero, List.set_cons_succ]
          refine wpAnyH_take (i := 15) (v := ?_) rfl (by kernel_rfl) (by kernel_rfl) (by kernel_rfl) (fun _ _ _ h => h) (Or.inl ⟨by rfl, ?_⟩) (by assumption) ?_
          rotate_left
          · (intro w hSw; (try dsimp only at hSw); go_simp; try with_reducible rfl)
          try simp only [List.getElem_toArray, List.getElem_cons_succ, List.getElem_cons_zero, Act.put, List.setIfInBounds_toArray, List.set_cons_zero, List.set_cons_succ]
          refine wpAnyH_take (i := 16) (v := ?_) rfl (by kernel_rfl) (by kernel_rfl) (by kernel_rfl) (fun _ _ _ h => h) (Or.inl ⟨by rfl, ?_⟩) (by assumption) ?_
          rotate_left
          · (intro w hSw; (try dsimp only at hSw); go_simp; try with_reducible rfl)
          try simp only [List.getElem_toArray, List.getElem_cons_succ, List.getElem_cons_zero, Act.put, List.setIfInBounds_toArray, List.set_cons_zero, List.set_cons_succ]
          refine wpAnyH_ready (rs := [17]) (by kernel_rfl) (by simp) ?_
          refine AllReadyH.cons rfl (fun K hK => ?_) AllReadyH.nil
          go_simp
          go_wp2_with (first | (go_at_call 19; (with_reducible refine (HS0.out _ (by assumption)).mono ?_); rintro e w9 ⟨rfl, hh⟩) | (go_at_call 19; (with_reducible refine (HS1.out _ (by assumption)).mono ?_); rintro e w9 ⟨rfl, hh⟩) | (go_at_call 16; (with_reducible refine (HOF.out _ (by assumption)).mono ?_); rintro e w9 ⟨g9, rfl, hg9, hh⟩))
          refine hK.out _ _ ?_ (fun hHeld2 => ?_)
          · ((try dsimp only); exact HK.out _ (by assumption))
          clear hK K hHeld1
          refine wpAnyH_take (i := 18) (v := ?_) rfl (by kernel_rfl) (by kernel_rfl) (by kernel_rfl) (fun _ _ _ h => h) (Or.inl ⟨by rfl, ?_⟩) (by assumption) ?_
          rotate_left
          · (intro w hSw; (try dsimp only at hSw); go_simp; try with_reducible rfl)
          try simp only [List.getElem_toArray, List.getElem_cons_succ, List.getElem_cons_zero, Act.put, List.setIfInBounds_toArray, List.set_cons_zero, List.set_cons_succ]
          refine wpAnyH_take (i := 19) (v := ?_) rfl (by kernel_rfl) (by kernel_rfl) (by kernel_rfl) (fun _ _ _ h => h) (Or.inl ⟨by rfl, ?_⟩) (by assumption) ?_
          rotate_left
          · (intro w hSw; (try dsimp only at hSw); go_simp; try with_reducible rfl)
          try simp only [List.getElem_toArray, List.getElem_cons_succ, List.getElem_cons_zero, Act.put, List.setIfInBounds_toArray, List.set_cons_zero, List.set_cons_succ]
          refine wpAnyH_take (i := 20) (v := ?_) rfl (by kernel_rfl) (by kernel_rfl) (by kernel_rfl) (fun _ _ _ h => h) (Or.inl ⟨by rfl, ?_⟩) (by assumption) ?_
          rotate_left
          · (intro w hSw; (try dsimp only at hSw); go_simp; try with_reducible rfl)
          try simp only [List.getElem_toArray, List.getElem_cons_succ, List.getElem_cons_zero, Act.put, List.setIfInBounds_toArray, List.set_cons_zero, List.set_cons_succ]
          refine wpAnyH_take (i := 21) (v := ?_) rfl (by kernel_rfl) (by kernel_rfl) (by kernel_rfl) (fun _ _ _ h => h) (Or.inl ⟨by rfl, ?_⟩) (by assumption) ?_
          rotate_left
          · (intro w hSw; (try dsimp only at hSw); go_simp; try with_reducible rfl)
          try simp only [List.getElem_toArray, List.getElem_cons_succ, List.getElem_cons_zero, Act.put, List.setIfInBounds_toArray, List.set_cons_zero, List.set_cons_succ]
          refine wpAnyH_take (i := 22) (v := ?_) rfl (by kernel_rfl) (by kernel_rfl) (by kernel_rfl) (fun _ _ _ h => h) (Or.inl ⟨by rfl, ?_⟩) (by assumption) ?_
          rotate_left
          · (intro w hSw; (try dsimp only at hSw); go_simp; try with_reducible rfl)
          try simp only [List.getElem_toArray, List.getElem_cons_succ, List.getElem_cons_zero, Act.put, List.setIfInBounds_toArray, List.set_cons_zero, List.set_cons_succ]
          refine wpAnyH_take (i := 23) (v := ?_) rfl (by kernel_rfl) (by kernel_rfl) (by kernel_rfl) (fun _ _ _ h => h) (Or.inl ⟨by rfl, ?_⟩) (by assumption) ?_
          rotate_left
          · (intro w hSw; (try dsimp only at hSw); go_simp; try with_reducible rfl)
          try simp only [List.getElem_toArray, List.getElem_cons_succ, List.getElem_cons_zero, Act.put, List.setIfInBounds_toArray, List.set_cons_zero, List.set_cons_succ]
          refine wpAnyH_take (i := 24) (v := ?_) rfl (by kernel_rfl) (by kernel_rfl) (by kernel_rfl) (fun _ _ _ h => h) (Or.inl ⟨by rfl, ?_⟩) (by assumption) ?_
          rotate_left
          · (intro w hSw; (try dsimp only at hSw); go_simp; try with_reducible rfl)
          try simp only [List.getElem_toArray, List.getElem_cons_succ, List.getElem_cons_zero, Act.put, List.setIfInBounds_toArray, List.set_cons_zero, List.set_cons_succ]
          refine wpAnyH_take (i := 25) (v := ?_) rfl (by kernel_rfl) (by kernel_rfl) (by kernel_rfl) (fun _ _ _ h => h) (Or.inl ⟨by rfl, ?_⟩) (by assumption) ?_
          rotate_left
          · (intro w hSw; (try dsimp only at hSw); go_simp; try with_reducible rfl)
          try simp only [List.getElem_toArray, List.getElem_cons_succ, List.getElem_cons_zero, Act.put, List.setIfInBounds_toArray, List.set_cons_zero, List.set_cons_succ]
          refine wpAnyH_take (i := 26) (v := ?_) rfl (by kernel_rfl) (by kernel_rfl) (by kernel_rfl) (fun _ _ _ h => h) (Or.inl ⟨by rfl, ?_⟩) (by assumption) ?_
          rotate_left
          · (intro w hSw; (try dsimp only at hSw); go_simp; try with_reducible rfl)
          try simp only [List.getElem_toArray, List.getElem_cons_succ, List.getElem_cons_zero, Act.put, List.setIfInBounds_toArray, List.set_cons_zero, List.set_cons_succ]
          refine wpAnyH_take (i := 27) (v := ?_) rfl (by kernel_rfl) (by kernel_rfl) (by kernel_rfl) (fun _ _ _ h => h) (Or.inl ⟨by rfl, ?_⟩) (by assumption) ?_
          rotate_left
          · (intro w hSw; (try dsimp only at hSw); go_simp; try with_reducible rfl)
          try simp only [List.getElem_toArray, List.getElem_cons_succ, List.getElem_cons_zero, Act.put, List.setIfInBounds_toArray, List.set_cons_zero, List.set_cons_succ]
          refine wpAnyH_take (i := 28) (v := ?_) rfl (by kernel_rfl) (by kernel_rfl) (by kernel_rfl) (fun _ _ _ h => h) (Or.inl ⟨by rfl, ?_⟩) (by assumption) ?_
          rotate_left
          · (intro w hSw; (try dsimp only at hSw); go_simp; try with_reducible rfl)
          try simp only [List.getElem_toArray, List.getElem_cons_succ, List.getElem_cons_zero, Act.put, List.setIfInBounds_toArray, List.set_cons_zero, List.set_cons_succ]
          refine wpAnyH_take (i := 29) (v := ?_) rfl (by kernel_rfl) (by kernel_rfl) (by kernel_rfl) (fun _ _ _ h => h) (Or.inl ⟨by rfl, ?_⟩) (by assumption) ?_
          rotate_left
          · (intro w hSw; (try dsimp only at hSw); go_simp; try with_reducible rfl)
          try simp only [List.getElem_toArray, List.getElem_cons_succ, List.getElem_cons_zero, Act.put, List.setIfInBounds_toArray, List.set_cons_zero, List.set_cons_succ]
          refine wpAnyH_take (i := 30) (v := ?_) rfl (by kernel_rfl) (by kernel_rfl) (by kernel_rfl) (fun _ _ _ h => h) (Or.inl ⟨by rfl, ?_⟩) (by assumption) ?_
          rotate_left
          · (intro w hSw; (try dsimp only at hSw); go_simp; try with_reducible rfl)
          try simp only [List.getElem_toArray, List.getElem_cons_succ, List.getElem_cons_zero, Act.put, List.setIfInBounds_toArray, List.set_cons_zero, List.set_cons_succ]
          refine wpAnyH_take (i := 31) (v := ?_) rfl (by kernel_rfl) (by kernel_rfl) (by kernel_rfl) (fun _ _ _ h => h) (Or.inl ⟨by rfl, ?_⟩) (by assumption) ?_
          rotate_left
          · (intro w hSw; (try dsimp only at hSw); go_simp; try with_reducible rfl)
          try simp only [List.getElem_toArray, List.getElem_cons_succ, List.getElem_cons_zero, Act.put, List.setIfInBounds_toArray, List.set_cons_zero, List.set_cons_succ]
          refine wpAnyH_take (i := 32) (v := ?_) rfl (by kernel_rfl) (by kernel_rfl) (by kernel_rfl) (fun _ _ _ h => h) (Or.inl ⟨by rfl, ?_⟩) (by assumption) ?_
          rotate_left
          · (intro w hSw; (try dsimp only at hSw); go_simp; try with_reducible rfl)
          try simp only [List.getElem_toArray, List.getElem_cons_succ, List.getElem_cons_zero, Act.put, List.setIfInBounds_toArray, List.set_cons_zero, List.set_cons_succ]
          refine wpAnyH_take (i := 33) (v := ?_) rfl (by kernel_rfl) (by kernel_rfl) (by kernel_rfl) (fun _ _ _ h => h) (Or.inl ⟨by rfl, ?_⟩) (by assumption) ?_
          rotate_left
          · (intro w hSw; (try dsimp only at hSw); go_simp; try with_reducible rfl)
          try simp only [List.getElem_toArray, List.getElem_cons_succ, List.getElem_cons_zero, Act.put, List.setIfInBounds_toArray, List.set_cons_zero, List.set_cons_succ]
          refine wpAnyH_take (i := 34) (v := ?_) rfl (by kernel_rfl) (by kernel_rfl) (by kernel_rfl) (fun _ _ _ h => h) (Or.inl ⟨by rfl, ?_⟩) (by assumption) ?_
          rotate_left
          · (intro w hSw; (try dsimp only at hSw); go_simp; try with_reducible rfl)
          try simp only [List.getElem_toArray, List.getElem_cons_succ, List.getElem_cons_zero, Act.put, List.setIfInBounds_toArray, List.set_cons_zero, List.set_cons_succ]
          refine wpAnyH_take (i := 35) (v := ?_) rfl (by kernel_rfl) (by kernel_rfl) (by kernel_rfl) (fun _ _ _ h => h) (Or.inl ⟨by rfl, ?_⟩) (by assumption) ?_
          rotate_left
          · (intro w hSw; (try dsimp only at hSw); go_simp; try with_reducible rfl)
          try simp only [List.getElem_toArray, List.getElem_cons_succ, List.getElem_cons_zero, Act.put, List.setIfInBounds_toArray, List.set_cons_zero, List.set_cons_succ]
          refine wpAnyH_take (i := 36) (v := ?_) rfl (by kernel_rfl) (by kernel_rfl) (by kernel_rfl) (fun _ _ _ h => h) (Or.inl ⟨by rfl, ?_⟩) (by assumption) ?_
          rotate_left
          · (intro w hSw; (try dsimp only at hSw); go_simp; try with_reducible rfl)
          try simp only [List.getElem_toArray, List.getElem_cons_succ, List.getElem_cons_zero, Act.put, List.setIfInBounds_toArray, List.set_cons_zero, List.set_cons_succ]
          refine wpAnyH_take (i := 37) (v := ?_) rfl (by kernel_rfl) (by kernel_rfl) (by kernel_rfl) (fun _ _ _ h => h) (Or.inl ⟨by rfl, ?_⟩) (by assumption) ?_
          rotate_left
          · (intro w hSw; (try dsimp only at hSw); go_simp; try with_reducible rfl)
          try simp only [List.getElem_toArray, List.getElem_cons_succ, List.getElem_cons_zero, Act.put, List.setIfInBounds_toArray, List.set_cons_zero, List.set_cons_succ]
          refine wpAnyH_take (i := 38) (v := ?_) rfl (by kernel_rfl) (by kernel_rfl) (by kernel_rfl) (fun _ _ _ h => h) (Or.inl ⟨by rfl, ?_⟩) (by assumption) ?_
          rotate_left
          · (intro w hSw; (try dsimp only at hSw); go_simp; try with_reducible rfl)
          try simp only [List.getElem_toArray, List.getElem_cons_succ, List.getElem_cons_zero, Act.put, List.setIfInBounds_toArray, List.set_cons_zero, List.set_cons_succ]
          refine wpAnyH_take (i := 39) (v := ?_) rfl (by kernel_rfl) (by kernel_rfl) (by kernel_rfl) (fun _ _ _ h => h) (Or.inl ⟨by rfl, ?_⟩) (by assumption) ?_
          rotate_left
          · (intro w hSw; (try dsimp only at hSw); go_simp; try with_reducible rfl)
          try simp only [List.getElem_toArray, List.getElem_cons_succ, List.getElem_cons_zero, Act.put, List.setIfInBounds_toArray, List.set_cons_zero, List.set_cons_succ]
          refine wpAnyH_take (i := 40) (v := ?_) rfl (by kernel_rfl) (by kernel_rfl) (by kernel_rfl) (fun _ _ _ h => h) (Or.inl ⟨by rfl, ?_⟩) (by assumption) ?_
          rotate_left
          · (intro w hSw; (try dsimp only at hSw); go_simp; try with_reducible rfl)
          try simp only [List.getElem_toArray, List.getElem_cons_succ, List.getElem_cons_zero, Act.put, List.setIfInBounds_toArray, List.set_cons_zero, List.set_cons_succ]
          refine wpAnyH_take (i := 41) (v := ?_) rfl (by kernel_rfl) (by kernel_rfl) (by kernel_rfl) (fun _ _ _ h => h) (Or.inl ⟨by rfl, ?_⟩) (by assumption) ?_
          rotate_left
          · (intro w hSw; (try dsimp only at hSw); go_simp; try with_reducible rfl)
          try simp only [List.getElem_toArray, List.getElem_cons_succ, List.getElem_cons_zero, Act.put, List.setIfInBounds_toArray, List.set_cons_zero, List.set_cons_succ]
          refine wpAnyH_take (i := 42) (v := ?_) rfl (by kernel_rfl) (by kernel_rfl) (by kernel_rfl) (fun _ _ _ h => h) (Or.inl ⟨by rfl, ?_⟩) (by assumption) ?_
          rotate_left
          · (intro w hSw; (try dsimp only at hSw); go_simp; try with_reducible rfl)
          try simp only [List.getElem_toArray, List.getElem_cons_succ, List.getElem_cons_zero, Act.put, List.setIfInBounds_toArray, List.set_cons_zero, List.set_cons_succ]
          refine wpAnyH_take (i := 43) (v := ?_) rfl (by kernel_rfl) (by kernel_rfl) (by kernel_rfl) (fun _ _ _ h => h) (Or.inl ⟨by rfl, ?_⟩) (by assumption) ?_
          rotate_left
          · (intro w hSw; (try dsimp only at hSw); go_simp; try with_reducible rfl)
          try simp only [List.getElem_toArray, List.getElem_cons_succ, List.getElem_cons_zero, Act.put, List.setIfInBounds_toArray, List.set_cons_zero, List.set_cons_succ]
          refine wpAnyH_take (i := 44) (v := ?_) rfl (by kernel_rfl) (by kernel_rfl) (by kernel_rfl) (fun _ _ _ h => h) (Or.inl ⟨by rfl, ?_⟩) (by assumption) ?_
          rotate_left
          · (intro w hSw; (try dsimp only at hSw); go_simp; try with_reducible rfl)
          try simp only [List.getElem_toArray, List.getElem_cons_succ, List.getElem_cons_zero, Act.put, List.setIfInBounds_toArray, List.set_cons_zero, List.set_cons_succ]
          refine wpAnyH_take (i := 45) (v := ?_) rfl (by kernel_rfl) (by kernel_rfl) (by kernel_rfl) (fun _ _ _ h => h) (Or.inl ⟨by rfl, ?_⟩) (by assumption) ?_
          rotate_left
          · (intro w hSw; (try dsimp only at hSw); go_simp; try with_reducible rfl)
          try simp only [List.getElem_toArray, List.getElem_cons_succ, List.getElem_cons_zero, Act.put, List.setIfInBounds_toArray, List.set_cons_zero, List.set_cons_succ]
          refine wpAnyH_take (i := 46) (v := ?_) rfl (by kernel_rfl) (by kernel_rfl) (by kernel_rfl) (fun _ _ _ h => h) (Or.inl ⟨by rfl, ?_⟩) (by assumption) ?_
          rotate_left
          · (intro w hSw; (try dsimp only at hSw); go_simp; try with_reducible rfl)
          try simp only [List.getElem_toArray, List.getElem_cons_succ, List.getElem_cons_zero, Act.put, List.setIfInBounds_toArray, List.set_cons_zero, List.set_cons_succ]
          refine wpAnyH_ready (rs := [47]) (by kernel_rfl) (by simp) ?_
          refine AllReadyH.cons rfl (fun K hK => ?_) AllReadyH.nil
          go_simp
          go_wp2_with (first | (go_at_call 19; (with_reducible refine (HS0.out _ (by assumption)).mono ?_); rintro e w9 ⟨rfl, hh⟩) | (go_at_call 19; (with_reducible refine (HS1.out _ (by assumption)).mono ?_); rintro e w9 ⟨rfl, hh⟩) | (go_at_call 16; (with_reducible refine (HOF.out _ (by assumption)).mono ?_); rintro e w9 ⟨g9, rfl, hg9, hh⟩))
          refine hK.out _ _ ?_ (fun hHeld3 => ?_)
          · ((try dsimp only); exact HK.out _ (by assumption))
          clear hK K hHeld2
          refine wpAnyH_take (i := 48) (v := ?_) rfl (by kernel_rfl) (by kernel_rfl) (by kernel_rfl) (fun _ _ _ h => h) (Or.inl ⟨by rfl, ?_⟩) (by assumption) ?_
          rotate_left
          · (intro w hSw; (try dsimp only at hSw); go_simp; try with_reducible rfl)
          try simp only [List.getElem_toArray, List.getElem_cons_succ, List.getElem_cons_zero, Act.put, List.setIfInBounds_toArray, List.set_cons_zero, List.set_cons_succ]
          refine wpAnyH_take (i := 49) (v := ?_) rfl (by kernel_rfl) (by kernel_rfl) (by kernel_rfl) (fun _ _ _ h => h) (Or.inl ⟨by rfl, ?_⟩) (by assumption) ?_
          rotate_left
          · (intro w hSw; (try dsimp only at hSw); go_simp; try with_reducible rfl)
          try simp only [List.getElem_toArray, List.getElem_cons_succ, List.getElem_cons_zero, Act.put, List.setIfInBounds_toArray, List.set_cons_zero, List.set_cons_succ]
          refine wpAnyH_take (i := 50) (v := ?_) rfl (by kernel_rfl) (by kernel_rfl) (by kernel_rfl) (fun _ _ _ h => h) (Or.inl ⟨by rfl, ?_⟩) (by assumption) ?_
          rotate_left
          · (intro w hSw; (try dsimp only at hSw); go_simp; try with_reducible rfl)
          try simp only [List.getElem_toArray, List.getElem_cons_succ, List.getElem_cons_zero, Act.put, List.setIfInBounds_toArray, List.set_cons_zero, List.set_cons_succ]
          refine wpAnyH_take (i := 51) (v := ?_) rfl (by kernel_rfl) (by kernel_rfl) (by kernel_rfl) (fun _ _ _ h => h) (Or.inl ⟨by rfl, ?_⟩) (by assumption) ?_
          rotate_left
          · (intro w hSw; (try dsimp only at hSw); go_simp; try with_reducible rfl)
          try simp only [List.getElem_toArray, List.getElem_cons_succ, List.getElem_cons_zero, Act.put, List.setIfInBounds_toArray, List.set_cons_zero, List.set_cons_succ]
          refine wpAnyH_take (i := 52) (v := ?_) rfl (by kernel_rfl) (by kernel_rfl) (by kernel_rfl) (fun _ _ _ h => h) (Or.inl ⟨by rfl, ?_⟩) (by assumption) ?_
          rotate_left
          · (intro w hSw; (try dsimp only at hSw); go_simp; try with_reducible rfl)
          try simp only [List.getElem_toArray, List.getElem_cons_succ, List.getElem_cons_zero, Act.put, List.setIfInBounds_toArray, List.set_cons_zero, List.set_cons_succ]
          refine wpAnyH_ready (rs := [53]) (by kernel_rfl) (by simp) ?_
          refine AllReadyH.cons rfl (fun K hK => ?_) AllReadyH.nil
          go_simp
          go_wp2_with (first | (go_at_call 19; (with_reducible refine (HS0.out _ (by assumption)).mono ?_); rintro e w9 ⟨rfl, hh⟩) | (go_at_call 19; (with_reducible refine (HS1.out _ (by assumption)).mono ?_); rintro e w9 ⟨rfl, hh⟩) | (go_at_call 16; (with_reducible refine (HOF.out _ (by assumption)).mono ?_); rintro e w9 ⟨g9, rfl, hg9, hh⟩))
          refine hK.out _ _ ?_ (fun hHeld4 => ?_)
          · ((try dsimp only); exact HK.out _ (by assumption))
          clear hK K hHeld3
          refine wpAnyH_take (i := 54) (v := ?_) rfl (by kernel_rfl) (by kernel_rfl) (by kernel_rfl) (fun _ _ _ h => h) (Or.inl ⟨by rfl, ?_⟩) (by assumption) ?_
          rotate_left
          · (intro w hSw; (try dsimp only at hSw); go_simp; try with_reducible rfl)
          try simp only [List.getElem_toArray, List.getElem_cons_succ, List.getElem_cons_zero, Act.put, List.setIfInBounds_toArray, List.set_cons_zero, List.set_cons_succ]
          refine wpAnyH_ready (rs := [55]) (by kernel_rfl) (by simp) ?_
          refine AllReadyH.cons rfl (fun K hK => ?_) AllReadyH.nil
          go_simp
          refine hK.out _ _ ?_ (fun hHeld5 => ?_)
          · ((try dsimp only); exact HK.out _ (by assumption))
          clear hK K hHeld4
          refine wpAnyH_take (i := 56) (v := ?_) rfl (by kernel_rfl) (by kernel_rfl) (by kernel_rfl) (fun _ _ _ h => h) (Or.inl ⟨by rfl, ?_⟩) (by assumption) ?_
          rotate_left
          · (intro w hSw; (try dsimp only at hSw); go_simp; try with_reducible rfl)
          try simp only [List.getElem_toArray, List.getElem_cons_succ, List.getElem_cons_zero, Act.put, List.setIfInBounds_toArray, List.set_cons_zero, List.set_cons_succ]
          refine wpAnyH_take (i := 57) (v := ?_) rfl (by kernel_rfl) (by kernel_rfl) (by kernel_rfl) (fun _ _ _ h => h) (Or.inl ⟨by rfl, ?_⟩) (by assumption) ?_
          rotate_left
          · (intro w hSw; (try dsimp only at hSw); go_simp; try with_reducible rfl)
          try simp only [List.getElem_toArray, List.getElem_cons_succ, List.getElem_cons_zero, Act.put, List.setIfInBounds_toArray, List.set_cons_zero, List.set_cons_succ]
          refine wpAnyH_take (i := 58) (v := ?_) rfl (by kernel_rfl) (by kernel_rfl) (by kernel_rfl) (fun _ _ _ h => h) (Or.inl ⟨by rfl, ?_⟩) (by assumption) ?_
          rotate_left
          · (intro w hSw; (try dsimp only at hSw); go_simp; try with_reducible rfl)
          try simp only [List.getElem_toArray, List.getElem_cons_succ, List.getElem_cons_zero, Act.put, List.setIfInBounds_toArray, List.set_cons_zero, List.set_cons_succ]
          refine wpAnyH_done (by kernel_rfl) ?_ _
          go_wp2
          exact bodyPost_ret (v := .bool true) (by simp [results, Try.results12, go_sem]) rfl ⟨rfl, below_more (below_more HB1.out HB18.out HB1.out.size) hh.out (below_more HB1.out HB18.out HB1.out.size).size⟩
end Go.Proofs.Ytkggphfekeiejaa

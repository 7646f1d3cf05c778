/- Plain facts of the document's examples of layer 14: a tetrahedron, a triangle. gypsumlaw14.awake: the document's examples come out true. -/
import Derived.Test.YtbeefabboabfgaaGreatKinds
import Derived.Test.YtbeefabboabfgaaGreatNumEq
import Derived.Test.YtbeefabboabfgaaGreatTabSoup
namespace Go.Proofs.YtbeefabboabfgaaGreat
set_option linter.unusedVariables false
set_option linter.unusedSimpArgs false
open Go.RowKit
def tet : List Tr := [(0, 1, 2), (0, 2, 3), (0, 3, 1), (1, 3, 2)]
def tri1 : List Tr := [(0, 1, 2)]
theorem belowN {P : Nat → Bool} {n : Nat} (h : (List.range n).all P = true) : ∀ i, i < n → P i = true := by simpa using h
def padjC (T : List Tr) (v : Int) (i k : Nat) : Bool := hasB (T! T i) v && hasB (T! T k) v && (List.range 3).any fun j => !(tg (T! T i) j == v) && hasB (T! T k) (tg (T! T i) j)
/-- A small surface, all vertices' triangles beside each other: seen by deciding. -/
def smallB (n : Nat) (T : List Tr) : Bool :=
  decide (n ≤ 4096) && decide (T.length ≤ 8192) &&
  ((List.range T.length).all fun i => decide (0 ≤ (T! T i).1 ∧ (T! T i).1 < n ∧ 0 ≤ (T! T i).2.1 ∧ (T! T i).2.1 < n ∧ 0 ≤ (T! T i).2.2 ∧ (T! T i).2.2 < n)) &&
  ((List.range T.length).all fun i => !loopB (T! T i)) &&
  ((List.range T.length).all fun b => (List.range T.length).all fun a => !(decide (a < b)) || (!twB (T! T a) (T! T b) && !mirB (T! T a) (T! T b))) &&
  ((List.range n).all fun v => (List.range T.length).any fun i => hasB (T! T i) (v : Int)) &&
  ((List.range n).all fun v => (List.range T.length).all fun i => (List.range T.length).all fun k => !(hasB (T! T i) (v : Int)) || !(hasB (T! T k) (v : Int)) || padjC T (v : Int) i k)
theorem surf_small {n : Nat} {T : List Tr} (h : smallB n T = true) : Surf n T := by
  unfold smallB at h
  simp only [Bool.and_eq_true, decide_eq_true_eq] at h
  obtain ⟨⟨⟨⟨⟨⟨h1, h2⟩, h3⟩, h4⟩, h5⟩, h6⟩, h7⟩ := h
  refine ⟨by omega, by omega, h2, ?_, ?_, ?_, ?_, ?_, ?_⟩
  · intro i hi j
    have hb := belowN h3 i hi
    simp only [decide_eq_true_eq] at hb
    match j with
    | 0 => exact ⟨hb.1, hb.2.1⟩
    | 1 => exact ⟨hb.2.2.1, hb.2.2.2.1⟩
    | _ + 2 => exact ⟨hb.2.2.2.2.1, hb.2.2.2.2.2⟩
  · intro i hi
    simpa using belowN h4 i hi
  · intro b a hb hab
    have := belowN (belowN h5 b hb) a (by omega)
    simp [hab] at this
    exact this.1
  · intro b a hb hab
    have := belowN (belowN h5 b hb) a (by omega)
    simp [hab] at this
    exact this.2
  · intro v h0 h1
    obtain ⟨n, rfl⟩ := Int.eq_ofNat_of_zero_le h0
    have := belowN h6 n (by omega)
    simpa using this
  · intro v h0 h1 i k hi hk ha hb
    obtain ⟨n, rfl⟩ := Int.eq_ofNat_of_zero_le h0
    have := belowN (belowN (belowN h7 n (by omega)) i hi) k hk
    rw [ha, hb] at this
    refine .step (.refl _) ?_
    simp only [padjC, Bool.not_true, Bool.false_or, Bool.and_eq_true, List.any_eq_true, List.mem_range, Bool.not_eq_true', beq_eq_false_iff_ne] at this
    obtain ⟨⟨h1, h2⟩, j, hj, h3, h4⟩ := this
    exact ⟨hi, hk, h1, h2, j, hj, h3, h4⟩
theorem tet_surf : Surf (4 : Nat) tet := surf_small (by decide +kernel)
theorem tri1_surf : Surf (3 : Nat) tri1 := surf_small (by decide +kernel)
theorem tet_shells : IsShells (Adj tet) tet.length (fun _ => 0) where
  nonneg _ _ := Int.le_refl _
  clo _ _ _ _ _ := rfl
  con i j hi hj _ := by
    by_cases e : i = j
    · rw [e]; exact .refl _
    · refine .step (.refl _) (tet_surf.nb_adj ⟨hi, hj, ?_⟩)
      have := belowN (P := fun i => (List.range 4).all fun j => decide (i = j) || nbB (T! tet i) (T! tet j)) (n := 4) (by decide +kernel) i hi
      have := belowN this j hj
      simpa [e] using this
  rg i hi m h0 h1 := by omega
theorem tri1_shells : IsShells (Adj tri1) tri1.length (fun _ => 0) where
  nonneg _ _ := Int.le_refl _
  clo _ _ _ _ _ := rfl
  con i j hi hj _ := by
    have hi : i < 1 := hi
    have hj : j < 1 := hj
    obtain rfl : i = j := by omega
    exact .refl _
  rg i hi m h0 h1 := by omega
theorem tet_gen : iv (genF tet (fun _ => 0) 4) 6 = [.int .i64 4, .int .i64 6, .int .i64 4, .int .i64 0, .int .i64 2, .int .i64 0] := by
  have h : (List.range 6).map (genF tet (fun _ => 0) 4) = [4, 6, 4, 0, 2, 0] := by decide +kernel
  have := congrArg (List.map (fun x : Int => Value.int .i64 x)) h
  rwa [List.map_map] at this
theorem tri1_gen : (List.range 6).map (genF tri1 (fun _ => 0) 3) = [3, 3, 1, 1, 1, 0] := by decide +kernel
theorem tet_kind : KindIs 4 tet [(0, 0)] true := by
  refine Or.inl ⟨4, 1, fun _ => 0, rfl, tet_surf, tet_shells, rfl, ?_, rfl⟩
  decide +kernel
theorem tri1_kind : KindIs 3 tri1 [(1, 0)] true := by
  refine Or.inl ⟨3, 1, fun _ => 0, rfl, tri1_surf, tri1_shells, rfl, ?_, rfl⟩
  decide +kernel
theorem RowIs.tris {w : World} {g : Nat} {e : TypeId} {T : List Tr} (h : RowIs w g e (tcells T)) : TrisAt w (some ⟨g, 0, none⟩) T := fun _ =>
  ⟨g, 0, rfl, h.lt, fun i hi => by
    have h0 := h.cell (tcells_get T i 0 hi (by omega))
    have h1 := h.cell (tcells_get T i 1 hi (by omega))
    have h2 := h.cell (tcells_get T i 2 hi (by omega))
    rw [Nat.zero_add]
    exact ⟨h0, h1, h2⟩⟩
theorem soupT_any (w : World) (b : Nat) (N : Int) (T : List Tr) (hl : T.length ≤ 10000) (h : TabS w b N T) :
    Calls Tryz.prog 27 #[.pointer (some ⟨b, 0, none⟩)] w fun e w' => ∃ ao cap, e = .returned (.agg #[.int .i64 N, .slice ao T.length cap]) ∧ TrisAt w' ao T ∧ Below w.heap.size w w' := by
  refine (soup_any w b N T hl h).mono ?_
  rintro e w' ⟨ao, cap, rfl, ho, hb⟩
  obtain ⟨ao', cap', e, ht⟩ := owns_tris ho
  cases e
  exact ⟨ao, cap, rfl, ht, hb⟩
set_option maxRecDepth 100000 in
set_option maxHeartbeats 4000000 in
theorem awake14 (w : World) : Calls Tryz.prog 8 #[] w fun e w' => e = .returned (.bool true) ∧ Below w.heap.size w w' := by
  obtain ⟨W0, hW0⟩ : ∃ W0, W0 = w.alloc (.cells #[.int .i64 0, .int .i64 1, .int .i64 2, .int .i64 0, .int .i64 2, .int .i64 3, .int .i64 0, .int .i64 3, .int .i64 1, .int .i64 1, .int .i64 3, .int .i64 2] 62) := ⟨_, rfl⟩
  have hb0 : Below w.heap.size w W0 := by rw [hW0]; exact (Below.refl _ _).alloc (Nat.le_refl _) _
  have hr0 : RowIs W0 w.heap.size 62 (tcells tet) := by rw [hW0]; exact RowIs.made w 62 (tcells tet)
  have HN := Lib.hid (new_first 4 (some ⟨w.heap.size, 0, none⟩) 4 tet W0 hr0.tris tet_surf)
  have HW0 := Lib.hid hW0
  have HB0 := Lib.hid hb0
  clear hW0 hb0 hr0
  go_enter Tryz.func8, Tryz.ntmps8
  go_upto_region 1 with fail
  go_wp2_with fail
  rw [← HW0.out]
  refine HN.out.mono ?_
  rintro e w1 ⟨p, rfl, hp, ⟨htab, hfst⟩, hb1⟩
  obtain ⟨W1, hW1⟩ : ∃ W1, W1 = (w1.alloc (.cells #[.int .i64 0, .int .i64 0, .int .i64 0] 52)) := ⟨_, rfl⟩
  have hb11 : Below w1.heap.size w1 W1 := by rw [hW1]; exact (Below.refl _ _).alloc (Nat.le_refl _) _
  have HT1 := Lib.hid (show Tab W1 p 4 tet ∧ FirstAt W1 p tet 4 from ⟨htab.mono (Nat.le_refl _) hb11, (hfst 4 rfl).mono (Nat.le_refl _) hb11⟩)
  have HB1 := Lib.hid (below_more HB0.out (below_more hb1 hb11 hb1.size) HB0.out.size)
  have HW1 := Lib.hid hW1
  clear htab hfst HN hb1 hp hb11 hW1
  obtain ⟨W2, hW2⟩ : ∃ W2, W2 = W1.alloc (.cells #[.int .i64 0, .int .i64 1, .int .i64 2] 62) := ⟨_, rfl⟩
  have hb2 : Below W1.heap.size W1 W2 := by rw [hW2]; exact (Below.refl _ _).alloc (Nat.le_refl _) _
  have hr2 : RowIs W2 W1.heap.size 62 (tcells tri1) := by rw [hW2]; exact RowIs.made W1 62 (tcells tri1)
  have HN := Lib.hid (new_first 3 (some ⟨W1.heap.size, 0, none⟩) 1 tri1 W2 hr2.tris tri1_surf)
  have HT2 := Lib.hid (show Tab W2 p 4 tet ∧ FirstAt W2 p tet 4 from ⟨HT1.out.1.mono (Nat.le_refl _) hb2, HT1.out.2.mono (Nat.le_refl _) hb2⟩)
  have HW2 := Lib.hid hW2
  have HB2 := Lib.hid (below_more HB1.out hb2 HB1.out.size)
  clear hW2 hb2 hr2
  go_upto_region 2 with fail
  rw [← HW1.out]
  go_wp2_with fail
  rw [← HW2.out]
  refine HN.out.mono ?_
  rintro e w3 ⟨q, rfl, hq, ⟨htab, hfst⟩, hb3⟩
  obtain ⟨W3, hW3⟩ : ∃ W3, W3 = (w3.alloc (.cells #[.int .i64 0, .int .i64 0, .int .i64 0] 52)) := ⟨_, rfl⟩
  have hb33 : Below w3.heap.size w3 W3 := by rw [hW3]; exact (Below.refl _ _).alloc (Nat.le_refl _) _
  have HU3 := Lib.hid (show Tab W3 q 3 tri1 ∧ FirstAt W3 q tri1 3 from ⟨htab.mono (Nat.le_refl _) hb33, (hfst 3 rfl).mono (Nat.le_refl _) hb33⟩)
  have hb23 := below_more hb3 hb33 hb3.size
  have HT3 := Lib.hid (show Tab W3 p 4 tet ∧ FirstAt W3 p tet 4 from ⟨HT2.out.1.mono (Nat.le_refl _) hb23, HT2.out.2.mono (Nat.le_refl _) hb23⟩)
  have HB3 := Lib.hid (below_more HB2.out hb23 HB2.out.size)
  have HW3 := Lib.hid hW3
  clear htab hfst HN hb3 hq hb33 hW3 hb23 HT1 HT2 HB1 HB2 HB0 HW0 HW1 HW2
  have HG := Lib.hid (genus_of p 4 1 tet (fun _ => 0) W3 HT3.out.1 HT3.out.2 tet_surf tet_shells rfl)
  go_upto_region 3 with fail
  rw [← HW3.out]
  go_wp2_with fail
  refine HG.out.mono ?_
  rintro e W4 ⟨g, rfl, hg, hrow, hb4⟩
  rw [tet_gen] at hrow
  have l0 := hrow.cell (i := 0) rfl
  have l1 := hrow.cell (i := 1) rfl
  have l2 := hrow.cell (i := 2) rfl
  have l3 := hrow.cell (i := 3) rfl
  have l4 := hrow.cell (i := 4) rfl
  have l5 := hrow.cell (i := 5) rfl
  have HT4 := Lib.hid (HT3.out.1.mono (Nat.le_refl _) hb4)
  have HU4 := Lib.hid (show Tab W4 q 3 tri1 ∧ FirstAt W4 q tri1 3 from ⟨HU3.out.1.mono (Nat.le_refl _) hb4, HU3.out.2.mono (Nat.le_refl _) hb4⟩)
  have HB4 := Lib.hid (below_more HB3.out hb4 HB3.out.size)
  have HWH := Lib.hid (whole_ok q 3 1 tri1 (fun _ => 0) W4 HU4.out.1 HU4.out.2 tri1_surf tri1_shells rfl)
  clear hrow hb4 hg HG HT3 HU3 HB3 HW3
  have he1 : ∀ X : World, (Op.equalIn 10000 33 (.agg #[.int .i64 4, .int .i64 6, .int .i64 4, .int .i64 0, .int .i64 2, .int .i64 0]) (.agg #[.int .i64 4, .int .i64 6, .int .i64 4, .int .i64 0, .int .i64 2, .int .i64 0])).run Tryz.prog X = .ok true X := fun X => num_equal 4 6 4 0 2 0 4 6 4 0 2 0 X
  have he2 : ∀ X : World, (Op.equalIn 10000 33 (.agg #[.int .i64 3, .int .i64 3, .int .i64 1, .int .i64 1, .int .i64 1, .int .i64 0]) (.agg #[.int .i64 3, .int .i64 3, .int .i64 1, .int .i64 1, .int .i64 1, .int .i64 0])).run Tryz.prog X = .ok true X := fun X => num_equal 3 3 1 1 1 0 3 3 1 1 1 0 X
  have hsum : ∀ j, j < 6 → sumF (genF tri1 (fun _ => 0) 3) 1 j = ([3, 3, 1, 1, 1, 0] : List Int).getD j 0 := fun j hj => by
    have := belowN (P := fun j => decide (sumF (genF tri1 (fun _ => 0) 3) 1 j = ([3, 3, 1, 1, 1, 0] : List Int).getD j 0)) (n := 6) (by decide +kernel) j hj
    exact of_decide_eq_true this
  rw [hsum 0 (by omega), hsum 1 (by omega), hsum 2 (by omega), hsum 3 (by omega), hsum 4 (by omega), hsum 5 (by omega)] at HWH
  clear hsum
  go_wp2_with fail
  refine HWH.out.mono ?_
  rintro e W5 ⟨rfl, hb5⟩
  have HT5 := Lib.hid (HT4.out.mono (Nat.le_refl _) hb5)
  have HU5 := Lib.hid (HU4.out.1.mono (Nat.le_refl _) hb5)
  have HB5 := Lib.hid (below_more HB4.out hb5 HB4.out.size)
  clear hb5 HWH HT4 HU4 HB4 l0 l1 l2 l3 l4 l5
  have HS := Lib.hid (soupT_any W5 p 4 tet (by decide) HT5.out.s)
  go_wp2_with fail
  refine HS.out.mono ?_
  rintro e W6 ⟨ao6, cap6, rfl, ht6, hb6⟩
  have HA6 := Lib.hid ht6
  have HU6 := Lib.hid (HU5.out.mono (Nat.le_refl _) hb6)
  have HB6 := Lib.hid (below_more HB5.out hb6 HB5.out.size)
  clear hb6 ht6 HS HT5 HU5 HB5
  have HS := Lib.hid (soupT_any W6 q 3 tri1 (by decide) HU6.out.s)
  go_wp2_with fail
  refine HS.out.mono ?_
  rintro e W7 ⟨ao7, cap7, rfl, ht7, hb7⟩
  have HS := Lib.hid (gsame_any 4 3 ao6 ao7 cap6 cap7 tet tri1 [(0, 0)] [(1, 0)] true true W7 (HA6.out.mono (Nat.le_refl _) hb7) ht7 (by decide) (by decide) tet_kind tri1_kind)
  have HU7 := Lib.hid (HU6.out.mono (Nat.le_refl _) hb7)
  have HB7 := Lib.hid (below_more HB6.out hb7 HB6.out.size)
  clear hb7 ht7 HU6 HB6 HA6
  rw [show tet.length = 4 from rfl, show tri1.length = 1 from rfl] at HS
  rw [show tet.length = 4 from rfl, show tri1.length = 1 from rfl]
  go_wp2_with fail
  refine HS.out.mono ?_
  rintro e W8 ⟨rfl, hb8⟩
  rw [show (true && (true && decide ([((0 : Int), (0 : Int))] = [(1, 0)]))) = false from by decide]
  have HU8 := Lib.hid (HU7.out.mono (Nat.le_refl _) hb8)
  have HB8 := Lib.hid (below_more HB7.out hb8 HB7.out.size)
  clear hb8 HS HU7 HB7
  have HS := Lib.hid (soupT_any W8 q 3 tri1 (by decide) HU8.out.s)
  go_wp2_with fail
  refine HS.out.mono ?_
  rintro e W9 ⟨ao9, cap9, rfl, ht9, hb9⟩
  have HA9 := Lib.hid ht9
  have HU9 := Lib.hid (HU8.out.mono (Nat.le_refl _) hb9)
  have HB9 := Lib.hid (below_more HB8.out hb9 HB8.out.size)
  clear hb9 ht9 HS HU8 HB8
  have HS := Lib.hid (soupT_any W9 q 3 tri1 (by decide) HU9.out.s)
  go_wp2_with fail
  refine HS.out.mono ?_
  rintro e W10 ⟨ao10, cap10, rfl, ht10, hb10⟩
  have HS := Lib.hid (gsame_any 3 3 ao9 ao10 cap9 cap10 tri1 tri1 [(1, 0)] [(1, 0)] true true W10 (HA9.out.mono (Nat.le_refl _) hb10) ht10 (by decide) (by decide) tri1_kind tri1_kind)
  have HB10 := Lib.hid (below_more HB9.out hb10 HB9.out.size)
  clear hb10 ht10 HU9 HB9 HA9
  rw [show tri1.length = 1 from rfl] at HS
  rw [show tri1.length = 1 from rfl]
  go_wp2_with fail
  refine HS.out.mono ?_
  rintro e W11 ⟨rfl, hb11⟩
  rw [show (true && (true && decide True)) = true from by decide]
  have HB11 := Lib.hid (below_more HB10.out hb11 HB10.out.size)
  clear hb11 HS HB10
  go_wp2
  go_ret
  exact ⟨rfl, HB11.out⟩
end Go.Proofs.YtbeefabboabfgaaGreat

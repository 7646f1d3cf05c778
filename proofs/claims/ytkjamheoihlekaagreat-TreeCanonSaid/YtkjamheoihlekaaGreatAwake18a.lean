/- Plain facts of the document's examples of layer 18. gypsumlaw18.awake: the document's examples come out true. -/
import Derived.Test.YtkjamheoihlekaaGreatSmallSurf
import Derived.Test.YtkjamheoihlekaaGreatTreeRest
import Derived.Test.YtkjamheoihlekaaGreatTreeNear
import Derived.Test.YtkjamheoihlekaaGreatInsLaw
import Derived.Test.YtkjamheoihlekaaGreatTreePaths
import Derived.Test.YtkjamheoihlekaaGreatRefTree1
import Derived.Test.YtkjamheoihlekaaGreatLaid18
namespace Go.Proofs.YtkjamheoihlekaaGreat
set_option linter.unusedVariables false
set_option linter.unusedSimpArgs false
open Go.RowKit
def quad18 : List Tr := [(0, 1, 2), (2, 1, 3)]
theorem quad_surf : Surf (4 : Nat) quad18 := surf_small (by decide +kernel)
theorem quad_o : (bfs quad18 0).o = [0, 1] := by decide +kernel
theorem quad_l : (List.range 2).map (bfs quad18 0).l = [-1, 5] := by decide +kernel
theorem quad_l0 : (bfs quad18 0).l 0 = -1 := by decide +kernel
theorem quad_l1 : (bfs quad18 0).l 1 = 5 := by decide +kernel
theorem quad_keys : (List.range 6).map (ukey quad18) = [(1, 2), (0, 2), (0, 1), (1, 3), (2, 3), (1, 2)] := by decide +kernel
theorem quad_rest (e : Int × Int) : e ∈ [((0 : Int), (1 : Int)), (0, 2), (1, 3), (2, 3)] ↔ restB quad18 (bfs quad18 0) e := by
  have hk : ∀ c, c < 6 → ukey quad18 c = [((1 : Int), (2 : Int)), (0, 2), (0, 1), (1, 3), (2, 3), (1, 2)].getD c (0, 0) := by
    intro c hc
    rw [← quad_keys]
    simp [List.getD_eq_getElem?_getD, hc]
  have hf : ∀ e, facedB quad18 (bfs quad18 0) e ↔ e = (1, 2) := by
    intro e
    constructor
    · rintro ⟨t, c, ht, hl, rfl⟩
      rw [quad_o] at ht
      simp at ht
      rcases ht with rfl | rfl
      · rw [quad_l0] at hl; omega
      · rw [quad_l1] at hl
        obtain rfl : c = 5 := by omega
        exact hk 5 (by omega)
    · rintro rfl
      exact ⟨1, 5, by rw [quad_o]; simp, quad_l1, (hk 5 (by omega)).symm⟩
  unfold restB
  rw [hf]
  constructor
  · intro h
    simp only [List.mem_cons, List.not_mem_nil, or_false] at h
    rcases h with rfl | rfl | rfl | rfl
    · exact ⟨⟨2, by decide, by rw [quad_o]; decide, (hk 2 (by omega)).symm⟩, by decide⟩
    · exact ⟨⟨1, by decide, by rw [quad_o]; decide, (hk 1 (by omega)).symm⟩, by decide⟩
    · exact ⟨⟨3, by decide, by rw [quad_o]; decide, (hk 3 (by omega)).symm⟩, by decide⟩
    · exact ⟨⟨4, by decide, by rw [quad_o]; decide, (hk 4 (by omega)).symm⟩, by decide⟩
  · rintro ⟨⟨c, hc, -, rfl⟩, hne⟩
    have hc6 : c < 6 := hc
    rw [hk c hc6] at hne ⊢
    match c, hc6 with
    | 0, _ => exact absurd rfl hne
    | 1, _ => decide
    | 2, _ => decide
    | 3, _ => decide
    | 4, _ => decide
    | 5, _ => exact absurd rfl hne
theorem quad_sorted {D : List (Int × Int)} (hn : D.Nodup) (h : ∀ a, a ∈ D ↔ restB quad18 (bfs quad18 0) a) : sortP D = [(0, 1), (0, 2), (1, 3), (2, 3)] := by
  refine (sortP_one hn ?_ fun e => ?_).symm
  · unfold ltE; decide
  · rw [quad_rest, h]
theorem prune_ex : (pruneE [(0, 1), (1, 2), (2, 0), (2, 3)]).length = 3 := by decide +kernel
def star18 : List (Int × Int) := [(0, 1), (1, 2), (1, 3)]
theorem star_right : RightE star18 := ⟨by decide, by decide⟩
theorem star_nb1 : nbE star18 1 = [0, 2, 3] := by decide +kernel
theorem star_nb0 : nbE star18 0 = [1] := by decide +kernel
theorem star_nb2 : nbE star18 2 = [1] := by decide +kernel
theorem star_nb3 : nbE star18 3 = [1] := by decide +kernel
theorem star_deg {v : Int} (h : v = 0 ∨ v = 1 ∨ v = 2 ∨ v = 3) : degE star18 v ≠ 2 := by
  rcases h with rfl | rfl | rfl | rfl <;> decide +kernel
theorem star_darts {d : Int × Int} (h : IsD star18 d) : d ∈ [((0 : Int), (1 : Int)), (1, 0), (1, 2), (2, 1), (1, 3), (3, 1)] := by
  have := h.mem star_right
  simp only [dartsL, star18, revD, List.map_cons, List.map_nil, List.cons_append, List.nil_append, List.mem_cons, List.not_mem_nil, or_false] at this ⊢
  rcases this with h | h | h | h | h | h <;> rw [h] <;> simp
theorem star_K {d : Int × Int} {K : Nat} (p : Path18 star18 d K) : K = 0 := by
  refine trail_one p.w.tr p.w.stop (p.w.tr.le (Nat.zero_le _)) (.inr ?_)
  refine star_deg ?_
  have := star_darts p.w.tr.isD
  show d.2 = 0 ∨ d.2 = 1 ∨ d.2 = 2 ∨ d.2 = 3
  simp only [List.mem_cons, List.not_mem_nil, or_false] at this
  rcases this with h | h | h | h | h | h <;> rw [h] <;> simp
theorem star_path {d : Int × Int} (h : d ∈ [((0 : Int), (1 : Int)), (1, 0), (1, 2), (2, 1), (1, 3), (3, 1)]) : ∃ K, Path18 star18 d K := by
  refine open_whole star_right ?_ ?_
  · unfold IsD
    simp only [List.mem_cons, List.not_mem_nil, or_false] at h
    rcases h with rfl | rfl | rfl | rfl | rfl | rfl <;> decide +kernel
  · refine star_deg ?_
    simp only [List.mem_cons, List.not_mem_nil, or_false] at h
    rcases h with h | h | h | h | h | h <;> rw [h] <;> simp
theorem star_canon {d : Int × Int} {K : Nat} (p : Path18 star18 d K) : canonR (pathL star18 d K) ∈ [[(0 : Int), 1], [1, 2], [1, 3]] := by
  obtain rfl := star_K p
  have := star_darts p.w.tr.isD
  simp only [List.mem_cons, List.not_mem_nil, or_false] at this
  rcases this with rfl | rfl | rfl | rfl | rfl | rfl <;> decide +kernel
theorem star_mem {O : List (List Int)} (h : PFin18 star18 O) (p : List Int) : p ∈ O ↔ p ∈ [[(0 : Int), 1], [1, 2], [1, 3]] := by
  rw [h.mem]
  constructor
  · rintro ⟨d, K, hp, rfl⟩
    exact star_canon hp
  · intro hp
    simp only [List.mem_cons, List.not_mem_nil, or_false] at hp
    rcases hp with rfl | rfl | rfl
    · obtain ⟨K, hK⟩ := star_path (d := (0, 1)) (by simp)
      obtain rfl := star_K hK
      exact ⟨(0, 1), 0, hK, by decide +kernel⟩
    · obtain ⟨K, hK⟩ := star_path (d := (1, 2)) (by simp)
      obtain rfl := star_K hK
      exact ⟨(1, 2), 0, hK, by decide +kernel⟩
    · obtain ⟨K, hK⟩ := star_path (d := (1, 3)) (by simp)
      obtain rfl := star_K hK
      exact ⟨(1, 3), 0, hK, by decide +kernel⟩
theorem rows_strict {S : List (List Int)} (nd : S.Nodup) (hS : S.Pairwise fun x y => cmpR y x < 0 → False) : S.Pairwise fun x y => cmpR x y < 0 := by
  refine (hS.and (List.nodup_iff_pairwise_ne.1 nd)).imp fun {a b} hh => ?_
  obtain ⟨h1, h2⟩ := hh
  have ha := cmpR_anti a b
  apply Classical.byContradiction
  intro hn
  have : cmpR a b ≠ 0 := fun q => h2 (cmpR_eq q)
  exact h1 (by omega)
theorem star_rows {S : List (List Int)} (h : S.Pairwise (fun x y => cmpR y x < 0 → False) ∧ ∃ O, PFin18 star18 O ∧ S.Perm O) : S = [[0, 1], [1, 2], [1, 3]] := by
  obtain ⟨h1, O, hO, hp⟩ := h
  refine rows_one (rows_strict (hp.nodup_iff.2 hO.nd) h1) (by simp [cmpR]) fun p => ?_
  rw [hp.mem_iff, star_mem hO]
theorem RowIs.edges {w : World} {g : Nat} {e : TypeId} {E : List (Int × Int)} (h : RowIs w g e (ecells E)) : EdgesAt w (some ⟨g, 0, none⟩) E := fun _ => ⟨g, 0, rfl, h.lt, fun i hi => by
  obtain ⟨h1, h2⟩ := ecells_get E i hi
  rw [Nat.zero_add]
  exact ⟨h.cell h1, h.cell h2⟩⟩
theorem RowIs.tris18 {w : World} {g : Nat} {e : TypeId} {T : List Tr} (h : RowIs w g e (tcells T)) : TrisAt w (some ⟨g, 0, none⟩) T := fun _ =>
  ⟨g, 0, rfl, h.lt, fun i hi => by
    have h0 := h.cell (tcells_get T i 0 hi (by omega))
    have h1 := h.cell (tcells_get T i 1 hi (by omega))
    have h2 := h.cell (tcells_get T i 2 hi (by omega))
    rw [Nat.zero_add]
    exact ⟨h0, h1, h2⟩⟩
theorem rowis_ints18 {X : World} {g n : Nat} {f : Nat → Int} (h : RowIs X g 3 (iv f n)) : IntsAt X (some ⟨g, 0, none⟩) ((List.range n).map f) := fun _ => ⟨g, 0, rfl, h.lt, fun i hi => by
  have hi' : i < n := by simpa using hi
  have e : I! ((List.range n).map f) i = f i := by simp [I!, hi']
  rw [e, Nat.zero_add]
  exact h.cell (iv_get f hi')⟩
theorem dual_ex (p : Nat) (w : World) (h : Tab w p 4 quad18) :
    Calls Tryz.prog 15 #[.pointer (some ⟨p, 0, none⟩), .int .i64 0] w fun e w' => ∃ gl, e = .returned (.slice (some ⟨gl, 0, none⟩) 2 2) ∧ IntsAt w' (some ⟨gl, 0, none⟩) [-1, 5] ∧ Below w.heap.size w w' := by
  refine (dual_ok p 4 quad18 0 w h quad_surf (by decide)).mono ?_
  rintro e w' ⟨gl, rfl, hr, hb⟩
  have := rowis_ints18 hr
  rw [show quad18.length = 2 from rfl, quad_l] at this
  exact ⟨gl, rfl, this, hb⟩
theorem rest_ex (p : Nat) (w : World) (h : Tab w p 4 quad18) :
    Calls Tryz.prog 17 #[.pointer (some ⟨p, 0, none⟩), .int .i64 0] w fun e w' => ∃ ao cap, e = .returned (.slice ao 4 cap) ∧ EdgesAt w' ao [(0, 1), (0, 2), (1, 3), (2, 3)] ∧ Below w.heap.size w w' := by
  refine (rest_ok p 4 quad18 0 w h quad_surf (by decide)).mono ?_
  rintro e w' ⟨ao, cap, D, ⟨hn, hm⟩, rfl, hE, hb⟩
  have hs := quad_sorted hn hm
  have hl : D.length = 4 := by rw [← (sortP_perm D).length_eq, hs]; rfl
  rw [hs] at hE
  exact ⟨ao, cap, by rw [hl], hE, hb⟩
theorem prune_ex2 (ao : Option Addr) (w : World) (hE : EdgesAt w ao [(0, 1), (1, 2), (2, 0), (2, 3)]) :
    Calls Tryz.prog 19 #[.slice ao 4 4] w fun e w' => ∃ ao' cap', e = .returned (.slice ao' 3 cap') ∧ Below w.heap.size w w' := by
  refine (prune_ok [(0, 1), (1, 2), (2, 0), (2, 3)] ao 4 w hE (by intro e he; simp at he; rcases he with rfl | rfl | rfl | rfl <;> simp [I64]) (by decide)).mono ?_
  rintro e w' ⟨ao', cap', rfl, -, hb⟩
  exact ⟨ao', cap', by rw [prune_ex], hb⟩
theorem paths_ex (ao : Option Addr) (w : World) (hE : EdgesAt w ao star18) :
    Calls Tryz.prog 23 #[.slice ao 3 3] w fun e w' => ∃ g off cap a c, e = .returned (.slice (some ⟨g, off, none⟩) 3 cap) ∧ g < w'.heap.size ∧ w'.cell? ⟨g, off + 1, none⟩ = some (.slice a 2 c) ∧ IntsAt w' a [1, 2] ∧ Below w.heap.size w w' := by
  refine (paths_ok star18 (by intro e he; simp [star18] at he; rcases he with rfl | rfl | rfl <;> simp [I64]) (by decide) ao 3 w hE).mono ?_
  rintro e w' ⟨ao', cap', S, rfl, hr, hb, -, hs⟩
  obtain rfl := star_rows (hs star_right)
  obtain ⟨g, off, rfl, hg, hc⟩ := hr (by simp)
  obtain ⟨a, c, h1, h2⟩ := hc 1 (by simp)
  exact ⟨g, off, cap', a, c, rfl, hg, h1, h2, hb⟩
theorem RowIs.ints18 {w : World} {g : Nat} {xs : List Int} (h : RowIs w g 3 (ic xs)) : IntsAt w (some ⟨g, 0, none⟩) xs := fun _ => ⟨g, 0, rfl, h.lt, fun i hi => by
  rw [Nat.zero_add]
  exact h.cell (by simp [ic, I!, hi])⟩
theorem rows_ex (A : List Int) (ao bo : Option Addr) (ac bc : Nat) (w : World) (hA : IntsAt w ao A) (hB : IntsAt w bo A) (hl : A.length = 2) :
    Calls Tryz.prog 14 #[.slice ao 2 ac, .slice bo 2 bc] w fun e w' => e = .returned (.bool true) ∧ Below w.heap.size w w' := by
  have := rows18 A A ao bo ac bc w hA hB (by omega) (by omega)
  rw [hl] at this
  refine this.mono ?_
  rintro e w' ⟨r, rfl, h1, h2⟩
  rw [h1.2 rfl]
  exact ⟨rfl, h2⟩
theorem edges_ex (A : List (Int × Int)) (ao bo : Option Addr) (ac bc : Nat) (w : World) (hA : EdgesAt w ao A) (hB : EdgesAt w bo A) (hl : A.length = 4) :
    Calls Tryz.prog 16 #[.slice ao 4 ac, .slice bo 4 bc] w fun e w' => e = .returned (.bool true) ∧ Below w.heap.size w w' := by
  have := edges18 A A ao bo ac bc w hA hB (by omega) (by omega)
  rw [hl] at this
  refine this.mono ?_
  rintro e w' ⟨r, rfl, h1, h2⟩
  rw [h1.2 rfl]
  exact ⟨rfl, h2⟩
set_option maxRecDepth 100000 in
set_option maxHeartbeats 4000000 in
theorem awake18 (w : World) : Calls Tryz.prog 11 #[] w fun e w' => e = .returned (.bool true) ∧ Below w.heap.size w w' := by
  obtain ⟨W0, hW0⟩ : ∃ W0, W0 = w.alloc (.cells #[.int .i64 0, .int .i64 1, .int .i64 2, .int .i64 2, .int .i64 1, .int .i64 3] 72) := ⟨_, rfl⟩
  have hb0 : Below w.heap.size w W0 := by rw [hW0]; exact (Below.refl _ _).alloc (Nat.le_refl _) _
  have hr0 : RowIs W0 w.heap.size 72 (tcells quad18) := by rw [hW0]; exact RowIs.made w 72 (tcells quad18)
  have HN := Lib.hid (new_first 4 (some ⟨w.heap.size, 0, none⟩) 2 quad18 W0 hr0.tris18 quad_surf)
  have HW0 := Lib.hid hW0
  have HB0 := Lib.hid hb0
  clear hW0 hb0 hr0
  go_enter Tryz.func11, Tryz.ntmps11
  go_upto_region 1 with fail
  go_wp2_with fail
  rw [← HW0.out]
  refine HN.out.mono ?_
  rintro e w1 ⟨p, rfl, hp, ⟨htab, hfst⟩, hb1⟩
  obtain ⟨W1, hW1⟩ : ∃ W1, W1 = (w1.alloc (.cells #[.int .i64 0, .int .i64 0, .int .i64 0] 55)) := ⟨_, rfl⟩
  have hb11 : Below w1.heap.size w1 W1 := by rw [hW1]; exact (Below.refl _ _).alloc (Nat.le_refl _) _
  have HT1 := Lib.hid (show Tab W1 p 4 quad18 from htab.mono (Nat.le_refl _) hb11)
  have HB1 := Lib.hid (below_more HB0.out (below_more hb1 hb11 hb1.size) HB0.out.size)
  have HW1 := Lib.hid hW1
  clear htab hfst HN hb1 hp hb11 hW1
  obtain ⟨W2, hW2⟩ : ∃ W2, W2 = W1.alloc (.cells #[.int .i64 0, .int .i64 1, .int .i64 1, .int .i64 2, .int .i64 2, .int .i64 0, .int .i64 2, .int .i64 3] 40) := ⟨_, rfl⟩
  have hb2 : Below W1.heap.size W1 W2 := by rw [hW2]; exact (Below.refl _ _).alloc (Nat.le_refl _) _
  have hr2 : RowIs W2 W1.heap.size 40 (ecells [(0, 1), (1, 2), (2, 0), (2, 3)]) := by rw [hW2]; exact RowIs.made W1 40 (ecells [(0, 1), (1, 2), (2, 0), (2, 3)])
  have HP := Lib.hid (prune_ex2 (some ⟨W1.heap.size, 0, none⟩) W2 hr2.edges)
  have HT2 := Lib.hid (HT1.out.mono (Nat.le_refl _) hb2)
  have HB2 := Lib.hid (below_more HB1.out hb2 HB1.out.size)
  have HW2 := Lib.hid hW2
  clear hW2 hb2 hr2
  go_upto_region 2 with fail
  rw [← HW1.out]
  go_wp2_with fail
  rw [← HW2.out]
  refine HP.out.mono ?_
  rintro e w3 ⟨a3, c3, rfl, hb3⟩
  have HT3 := Lib.hid (HT2.out.mono (Nat.le_refl _) hb3)
  have HB3 := Lib.hid (below_more HB2.out hb3 HB2.out.size)
  obtain ⟨W4, hW4⟩ : ∃ W4, W4 = w3.alloc (.cells #[.int .i64 0, .int .i64 1, .int .i64 1, .int .i64 2, .int .i64 1, .int .i64 3] 40) := ⟨_, rfl⟩
  have hb4 : Below w3.heap.size w3 W4 := by rw [hW4]; exact (Below.refl _ _).alloc (Nat.le_refl _) _
  have hr4 : RowIs W4 w3.heap.size 40 (ecells star18) := by rw [hW4]; exact RowIs.made w3 40 (ecells star18)
  have HQ := Lib.hid (paths_ex (some ⟨w3.heap.size, 0, none⟩) W4 hr4.edges)
  have HT4 := Lib.hid (HT3.out.mono (Nat.le_refl _) hb4)
  have HB4 := Lib.hid (below_more HB3.out hb4 HB3.out.size)
  have HW4 := Lib.hid hW4
  clear hW4 hb4 hr4 hb3 HP HT1 HT2 HT3 HB1 HB2 HB0 HW0
  go_upto_region 3 with fail
  go_wp2_with fail
  rw [← HW4.out]
  refine HQ.out.mono ?_
  rintro e w5 ⟨g5, o5, c5, a5, k5, rfl, hg5, hc5, hi5, hb5⟩
  have HT5 := Lib.hid (HT4.out.mono (Nat.le_refl _) hb5)
  have HB5 := Lib.hid (below_more HB4.out hb5 HB4.out.size)
  have HC5 := Lib.hid (show ∀ X, Below w5.heap.size w5 X → X.cell? ⟨g5, o5 + 1, none⟩ = some (.slice a5 2 k5) ∧ IntsAt X a5 [1, 2] from fun X h => ⟨(h.cell (p := ⟨g5, o5 + 1, none⟩) hg5).trans hc5, hi5.mono (Nat.le_refl _) h⟩)
  have HD := Lib.hid (dual_ex p w5 HT5.out)
  clear hg5 hc5 hi5 hb5 HQ HT4 HB4 HB3
  go_wp2_with fail
  refine HD.out.mono ?_
  rintro e w6 ⟨g6, rfl, hi6, hb6⟩
  obtain ⟨W7, hW7⟩ : ∃ W7, W7 = w6.alloc (.cells #[.int .i64 (-1), .int .i64 5] 3) := ⟨_, rfl⟩
  have hb7 : Below w6.heap.size w6 W7 := by rw [hW7]; exact (Below.refl _ _).alloc (Nat.le_refl _) _
  have hr7 : RowIs W7 w6.heap.size 3 (ic [-1, 5]) := by rw [hW7]; exact RowIs.made w6 3 (ic [-1, 5])
  have HRW := Lib.hid (rows_ex [-1, 5] (some ⟨g6, 0, none⟩) (some ⟨w6.heap.size, 0, none⟩) 2 2 W7 (hi6.mono (Nat.le_refl _) hb7) hr7.ints18 rfl)
  have HB7 := Lib.hid (below_more hb6 hb7 hb6.size)
  have HW7 := Lib.hid hW7
  clear hi6 hb6 hW7 hb7 hr7 HD
  go_wp2_with fail
  rw [← HW7.out]
  refine HRW.out.mono ?_
  rintro e w8 ⟨rfl, hb8⟩
  have HB8 := Lib.hid (below_more HB7.out hb8 HB7.out.size)
  have HR := Lib.hid (rest_ex p w8 (HT5.out.mono (Nat.le_refl _) HB8.out))
  clear hb8 HRW
  go_wp2_with fail
  refine HR.out.mono ?_
  rintro e w9 ⟨a9, c9, rfl, hE9, hb9⟩
  obtain ⟨W10, hW10⟩ : ∃ W10, W10 = w9.alloc (.cells #[.int .i64 0, .int .i64 1, .int .i64 0, .int .i64 2, .int .i64 1, .int .i64 3, .int .i64 2, .int .i64 3] 40) := ⟨_, rfl⟩
  have hb10 : Below w9.heap.size w9 W10 := by rw [hW10]; exact (Below.refl _ _).alloc (Nat.le_refl _) _
  have hr10 : RowIs W10 w9.heap.size 40 (ecells [(0, 1), (0, 2), (1, 3), (2, 3)]) := by rw [hW10]; exact RowIs.made w9 40 (ecells [(0, 1), (0, 2), (1, 3), (2, 3)])
  have HRE := Lib.hid (edges_ex [(0, 1), (0, 2), (1, 3), (2, 3)] a9 (some ⟨w9.heap.size, 0, none⟩) c9 4 W10 (hE9.mono (Nat.le_refl _) hb10) hr10.edges rfl)
  have HB10 := Lib.hid (below_more HB8.out (below_more hb9 hb10 hb9.size) HB8.out.size)
  have HW10 := Lib.hid hW10
  clear hE9 hb9 hW10 hb10 hr10 HR
  go_wp2_with fail
  rw [← HW10.out]
  refine HRE.out.mono ?_
  rintro e w11 ⟨rfl, hb11⟩
  have HB11 := Lib.hid (below_more HB10.out hb11 HB10.out.size)
  obtain ⟨W12, hW12⟩ : ∃ W12, W12 = w11.alloc (.cells #[.int .i64 1, .int .i64 2] 3) := ⟨_, rfl⟩
  have hb12 : Below w11.heap.size w11 W12 := by rw [hW12]; exact (Below.refl _ _).alloc (Nat.le_refl _) _
  have hr12 : RowIs W12 w11.heap.size 3 (ic [1, 2]) := by rw [hW12]; exact RowIs.made w11 3 (ic [1, 2])
  have HB12 := Lib.hid (below_more HB11.out hb12 HB11.out.size)
  have HRX := Lib.hid (rows_ex [1, 2] a5 (some ⟨w11.heap.size, 0, none⟩) k5 2 W12 (HC5.out W12 HB12.out).2 hr12.ints18 rfl)
  have HW12 := Lib.hid hW12
  have x5 := (HC5.out w11 HB11.out).1
  clear hb11 hW12 hb12 hr12 HRE
  go_wp2_with fail
  rw [← HW12.out]
  refine HRX.out.mono ?_
  rintro e w13 ⟨rfl, hb13⟩
  have HF := Lib.hid (below_more HB5.out (below_more HB12.out hb13 HB12.out.size) HB5.out.size)
  clear hb13 x5
  go_wp2
  exact bodyPost_ret (v := .bool true) (by simp [results, Tryz.results11, go_sem]) rfl ⟨rfl, HF.out⟩
end Go.Proofs.YtkjamheoihlekaaGreat

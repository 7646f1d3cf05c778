/- Plain facts of the document's examples of layer 18. -/
import Derived.Test.YtkjamheoihlekaaGreatSmallSurf
import Derived.Test.YtkjamheoihlekaaGreatTreeRest
import Derived.Test.YtkjamheoihlekaaGreatTreeNear
import Derived.Test.YtkjamheoihlekaaGreatInsLaw
namespace Go.Proofs.YtkjamheoihlekaaGreat
set_option linter.unusedVariables false
set_option linter.unusedSimpArgs false
open Go.RowKit
def quad18 : List Tr := [(0, 1, 2), (2, 1, 3)]
theorem quad_surf : Surf (4 : Nat) quad18 := surf_small (by decide +kernel)
theorem quad_o : (bfs quad18 0).o = [0, 1] := by decide +kernel
theorem quad_l : (List.range 2).map (bfs quad18 0).l = [-1, 5] := by decide +kernel
theorem quad_l0 : (bfs quad18 0).l 0 = -1 := by decide +kernel
theorem quad_l1 : (bfs quad18 0).l 1 = 5 := by decide +kernel
theorem quad_keys : (List.range 6).map (ukey quad18) = [(1, 2), (0, 2), (0, 1), (1, 3), (2, 3), (1, 2)] := by decide +kernel
theorem quad_rest (e : Int × Int) : e ∈ [((0 : Int), (1 : Int)), (0, 2), (1, 3), (2, 3)] ↔ restB quad18 (bfs quad18 0) e := by
  have hk : ∀ c, c < 6 → ukey quad18 c = [((1 : Int), (2 : Int)), (0, 2), (0, 1), (1, 3), (2, 3), (1, 2)].getD c (0, 0) := by
    intro c hc
    rw [← quad_keys]
    simp [List.getD_eq_getElem?_getD, hc]
  have hf : ∀ e, facedB quad18 (bfs quad18 0) e ↔ e = (1, 2) := by
    intro e
    constructor
    · rintro ⟨t, c, ht, hl, rfl⟩
      rw [quad_o] at ht
      simp at ht
      rcases ht with rfl | rfl
      · rw [quad_l0] at hl; omega
      · rw [quad_l1] at hl
        obtain rfl : c = 5 := by omega
        exact hk 5 (by omega)
    · rintro rfl
      exact ⟨1, 5, by rw [quad_o]; simp, quad_l1, (hk 5 (by omega)).symm⟩
  unfold restB
  rw [hf]
  constructor
  · intro h
    simp only [List.mem_cons, List.not_mem_nil, or_false] at h
    rcases h with rfl | rfl | rfl | rfl
    · exact ⟨⟨2, by decide, by rw [quad_o]; decide, (hk 2 (by omega)).symm⟩, by decide⟩
    · exact ⟨⟨1, by decide, by rw [quad_o]; decide, (hk 1 (by omega)).symm⟩, by decide⟩
    · exact ⟨⟨3, by decide, by rw [quad_o]; decide, (hk 3 (by omega)).symm⟩, by decide⟩
    · exact ⟨⟨4, by decide, by rw [quad_o]; decide, (hk 4 (by omega)).symm⟩, by decide⟩
  · rintro ⟨⟨c, hc, -, rfl⟩, hne⟩
    have hc6 : c < 6 := hc
    rw [hk c hc6] at hne ⊢
    match c, hc6 with
    | 0, _ => exact absurd rfl hne
    | 1, _ => decide
    | 2, _ => decide
    | 3, _ => decide
    | 4, _ => decide
    | 5, _ => exact absurd rfl hne
theorem quad_sorted {D : List (Int × Int)} (hn : D.Nodup) (h : ∀ a, a ∈ D ↔ restB quad18 (bfs quad18 0) a) : sortP D = [(0, 1), (0, 2), (1, 3), (2, 3)] := by
  refine (sortP_one hn ?_ fun e => ?_).symm
  · unfold ltE; decide
  · rw [quad_rest, h]
theorem prune_ex : (pruneE [(0, 1), (1, 2), (2, 0), (2, 3)]).length = 3 := by decide +kernel
def star18 : List (Int × Int) := [(0, 1), (1, 2), (1, 3)]
theorem star_right : RightE star18 := ⟨by decide, by decide⟩
theorem star_nb1 : nbE star18 1 = [0, 2, 3] := by decide +kernel
theorem star_nb0 : nbE star18 0 = [1] := by decide +kernel
theorem star_nb2 : nbE star18 2 = [1] := by decide +kernel
theorem star_nb3 : nbE star18 3 = [1] := by decide +kernel
theorem star_deg {v : Int} (h : v = 0 ∨ v = 1 ∨ v = 2 ∨ v = 3) : degE star18 v ≠ 2 := by
  rcases h with rfl | rfl | rfl | rfl <;> decide +kernel
theorem star_darts {d : Int × Int} (h : IsD star18 d) : d ∈ [((0 : Int), (1 : Int)), (1, 0), (1, 2), (2, 1), (1, 3), (3, 1)] := by
  have := h.mem star_right
  simp only [dartsL, star18, revD, List.map_cons, List.map_nil, List.cons_append, List.nil_append, List.mem_cons, List.not_mem_nil, or_false] at this ⊢
  rcases this with h | h | h | h | h | h <;> rw [h] <;> simp
theorem star_K {d : Int × Int} {K : Nat} (p : Path18 star18 d K) : K = 0 := by
  refine trail_one p.w.tr p.w.stop (p.w.tr.le (Nat.zero_le _)) (.inr ?_)
  refine star_deg ?_
  have := star_darts p.w.tr.isD
  show d.2 = 0 ∨ d.2 = 1 ∨ d.2 = 2 ∨ d.2 = 3
  simp only [List.mem_cons, List.not_mem_nil, or_false] at this
  rcases this with h | h | h | h | h | h <;> rw [h] <;> simp
theorem star_path {d : Int × Int} (h : d ∈ [((0 : Int), (1 : Int)), (1, 0), (1, 2), (2, 1), (1, 3), (3, 1)]) : ∃ K, Path18 star18 d K := by
  refine open_whole star_right ?_ ?_
  · unfold IsD
    simp only [List.mem_cons, List.not_mem_nil, or_false] at h
    rcases h with rfl | rfl | rfl | rfl | rfl | rfl <;> decide +kernel
  · refine star_deg ?_
    simp only [List.mem_cons, List.not_mem_nil, or_false] at h
    rcases h with h | h | h | h | h | h <;> rw [h] <;> simp
theorem star_canon {d : Int × Int} {K : Nat} (p : Path18 star18 d K) : canonR (pathL star18 d K) ∈ [[(0 : Int), 1], [1, 2], [1, 3]] := by
  obtain rfl := star_K p
  have := star_darts p.w.tr.isD
  simp only [List.mem_cons, List.not_mem_nil, or_false] at this
  rcases this with rfl | rfl | rfl | rfl | rfl | rfl <;> decide +kernel
theorem star_mem {O : List (List Int)} (h : PFin18 star18 O) (p : List Int) : p ∈ O ↔ p ∈ [[(0 : Int), 1], [1, 2], [1, 3]] := by
  rw [h.mem]
  constructor
  · rintro ⟨d, K, hp, rfl⟩
    exact star_canon hp
  · intro hp
    simp only [List.mem_cons, List.not_mem_nil, or_false] at hp
    rcases hp with rfl | rfl | rfl
    · obtain ⟨K, hK⟩ := star_path (d := (0, 1)) (by simp)
      obtain rfl := star_K hK
      exact ⟨(0, 1), 0, hK, by decide +kernel⟩
    · obtain ⟨K, hK⟩ := star_path (d := (1, 2)) (by simp)
      obtain rfl := star_K hK
      exact ⟨(1, 2), 0, hK, by decide +kernel⟩
    · obtain ⟨K, hK⟩ := star_path (d := (1, 3)) (by simp)
      obtain rfl := star_K hK
      exact ⟨(1, 3), 0, hK, by decide +kernel⟩
theorem rows_strict {S : List (List Int)} (nd : S.Nodup) (hS : S.Pairwise fun x y => cmpR y x < 0 → False) : S.Pairwise fun x y => cmpR x y < 0 := by
  refine (hS.and (List.nodup_iff_pairwise_ne.1 nd)).imp fun {a b} hh => ?_
  obtain ⟨h1, h2⟩ := hh
  have ha := cmpR_anti a b
  apply Classical.byContradiction
  intro hn
  have : cmpR a b ≠ 0 := fun q => h2 (cmpR_eq q)
  exact h1 (by omega)
theorem star_rows {S : List (List Int)} (h : S.Pairwise (fun x y => cmpR y x < 0 → False) ∧ ∃ O, PFin18 star18 O ∧ S.Perm O) : S = [[0, 1], [1, 2], [1, 3]] := by
  obtain ⟨h1, O, hO, hp⟩ := h
  refine rows_one (rows_strict (hp.nodup_iff.2 hO.nd) h1) (by simp [cmpR]) fun p => ?_
  rw [hp.mem_iff, star_mem hO]
end Go.Proofs.YtkjamheoihlekaaGreat

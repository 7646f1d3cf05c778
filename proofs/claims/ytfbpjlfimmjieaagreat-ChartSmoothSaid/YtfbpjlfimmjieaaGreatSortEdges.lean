/- slices.SortFunc of edges, by any comparison of both ends. -/
import Derived.Test.YtfbpjlfimmjieaaGreatPairBase
import Derived.Test.YtfbpjlfimmjieaaGreatSortELay
namespace Go.Proofs.YtfbpjlfimmjieaaGreat
set_option linter.unusedVariables false
set_option linter.unusedSimpArgs false
open Go.RowKit Go.Maps
open Go.RowKit Go.Shelf
open Go.RowKit Go.Lib Go.Sort
open Go.RowKit
theorem or_cmpP (x y : Int × Int) : orI (Lib.compareInt x.1 y.1) (Lib.compareInt x.2 y.2) = cmpP x y := by
  unfold orI cmpP
  by_cases h : Lib.compareInt x.1 y.1 = 0 <;> simp [h]
/-- A function that compares edges by both ends. -/
def CmpE (K : Nat) : Prop := ∀ (a0 a1 b0 b1 : Int) (w : World), Calls Tryz.prog K #[.agg #[.int .i64 a0, .int .i64 a1], .agg #[.int .i64 b0, .int .i64 b1]] w fun e w' => e = .returned (.int .i64 (cmpP (a0, a1) (b0, b1))) ∧ Gr w w'
theorem sort_edges (K : Nat) (hK : CmpE K) (hE : ∀ args w, (callFunc K args).run Tryz.prog w = .ok (.enter K args) w) (w : World) (base : Nat) (v : Value) (L : List (Int × Int)) (hL : L.length ≤ 1000000000) (hown : w.ownsRow base 57 2 v L.length (ecells L)) :
    Calls Tryz.prog 69 #[v, .func (.func K) #[] #[]] w fun e w' => e = .returned (.tuple #[]) ∧
      ∃ ao cap, v = .slice ao L.length cap ∧ EdgesAt w' ao (sortP L) ∧ Below base w w' := by
  by_cases h0 : L = []
  · subst h0
    obtain ⟨ao, cap, rfl, hE⟩ := owns_edges hown
    refine (Go.Proofs.AnyF.slices_SortFunc_none laysSortE ao cap _ w).mono fun e w' ⟨he, hw⟩ => ⟨he, ao, cap, rfl, ?_, ?_⟩
    · exact fun hne => absurd (List.length_eq_zero_iff.1 (by rw [sortP_length]; rfl)) hne
    · rw [hw]; exact Below.refl _ _
  have hpos := List.length_pos_iff.2 h0
  obtain ⟨gf, capf, rfl, hbg, hgl, -, -, hcl, hfr⟩ := owns_block hown hpos
  have hH : HoldsK encP 2 w gf 0 L.toArray := fun j hj => by
    simp at hj
    rw [Nat.zero_add]
    exact ⟨hcl j _ (flat_getP hj), hfr j⟩
  have hcmp : Go.Proofs.CmpLays Tryz.prog K #[] encP 2 cmpP gf 0 L.toArray.size w := fun m os dk _ x y => by
    have := hK x.1 x.2 y.1 y.2 (Go.Proofs.sortWorldK encP 2 w gf 0 m dk os)
    exact this.mono fun e w' ⟨h1, q, os', h2⟩ => ⟨h1, q, os', h2⟩
  have hs := Go.Proofs.AnyQ.slices_SortFunc_total laysSortE 2 Tryz.isAgg57 Tryz.sizeOf57 encP (fun _ => rfl) (fun x v hv => by simp [encP] at hv; rcases hv with rfl | rfl <;> rfl) cmpP swo_cmpP K #[] gf 0 capf L.toArray w hE hcmp hH hgl (by simp; omega) tot_cmpP
  have e0 : L.toArray.size = L.length := by simp
  rw [e0] at hs
  refine Calls.mono hs fun e w' ⟨he, n, os, hw⟩ => ⟨he, some ⟨gf, 0, none⟩, capf, rfl, ?_, ?_⟩
  · have hw : w' = Go.Proofs.sortWorldK encP 2 w gf 0 n (sortP L).toArray os := hw
    rw [hw]
    have hd : (sortP L).toArray.size = L.toArray.size := by simp [sortP_length]
    have hg := grown_sortK' w gf 0 n (sortP L).toArray os hgl
    have hh := Go.Proofs.holdsK_sortWorldK_c encP 2 w gf 0 L.toArray (sortP L).toArray n os hH hgl hd
    refine fun _ => ⟨gf, 0, rfl, by have := hg.size; omega, fun i hi => ?_⟩
    have get : ∀ q, q < 2 → (Go.Proofs.sortWorldK encP 2 w gf 0 n (sortP L).toArray os).cell? ⟨gf, 0 + (i * 2 + q), none⟩ = (ecells (sortP L))[i * 2 + q]? := fun q hq => by
      have := (hh (i * 2 + q) (by simp; omega)).1
      rw [this, flat_get2 hi hq]; rfl
    have g := ecells_get (sortP L) i hi
    exact ⟨by rw [← Nat.add_zero (i * 2), get 0 (by omega)]; exact g.1, by rw [Nat.add_assoc, get 1 (by omega)]; exact g.2⟩
  · rw [hw]
    have := grown_sortK' w gf 0 n (List.mergeSort L.toArray.toList fun x y => !(Go.Proofs.ltOf cmpP) y x).toArray os hgl
    exact ⟨this.1, this.2, this.3, this.4, fun j hj => this.5 j (by omega)⟩
end Go.Proofs.YtfbpjlfimmjieaaGreat

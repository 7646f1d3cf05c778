/- slices.SortFunc of pairs, by genus.kinds' comparison: the row holds them sorted. -/
import Derived.Test.YtbeefabboabfgaaPairCmp
import Derived.Test.YtbeefabboabfgaaWitSort
import Derived.Test.YtbeefabboabfgaaSortPLay
import Derived.Shelf.SlSortCmp.NoneTotal
namespace Go.Proofs.Ytbeefabboabfgaa
set_option linter.unusedVariables false
set_option linter.unusedSimpArgs false
open Go.RowKit Go.Lib Go.Sort
def encP (x : Int × Int) : List Value := [.int .i64 x.1, .int .i64 x.2]
theorem ltOf_cmpP (s t : Int × Int) : Go.Proofs.ltOf cmpP s t = true ↔ s.1 < t.1 ∨ s.1 = t.1 ∧ s.2 < t.2 := by
  unfold Go.Proofs.ltOf cmpP Lib.compareInt
  simp only [decide_eq_true_eq]
  by_cases h1 : s.1 < t.1
  · simp [h1]
  · by_cases h2 : t.1 < s.1
    · have : ¬ s.1 = t.1 := by omega
      simp [h1, h2, this]
    · have e : s.1 = t.1 := by omega
      simp only [e, false_or, true_and]
      by_cases h3 : s.2 < t.2
      · simp [h3]
      · by_cases h4 : t.2 < s.2
        · simp [h3, h4]
        · simp [h3, h4]
theorem swo_cmpP : Go.Sort.SWO (Go.Proofs.ltOf cmpP) where
  irrefl x := by
    cases h : Go.Proofs.ltOf cmpP x x
    · rfl
    · have := (ltOf_cmpP x x).1 h
      omega
  trans x y z h1 h2 := by
    have a := (ltOf_cmpP x y).1 h1
    have b := (ltOf_cmpP y z).1 h2
    exact (ltOf_cmpP x z).2 (by omega)
  ntrans x y z h1 h2 := by
    have a : ¬ _ := fun h => by rw [(ltOf_cmpP x y).2 h] at h1; cases h1
    have b : ¬ _ := fun h => by rw [(ltOf_cmpP y z).2 h] at h2; cases h2
    cases h : Go.Proofs.ltOf cmpP x z
    · rfl
    · have c := (ltOf_cmpP x z).1 h
      omega
theorem tot_cmpP (x y : Int × Int) (h1 : Go.Proofs.ltOf cmpP x y = false) (h2 : Go.Proofs.ltOf cmpP y x = false) : x = y := by
  have a : ¬ _ := fun h => by rw [(ltOf_cmpP x y).2 h] at h1; cases h1
  have b : ¬ _ := fun h => by rw [(ltOf_cmpP y x).2 h] at h2; cases h2
  obtain ⟨x1, x2⟩ := x
  obtain ⟨y1, y2⟩ := y
  simp only at a b
  rw [Prod.mk.injEq]
  omega
/-- Pairs in order. -/
def sortP (L : List (Int × Int)) : List (Int × Int) := L.mergeSort fun x y => !(Go.Proofs.ltOf cmpP) y x
theorem sortP_perm (L : List (Int × Int)) : (sortP L).Perm L := List.mergeSort_perm _ _
theorem sortP_length (L : List (Int × Int)) : (sortP L).length = L.length := (sortP_perm L).length_eq
theorem sortP_eq {L M : List (Int × Int)} : sortP L = sortP M ↔ L.Perm M := by
  constructor
  · intro h
    exact ((sortP_perm L).symm.trans (h ▸ List.Perm.refl _)).trans (sortP_perm M)
  · intro h
    have st : ∀ X : List (Int × Int), (sortP X).Pairwise fun x y => (!(Go.Proofs.ltOf cmpP) y x) = true := fun X => by
      refine List.pairwise_mergeSort (fun a b c h1 h2 => ?_) (fun a b => ?_) X
      · simp only [Bool.not_eq_true'] at h1 h2 ⊢
        exact swo_cmpP.ntrans c b a h2 h1
      · cases h1 : Go.Proofs.ltOf cmpP b a
        · simp
        · cases h2 : Go.Proofs.ltOf cmpP a b
          · simp
          · have := swo_cmpP.trans _ _ _ h1 h2
            rw [swo_cmpP.irrefl] at this
            cases this
    exact List.Perm.eq_of_pairwise (le := fun x y => (!(Go.Proofs.ltOf cmpP) y x) = true) (fun a b _ _ h1 h2 => tot_cmpP a b (by simpa using h2) (by simpa using h1)) (st L) (st M) (((sortP_perm L).trans h).trans (sortP_perm M).symm)
theorem flat_get2 {L : List (Int × Int)} {p q : Nat} (hp : p < L.length) (hq : q < 2) : (ecells L)[p * 2 + q]? = some (flatK encP 2 L.toArray)[p * 2 + q]! := by
  rw [get_flatK _ _ _ _ (by simp; omega), show (p * 2 + q) / 2 = p by omega, show (p * 2 + q) % 2 = q by omega]
  obtain ⟨c0, c1⟩ := ecells_get L p hp
  have e : L.toArray[p]! = E! L p := by
    rw [getElem!_pos L.toArray p (by simpa using hp)]
    simp [E!, hp]
  rw [e]
  match q, hq with
  | 0, _ => simpa [encP] using c0
  | 1, _ => simpa [encP] using c1
theorem flat_getP {L : List (Int × Int)} {j : Nat} (h : j < L.length * 2) : (ecells L)[j]? = some (flatK encP 2 L.toArray)[j]! := by
  have := flat_get2 (L := L) (p := j / 2) (q := j % 2) (by omega) (by omega)
  rwa [show j / 2 * 2 + j % 2 = j by omega] at this
theorem grown_sortK' (w : World) (blk off m : Nat) (dk : Array (Int × Int)) (os : Array Obj) (hb : blk < w.heap.size) : Below blk w (Go.Proofs.sortWorldK encP 2 w blk off m dk os) := by
  have h1 : (Go.Proofs.sortWorldK encP 2 w blk off m dk os).heap.size = w.heap.size + os.size := by
    show (Go.Sort.grow (Go.Sort.putRow id (Go.Sort.ahead w m) blk off _) os).heap.size = _
    rw [Go.Sort.size_grow, Go.Sort.size_putRow]
    rfl
  refine ⟨rfl, rfl, rfl, by omega, fun j hj => ?_⟩
  have h2 : blk ≠ j := by omega
  show (Go.Sort.grow (Go.Sort.putRow id (Go.Sort.ahead w m) blk off _) os).heap[j]? = _
  rw [Go.Sort.heap_grow_old _ _ (by rw [Go.Sort.size_putRow]; show j < w.heap.size; omega)]
  simp only [Go.Sort.putRow, Go.Sort.mapBlock, Array.getElem?_modify, h2, if_false]
  rfl
theorem sort_pairs (w : World) (base : Nat) (v : Value) (L : List (Int × Int)) (hL : L.length ≤ 1000000000) (hown : w.ownsRow base 57 2 v L.length (ecells L)) :
    Calls Try.prog 37 #[v, .func (.func 38) #[] #[]] w fun e w' => e = .returned (.tuple #[]) ∧
      ∃ ao cap, v = .slice ao L.length cap ∧ EdgesAt w' ao (sortP L) ∧ Below base w w' := by
  by_cases h0 : L = []
  · subst h0
    obtain ⟨ao, cap, rfl, hE⟩ := owns_edges hown
    refine (Go.Proofs.AnyF.slices_SortFunc_none laysSortP ao cap _ w).mono fun e w' ⟨he, hw⟩ => ⟨he, ao, cap, rfl, ?_, ?_⟩
    · exact fun hne => absurd (List.length_eq_zero_iff.1 (by rw [sortP_length]; rfl)) hne
    · rw [hw]; exact Below.refl _ _
  have hpos := List.length_pos_iff.2 h0
  obtain ⟨gf, capf, rfl, hbg, hgl, -, -, hcl, hfr⟩ := owns_block hown hpos
  have hH : HoldsK encP 2 w gf 0 L.toArray := fun j hj => by
    simp at hj
    rw [Nat.zero_add]
    exact ⟨hcl j _ (flat_getP hj), hfr j⟩
  have hcmp : Go.Proofs.CmpLays Try.prog 38 #[] encP 2 cmpP gf 0 L.toArray.size w := fun m os dk _ x y => by
    have := kcmp_any x.1 x.2 y.1 y.2 (Go.Proofs.sortWorldK encP 2 w gf 0 m dk os)
    exact this.mono fun e w' ⟨h1, q, os', h2⟩ => ⟨h1, q, os', h2⟩
  have hs := Go.Proofs.AnyQ.slices_SortFunc_total laysSortP 2 Try.isAgg57 Try.sizeOf57 encP (fun _ => rfl) (fun x v hv => by simp [encP] at hv; rcases hv with rfl | rfl <;> rfl) cmpP swo_cmpP 38 #[] gf 0 capf L.toArray w (enters_of Try.func38 (by kernel_rfl) rfl) hcmp hH hgl (by simp; omega) tot_cmpP
  have e0 : L.toArray.size = L.length := by simp
  rw [e0] at hs
  refine Calls.mono hs fun e w' ⟨he, n, os, hw⟩ => ⟨he, some ⟨gf, 0, none⟩, capf, rfl, ?_, ?_⟩
  · have hw : w' = Go.Proofs.sortWorldK encP 2 w gf 0 n (sortP L).toArray os := hw
    rw [hw]
    have hd : (sortP L).toArray.size = L.toArray.size := by simp [sortP_length]
    have hg := grown_sortK' w gf 0 n (sortP L).toArray os hgl
    have hh := Go.Proofs.holdsK_sortWorldK_c encP 2 w gf 0 L.toArray (sortP L).toArray n os hH hgl hd
    refine fun _ => ⟨gf, 0, rfl, by have := hg.size; omega, fun i hi => ?_⟩
    have get : ∀ q, q < 2 → (Go.Proofs.sortWorldK encP 2 w gf 0 n (sortP L).toArray os).cell? ⟨gf, 0 + (i * 2 + q), none⟩ = (ecells (sortP L))[i * 2 + q]? := fun q hq => by
      have := (hh (i * 2 + q) (by simp; omega)).1
      rw [this, flat_get2 hi hq]; rfl
    have g := ecells_get (sortP L) i hi
    exact ⟨by rw [← Nat.add_zero (i * 2), get 0 (by omega)]; exact g.1, by rw [Nat.add_assoc, get 1 (by omega)]; exact g.2⟩
  · rw [hw]
    have := grown_sortK' w gf 0 n (List.mergeSort L.toArray.toList fun x y => !(Go.Proofs.ltOf cmpP) y x).toArray os hgl
    exact ⟨this.1, this.2, this.3, this.4, fun j hj => this.5 j (by omega)⟩
end Go.Proofs.Ytbeefabboabfgaa

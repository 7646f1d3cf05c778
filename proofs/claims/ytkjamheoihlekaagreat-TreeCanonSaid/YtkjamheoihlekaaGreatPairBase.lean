/- Pairs of numbers, ordered by the first, then by the second; sorted. -/
import Derived.Test.YtkjamheoihlekaaGreatCmpW
import Derived.Test.YtkjamheoihlekaaGreatBordEdge
import Derived.Test.YtkjamheoihlekaaGreatPairsLaw
import Derived.BigQuiet
import Derived.Shelf.SlSortCmp.WholeK
import Derived.Shelf.SlSortCmp.NoneTotal
namespace Go.Proofs.YtkjamheoihlekaaGreat
set_option linter.unusedVariables false
set_option linter.unusedSimpArgs false
open Go.RowKit Go.Lib Go.Sort
theorem Gr.drewN {W X : World} (h : Gr W X) (n : Nat) : Gr W (X.drewN n) := by
  obtain ⟨q, os, rfl⟩ := h
  exact ⟨q + n, os, by simp [Go.Sort.grow, World.drewN, Nat.add_assoc]⟩
/-- Pairs by the first, then by the second. -/
def cmpP (x y : Int × Int) : Int := if Lib.compareInt x.1 y.1 ≠ 0 then Lib.compareInt x.1 y.1 else Lib.compareInt x.2 y.2
theorem compare_eq (x y : Int) : Lib.compareInt x y = 0 ↔ x = y := by
  unfold Lib.compareInt
  by_cases h1 : x < y
  · simp [h1]; omega
  · by_cases h2 : y < x
    · simp [h1, h2]; omega
    · simp [h1, h2]; omega
open Go.RowKit
def encP (x : Int × Int) : List Value := [.int .i64 x.1, .int .i64 x.2]
theorem ltOf_cmpP (s t : Int × Int) : Go.Proofs.ltOf cmpP s t = true ↔ s.1 < t.1 ∨ s.1 = t.1 ∧ s.2 < t.2 := by
  unfold Go.Proofs.ltOf cmpP Lib.compareInt
  simp only [decide_eq_true_eq]
  by_cases h1 : s.1 < t.1
  · simp [h1]
  · by_cases h2 : t.1 < s.1
    · have : ¬ s.1 = t.1 := by omega
      simp [h1, h2, this]
    · have e : s.1 = t.1 := by omega
      simp only [e, false_or, true_and]
      by_cases h3 : s.2 < t.2
      · simp [h3]
      · by_cases h4 : t.2 < s.2
        · simp [h3, h4]
        · simp [h3, h4]
theorem swo_cmpP : Go.Sort.SWO (Go.Proofs.ltOf cmpP) where
  irrefl x := by
    cases h : Go.Proofs.ltOf cmpP x x
    · rfl
    · have := (ltOf_cmpP x x).1 h
      omega
  trans x y z h1 h2 := by
    have a := (ltOf_cmpP x y).1 h1
    have b := (ltOf_cmpP y z).1 h2
    exact (ltOf_cmpP x z).2 (by omega)
  ntrans x y z h1 h2 := by
    have a : ¬ _ := fun h => by rw [(ltOf_cmpP x y).2 h] at h1; cases h1
    have b : ¬ _ := fun h => by rw [(ltOf_cmpP y z).2 h] at h2; cases h2
    cases h : Go.Proofs.ltOf cmpP x z
    · rfl
    · have c := (ltOf_cmpP x z).1 h
      omega
theorem tot_cmpP (x y : Int × Int) (h1 : Go.Proofs.ltOf cmpP x y = false) (h2 : Go.Proofs.ltOf cmpP y x = false) : x = y := by
  have a : ¬ _ := fun h => by rw [(ltOf_cmpP x y).2 h] at h1; cases h1
  have b : ¬ _ := fun h => by rw [(ltOf_cmpP y x).2 h] at h2; cases h2
  obtain ⟨x1, x2⟩ := x
  obtain ⟨y1, y2⟩ := y
  simp only at a b
  rw [Prod.mk.injEq]
  omega
/-- Pairs in order. -/
def sortP (L : List (Int × Int)) : List (Int × Int) := L.mergeSort fun x y => !(Go.Proofs.ltOf cmpP) y x
theorem sortP_perm (L : List (Int × Int)) : (sortP L).Perm L := List.mergeSort_perm _ _
theorem sortP_length (L : List (Int × Int)) : (sortP L).length = L.length := (sortP_perm L).length_eq
theorem sortP_eq {L M : List (Int × Int)} : sortP L = sortP M ↔ L.Perm M := by
  constructor
  · intro h
    exact ((sortP_perm L).symm.trans (h ▸ List.Perm.refl _)).trans (sortP_perm M)
  · intro h
    have st : ∀ X : List (Int × Int), (sortP X).Pairwise fun x y => (!(Go.Proofs.ltOf cmpP) y x) = true := fun X => by
      refine List.pairwise_mergeSort (fun a b c h1 h2 => ?_) (fun a b => ?_) X
      · simp only [Bool.not_eq_true'] at h1 h2 ⊢
        exact swo_cmpP.ntrans c b a h2 h1
      · cases h1 : Go.Proofs.ltOf cmpP b a
        · simp
        · cases h2 : Go.Proofs.ltOf cmpP a b
          · simp
          · have := swo_cmpP.trans _ _ _ h1 h2
            rw [swo_cmpP.irrefl] at this
            cases this
    exact List.Perm.eq_of_pairwise (le := fun x y => (!(Go.Proofs.ltOf cmpP) y x) = true) (fun a b _ _ h1 h2 => tot_cmpP a b (by simpa using h2) (by simpa using h1)) (st L) (st M) (((sortP_perm L).trans h).trans (sortP_perm M).symm)
theorem flat_get2 {L : List (Int × Int)} {p q : Nat} (hp : p < L.length) (hq : q < 2) : (ecells L)[p * 2 + q]? = some (flatK encP 2 L.toArray)[p * 2 + q]! := by
  rw [get_flatK _ _ _ _ (by simp; omega), show (p * 2 + q) / 2 = p by omega, show (p * 2 + q) % 2 = q by omega]
  obtain ⟨c0, c1⟩ := ecells_get L p hp
  have e : L.toArray[p]! = E! L p := by
    rw [getElem!_pos L.toArray p (by simpa using hp)]
    simp [E!, hp]
  rw [e]
  match q, hq with
  | 0, _ => simpa [encP] using c0
  | 1, _ => simpa [encP] using c1
theorem flat_getP {L : List (Int × Int)} {j : Nat} (h : j < L.length * 2) : (ecells L)[j]? = some (flatK encP 2 L.toArray)[j]! := by
  have := flat_get2 (L := L) (p := j / 2) (q := j % 2) (by omega) (by omega)
  rwa [show j / 2 * 2 + j % 2 = j by omega] at this
theorem grown_sortK' (w : World) (blk off m : Nat) (dk : Array (Int × Int)) (os : Array Obj) (hb : blk < w.heap.size) : Below blk w (Go.Proofs.sortWorldK encP 2 w blk off m dk os) := by
  have h1 : (Go.Proofs.sortWorldK encP 2 w blk off m dk os).heap.size = w.heap.size + os.size := by
    show (Go.Sort.grow (Go.Sort.putRow id (Go.Sort.ahead w m) blk off _) os).heap.size = _
    rw [Go.Sort.size_grow, Go.Sort.size_putRow]
    rfl
  refine ⟨rfl, rfl, rfl, by omega, fun j hj => ?_⟩
  have h2 : blk ≠ j := by omega
  show (Go.Sort.grow (Go.Sort.putRow id (Go.Sort.ahead w m) blk off _) os).heap[j]? = _
  rw [Go.Sort.heap_grow_old _ _ (by rw [Go.Sort.size_putRow]; show j < w.heap.size; omega)]
  simp only [Go.Sort.putRow, Go.Sort.mapBlock, Array.getElem?_modify, h2, if_false]
  rfl
end Go.Proofs.YtkjamheoihlekaaGreat

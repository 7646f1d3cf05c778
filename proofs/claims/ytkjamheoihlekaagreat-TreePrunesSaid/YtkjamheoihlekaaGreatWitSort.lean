/- slices.SortFunc of witnesses, by certify.All's comparison. -/
import Derived.Test.YtkjamheoihlekaaGreatCmpW
import Derived.Test.YtkjamheoihlekaaGreatPairsLaw
import Derived.Shelf.SlSortCmp.WholeK
namespace Go.Proofs.YtkjamheoihlekaaGreat
set_option linter.unusedVariables false
set_option linter.unusedSimpArgs false
open Go.RowKit Go.Lib Go.Sort
def encW (x : Ky) : List Value := [.int .i64 x.1, .int .i64 x.2.1, .int .i64 x.2.2]
theorem ltOf_cmpW (s t : Ky) : Go.Proofs.ltOf cmpW s t = true ↔ s.2.2 < t.2.2 ∨ s.2.2 = t.2.2 ∧ s.2.1 < t.2.1 := by
  unfold Go.Proofs.ltOf cmpW orI Lib.compareInt
  simp only [decide_eq_true_eq]
  by_cases h1 : s.2.2 < t.2.2
  · simp [h1]
  · by_cases h2 : t.2.2 < s.2.2
    · have : ¬ s.2.2 = t.2.2 := by omega
      simp [h1, h2, this]
    · have e : s.2.2 = t.2.2 := by omega
      simp only [h1, h2, if_false, if_true, e, false_or, true_and]
      by_cases h3 : s.2.1 < t.2.1
      · simp [h3]
      · by_cases h4 : t.2.1 < s.2.1
        · simp [h3, h4]
        · simp [h3, h4]
theorem swo_cmpW : Go.Sort.SWO (Go.Proofs.ltOf cmpW) where
  irrefl x := by
    cases h : Go.Proofs.ltOf cmpW x x
    · rfl
    · have := (ltOf_cmpW x x).1 h
      omega
  trans x y z h1 h2 := by
    have a := (ltOf_cmpW x y).1 h1
    have b := (ltOf_cmpW y z).1 h2
    exact (ltOf_cmpW x z).2 (by omega)
  ntrans x y z h1 h2 := by
    have a : ¬ _ := fun h => by rw [(ltOf_cmpW x y).2 h] at h1; cases h1
    have b : ¬ _ := fun h => by rw [(ltOf_cmpW y z).2 h] at h2; cases h2
    cases h : Go.Proofs.ltOf cmpW x z
    · rfl
    · have c := (ltOf_cmpW x z).1 h
      omega
theorem flat_get3 {L : List Ky} {p q : Nat} (hp : p < L.length) (hq : q < 3) : (kcells L)[p * 3 + q]? = some (flatK encW 3 L.toArray)[p * 3 + q]! := by
  rw [get_flatK _ _ _ _ (by simp; omega), show (p * 3 + q) / 3 = p by omega, show (p * 3 + q) % 3 = q by omega]
  obtain ⟨c0, c1, c2⟩ := kcells_get (L := L) (List.getElem?_eq_getElem hp)
  have e : L.toArray[p]! = L[p] := by rw [getElem!_pos L.toArray p (by simpa using hp)]; simp
  rw [e]
  match q, hq with
  | 0, _ => simpa [encW] using c0
  | 1, _ => simpa [encW] using c1
  | 2, _ => simpa [encW] using c2
theorem flat_get {L : List Ky} {j : Nat} (h : j < L.length * 3) : (kcells L)[j]? = some (flatK encW 3 L.toArray)[j]! := by
  have := flat_get3 (L := L) (p := j / 3) (q := j % 3) (by omega) (by omega)
  rwa [show j / 3 * 3 + j % 3 = j by omega] at this
theorem grown_sortK (w : World) (blk off m : Nat) (dk : Array Ky) (os : Array Obj) (hb : blk < w.heap.size) : w.grownBy (Go.Proofs.sortWorldK encW 3 w blk off m dk os) (some blk) := by
  have h1 : (Go.Proofs.sortWorldK encW 3 w blk off m dk os).heap.size = w.heap.size + os.size := by
    show (Go.Sort.grow (Go.Sort.putRow id (Go.Sort.ahead w m) blk off _) os).heap.size = _
    rw [Go.Sort.size_grow, Go.Sort.size_putRow]
    rfl
  refine ⟨rfl, rfl, rfl, by omega, fun j hj hne => ?_⟩
  have h2 : blk ≠ j := fun e => hne (by rw [e])
  show (Go.Sort.grow (Go.Sort.putRow id (Go.Sort.ahead w m) blk off _) os).heap[j]? = _
  rw [Go.Sort.heap_grow_old _ _ (by rw [Go.Sort.size_putRow]; exact hj)]
  simp only [Go.Sort.putRow, Go.Sort.mapBlock, Array.getElem?_modify, h2, if_false]
  rfl
theorem sort_wits (w : World) (base gf capf : Nat) (L : List Ky) (hL : L.length ≤ 1000000000) (hown : w.ownsRow base 55 3 (.slice (some ⟨gf, 0, none⟩) L.length capf) L.length (kcells L)) (h0 : L ≠ []) :
    Calls Tryz.prog 128 #[.slice (some ⟨gf, 0, none⟩) L.length capf, .func (.func 129) #[] #[]] w fun e w' => e = .returned (.tuple #[]) ∧
      ∃ L' : List Ky, L'.Perm L ∧ TrisAt w' (some ⟨gf, 0, none⟩) L' ∧ w.grownBy w' (some gf) ∧ base ≤ gf := by
  obtain ⟨hbg, hgl⟩ := hown.lt gf rfl
  have hpos := List.length_pos_iff.2 h0
  have hH : HoldsK encW 3 w gf 0 L.toArray := fun j hj => by
    simp at hj
    obtain ⟨g', cap', hv, -, -, -, -, hc, hf⟩ := owns_block hown hpos
    simp only [Value.slice.injEq, Option.some.injEq, Addr.mk.injEq] at hv
    obtain ⟨⟨rfl, -⟩, -, rfl⟩ := hv
    rw [Nat.zero_add]
    exact ⟨hc j _ (flat_get hj), hf j⟩
  have hcmp : Go.Proofs.CmpLays Tryz.prog 129 #[] encW 3 cmpW gf 0 L.toArray.size w := fun m os dk _ x y => by
    have := cmpw_any x.1 x.2.1 x.2.2 y.1 y.2.1 y.2.2 (Go.Proofs.sortWorldK encW 3 w gf 0 m dk os)
    exact this.mono fun e w' ⟨h1, q, os', h2⟩ => ⟨h1, q, os', h2⟩
  have hs := Go.Proofs.AnyQ.slices_SortFunc Tryz.laysSortW 3 Tryz.isAgg55 Tryz.sizeOf55 encW (fun _ => rfl) (fun x v hv => by simp [encW] at hv; rcases hv with rfl | rfl | rfl <;> rfl) cmpW swo_cmpW 129 #[] gf 0 capf L.toArray w (enters_of Tryz.func129 (by kernel_rfl) rfl) hcmp hH hgl (by simp; omega)
  have e0 : L.toArray.size = L.length := by simp
  rw [e0] at hs
  refine Calls.mono hs fun e w' ⟨he, d', n, os, hp, hso, hw⟩ => ⟨he, d'.toList, ?_, ?_, ?_, hbg⟩
  · have := hp.2.2
    have h1 := hp.1
    simp at h1
    rw [show d'.extract 0 L.length = d' from by rw [← h1]; simp, show L.toArray.extract 0 L.length = L.toArray from by rw [← e0]; simp] at this
    simpa using this
  · rw [hw]
    have h1 := hp.1
    have hg := grown_sortK w gf 0 n d' os hgl
    have hh := Go.Proofs.holdsK_sortWorldK_c encW 3 w gf 0 L.toArray d' n os hH hgl h1
    refine fun _ => ⟨gf, 0, rfl, by have := hg.size; omega, fun i hi => ?_⟩
    have hi' : i < d'.size := by simpa using hi
    have get : ∀ q, q < 3 → (Go.Proofs.sortWorldK encW 3 w gf 0 n d' os).cell? ⟨gf, 0 + (i * 3 + q), none⟩ = some (encW d'[i]!)[q]! := fun q hq => by
      have := (hh (i * 3 + q) (by simp; omega)).1
      rw [get_flatK _ _ _ _ (by omega), show (i * 3 + q) / 3 = i by omega, show (i * 3 + q) % 3 = q by omega] at this
      exact this
    have ed : d'[i]! = T! d'.toList i := by
      rw [getElem!_pos d' i hi']
      simp [T!, hi']
    rw [ed] at get
    have g0 := get 0 (by omega)
    have g1 := get 1 (by omega)
    have g2 := get 2 (by omega)
    exact ⟨g0, by rw [Nat.add_assoc]; exact g1, by rw [Nat.add_assoc]; exact g2⟩
  · rw [hw]; exact grown_sortK w gf 0 n d' os hgl
end Go.Proofs.YtkjamheoihlekaaGreat

/- slices.SortFunc by rim.Cut's comparison. -/
import Derived.Test.YtknioobpoieohaaCutCmp
import Derived.Shelf.SlSortCmp.Whole1
namespace Go.Proofs.Ytknioobpoieohaa
set_option linter.unusedVariables false
set_option linter.unusedSimpArgs false
open Go.RowKit Go.Lib
/-- By vertex, then by number. -/
def ltC (T : List Tr) (a b : Nat) : Prop := vtx T a < vtx T b ∨ vtx T a = vtx T b ∧ a < b
theorem ltOf_cfc (T : List Tr) (a b : Nat) : Go.Proofs.ltOf (cfc T) a b = true ↔ ltC T a b := by
  unfold Go.Proofs.ltOf cfc orI Lib.compareInt ltC
  simp only [decide_eq_true_eq]
  by_cases h1 : vtx T a < vtx T b
  · simp [h1]
  · by_cases h2 : vtx T b < vtx T a
    · have : ¬ vtx T a = vtx T b := by omega
      simp [h1, h2, this]
    · have e : vtx T a = vtx T b := by omega
      simp only [h1, h2, if_false, if_true, e, false_or, true_and]
      by_cases h3 : (a : Int) < b
      · have : a < b := by omega
        simp [h3, this]
      · by_cases h4 : (b : Int) < a
        · have : ¬ a < b := by omega
          simp [h3, h4, this]
        · have : ¬ a < b := by omega
          simp [h3, h4, this]
theorem swo_cfc (T : List Tr) : Go.Sort.SWO (Go.Proofs.ltOf (cfc T)) where
  irrefl x := by
    cases h : Go.Proofs.ltOf (cfc T) x x
    · rfl
    · have := (ltOf_cfc T x x).1 h
      unfold ltC at this
      omega
  trans x y z h1 h2 := by
    have a := (ltOf_cfc T x y).1 h1
    have b := (ltOf_cfc T y z).1 h2
    refine (ltOf_cfc T x z).2 ?_
    unfold ltC at *
    omega
  ntrans x y z h1 h2 := by
    have a : ¬ ltC T x y := fun h => by rw [(ltOf_cfc T x y).2 h] at h1; cases h1
    have b : ¬ ltC T y z := fun h => by rw [(ltOf_cfc T y z).2 h] at h2; cases h2
    cases h : Go.Proofs.ltOf (cfc T) x z
    · rfl
    · have c := (ltOf_cfc T x z).1 h
      unfold ltC at *
      omega
def nl (F : List Nat) : List Int := F.map fun (x : Nat) => (x : Int)
theorem nl_length (F : List Nat) : (nl F).length = F.length := by simp [nl]
theorem nl_get {F : List Nat} {i x : Nat} (h : F[i]? = some x) : I! (nl F) i = (x : Int) := by
  simp [I!, nl, List.getD_eq_getElem?_getD, h]
/-- A sort's world: one block has turned, blocks are laid behind. -/
theorem grown_sortW {α : Type} [Inhabited α] (enc : α → Value) (w : World) (blk off m : Nat) (dk : Array α) (os : Array Obj) (hb : blk < w.heap.size) : w.grownBy (Go.Proofs.sortWorld enc w blk off m dk os) (some blk) := by
  have h1 : (Go.Proofs.sortWorld enc w blk off m dk os).heap.size = w.heap.size + os.size := by
    show (Go.Sort.grow (Go.Sort.putRow enc (Go.Sort.ahead w m) blk off dk) os).heap.size = _
    rw [Go.Sort.size_grow, Go.Sort.size_putRow]
    rfl
  refine ⟨rfl, rfl, rfl, by omega, fun j hj hne => ?_⟩
  have h2 : blk ≠ j := fun e => hne (by rw [e])
  show (Go.Sort.grow (Go.Sort.putRow enc (Go.Sort.ahead w m) blk off dk) os).heap[j]? = _
  rw [Go.Sort.heap_grow_old _ _ (by rw [Go.Sort.size_putRow]; exact hj)]
  simp only [Go.Sort.putRow, Go.Sort.mapBlock, Array.getElem?_modify, h2, if_false]
  rfl
theorem sort_first (W1 w : World) (base tb p gf capf : Nat) (N : Int) (T : List Tr) (F0 : List Nat) (hl : T.length ≤ 10000) (hF : F0.length ≤ 100000) (h : TabS W1 p N T) (htl : tb < W1.heap.size) (htb : W1.cell? ⟨tb, 0, none⟩ = some (.pointer (some ⟨p, 0, none⟩)))
    (hB : W1.heap.size ≤ base) (hb : Below base W1 w) (hown : w.ownsRow base 3 1 (.slice (some ⟨gf, 0, none⟩) F0.length capf) F0.length (nv F0)) :
    Calls Try.prog 19 #[.slice (some ⟨gf, 0, none⟩) F0.length capf, .func (.func 20) #[] #[.pointer (some ⟨tb, 0, none⟩)]] w fun e w' => e = .returned (.tuple #[]) ∧
      ∃ F : List Nat, F.Perm F0 ∧ F.Pairwise (fun a b => ¬ ltC T b a) ∧ IntsAt w' (some ⟨gf, 0, none⟩) (nl F) ∧ w.grownBy w' (some gf) ∧ gf < w.heap.size ∧ base ≤ gf := by
  obtain ⟨hbg, hgl⟩ := hown.lt gf rfl
  have hH : Go.Sort.Holds (fun (c : Nat) => Value.int .i64 (c : Int)) w gf 0 F0.toArray := fun j hj => by
    simp at hj
    obtain ⟨g', cap', hv, -, -, -, -, hc, hf⟩ := owns_block hown (by omega)
    simp only [Value.slice.injEq, Option.some.injEq, Addr.mk.injEq] at hv
    obtain ⟨⟨rfl, -⟩, -, rfl⟩ := hv
    refine ⟨?_, by rw [Nat.zero_add]; exact hf j⟩
    have := hc j _ (nv_get (List.getElem?_eq_getElem hj))
    rw [Nat.zero_add, this]
    simp [hj]
  have hcmp : Go.Proofs.CmpLays1 Try.prog 20 #[.pointer (some ⟨tb, 0, none⟩)] (fun (c : Nat) => Value.int .i64 (c : Int)) (cfc T) gf 0 F0.toArray.size w := fun m os dk _ x y => by
    have hg := grown_sortW (fun (c : Nat) => Value.int .i64 (c : Int)) w gf 0 m dk os hgl
    have hbW : Below base W1 (Go.Proofs.sortWorld (fun (c : Nat) => Value.int .i64 (c : Int)) w gf 0 m dk os) := hb.grown hg (by have := hb.size; omega) (fun k hk => by cases hk; exact hbg)
    have := cutcmp_any x y (Go.Proofs.sortWorld (fun (c : Nat) => Value.int .i64 (c : Int)) w gf 0 m dk os) tb p N T hl (h.mono hB hbW) (by have := hbW.size; omega) ((hbW.cell (p := ⟨tb, 0, none⟩) (show tb < _ by omega)).trans htb)
    exact this.mono fun e w' ⟨h1, q, os', h2⟩ => ⟨h1, q, os', h2⟩
  have hs := Try.slices_SortFunc (fun (c : Nat) => Value.int .i64 (c : Int)) (fun _ => rfl) (cfc T) (swo_cfc T) 20 #[.pointer (some ⟨tb, 0, none⟩)] gf 0 capf F0.toArray w (enters_of Try.func20 (by kernel_rfl) rfl) hcmp hH hgl (by simp; omega)
  have e0 : F0.toArray.size = F0.length := by simp
  rw [e0] at hs
  refine hs.mono fun e w' ⟨he, d', n, os, hp, hso, hw⟩ => ⟨he, d'.toList, ?_, ?_, ?_, ?_, hgl, hbg⟩
  · have := hp.2.2
    have h1 := hp.1
    simp at h1
    rw [show d'.extract 0 F0.length = d' from by rw [← h1]; simp, show F0.toArray.extract 0 F0.length = F0.toArray from by rw [← e0]; simp] at this
    simpa using this
  · rw [List.pairwise_iff_getElem]
    intro i j hi hj hij
    have h1 := hp.1
    simp at h1 hi hj
    have := hso i j (Nat.zero_le _) hij (by omega)
    rw [getElem!_pos d' j hj, getElem!_pos d' i hi] at this
    simp only [Array.getElem_toList]
    intro hlt
    rw [(ltOf_cfc T _ _).2 hlt] at this
    cases this
  · rw [hw]
    have h1 := hp.1
    simp at h1
    have hh : Go.Sort.Holds (fun (c : Nat) => Value.int .i64 (c : Int)) (Go.Proofs.sortWorld (fun (c : Nat) => Value.int .i64 (c : Int)) w gf 0 n d' os) gf 0 d' := by
      have a := Go.Sort.holds_putRow (fun (c : Nat) => Value.int .i64 (c : Int)) (Go.Sort.ahead w n) gf 0 F0.toArray d' (fun j hj => hH j hj) (by simp [h1])
      exact Go.Sort.holds_grow _ _ os gf 0 d' (by rw [Go.Sort.size_putRow]; exact hgl) a
    refine fun _ => ⟨gf, 0, rfl, ?_, fun i hi => ?_⟩
    · have := (grown_sortW (fun (c : Nat) => Value.int .i64 (c : Int)) w gf 0 n d' os hgl).size
      omega
    · rw [nl_length] at hi
      simp at hi
      rw [(hh i hi).1, nl_get (x := d'[i]!) (by rw [getElem!_pos d' i hi]; simp [hi])]
  · rw [hw]; exact grown_sortW _ w gf 0 n d' os hgl
end Go.Proofs.Ytknioobpoieohaa

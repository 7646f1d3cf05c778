/- Sort, Compact and Clone of an owned row of numbers; the numbers that are there, rising. -/
import Derived.Test.YtknioobpoieohaaGreatRowFam
import Derived.Test.YtknioobpoieohaaGreatCert1
namespace Go.Proofs.YtknioobpoieohaaGreat
set_option linter.unusedVariables false
set_option linter.unusedSimpArgs false
open Go.RowKit Go.Sort
theorem upto_law (zs : List Int) (hs : zs.Pairwise (· ≤ ·)) : ∀ m, m ≤ zs.length →
    (Lib.compactUpTo zs.toArray m).Pairwise (· < ·) ∧ ∀ x, x ∈ Lib.compactUpTo zs.toArray m ↔ ∃ j, ∃ h : j < zs.length, j < m ∧ zs[j] = x := by
  have hle : ∀ i j (hi : i < zs.length) (hj : j < zs.length), i ≤ j → zs[i] ≤ zs[j] := fun i j hi hj h => by
    by_cases e : i = j
    · subst e; exact Int.le_refl _
    · exact List.pairwise_iff_getElem.1 hs i j hi hj (by omega)
  intro m
  induction m with
  | zero => intro _; exact ⟨by simp [Lib.compactUpTo], fun x => ⟨fun h => by simp [Lib.compactUpTo] at h, fun ⟨j, _, h, _⟩ => by omega⟩⟩
  | succ m ih =>
    intro hm
    obtain ⟨h1, h2⟩ := ih (by omega)
    have hml : m < zs.length := by omega
    have hd : zs.toArray[m]! = zs[m] := by simp [getElem!_pos, hml]
    rw [Lib.compactUpTo_succ]
    cases hk : Lib.keeps zs.toArray m with
    | true =>
      simp only [if_true, hd]
      have hlt : ∀ x ∈ Lib.compactUpTo zs.toArray m, x < zs[m] := by
        intro x hx
        obtain ⟨j, hj, hjm, rfl⟩ := (h2 x).1 hx
        have hm0 : 0 < m := by omega
        have hne : zs[m] ≠ zs[m - 1] := by
          intro e
          have := hk
          simp [Lib.keeps, getElem!_pos, hml, show m - 1 < zs.length by omega, e] at this
          omega
        have q1 := hle j (m - 1) hj (by omega) (by omega)
        have q2 := hle (m - 1) m (by omega) hml (by omega)
        omega
      refine ⟨List.pairwise_append.2 ⟨h1, by simp, fun a ha b hb => by simp at hb; subst hb; exact hlt a ha⟩, fun x => ?_⟩
      rw [List.mem_append, h2]
      constructor
      · rintro (⟨j, hj, hjm, e⟩ | hx)
        · exact ⟨j, hj, by omega, e⟩
        · simp at hx; exact ⟨m, hml, by omega, hx.symm⟩
      · rintro ⟨j, hj, hjm, e⟩
        by_cases q : j = m
        · subst q; right; simp [e]
        · exact .inl ⟨j, hj, by omega, e⟩
    | false =>
      simp only [Bool.false_eq_true, if_false, List.append_nil]
      refine ⟨h1, fun x => ?_⟩
      rw [h2]
      constructor
      · rintro ⟨j, hj, hjm, e⟩; exact ⟨j, hj, by omega, e⟩
      · rintro ⟨j, hj, hjm, e⟩
        by_cases q : j = m
        · subst q
          have h := hk
          have hj0 : j ≠ 0 := by rintro rfl; simp [Lib.keeps] at h
          refine ⟨j - 1, by omega, by omega, ?_⟩
          simp [Lib.keeps, getElem!_pos, hj, show j - 1 < zs.length by omega] at h
          first | exact h.2.symm.trans e | (rw [← e]; first | exact h.2 | exact h.2.symm | omega)
        · exact ⟨j, hj, by omega, e⟩
/-- The numbers that are there, rising, each once. -/
def uniq (zs : List Int) : List Int := Lib.compact (zs.mergeSort fun x y => decide (x ≤ y))
theorem sorted_le (zs : List Int) : (zs.mergeSort fun x y => decide (x ≤ y)).Pairwise (· ≤ ·) := by
  have := List.pairwise_mergeSort (le := fun x y : Int => decide (x ≤ y)) (fun a b c => by simp; omega) (fun a b => by simp; omega) zs
  simpa using this
theorem uniq_lt (zs : List Int) : (uniq zs).Pairwise (· < ·) := (upto_law _ (sorted_le zs) _ (Nat.le_refl _)).1
theorem uniq_mem (zs : List Int) (x : Int) : x ∈ uniq zs ↔ x ∈ zs := by
  unfold uniq Lib.compact
  rw [(upto_law _ (sorted_le zs) _ (Nat.le_refl _)).2]
  constructor
  · rintro ⟨j, hj, _, rfl⟩
    exact (List.mergeSort_perm zs _).subset (List.getElem_mem hj)
  · intro h
    obtain ⟨j, hj, e⟩ := List.getElem_of_mem ((List.mergeSort_perm zs fun x y => decide (x ≤ y)).symm.subset h)
    exact ⟨j, hj, hj, e⟩
theorem uniq_length (zs : List Int) : (uniq zs).length ≤ zs.length := by
  have := Lib.compact_length_le (zs.mergeSort fun x y => decide (x ≤ y))
  rwa [List.length_mergeSort] at this
theorem grown_trans {a b c : World} {row : Option Nat} (h : a.grownBy b row) (k : b.grownBy c row) : a.grownBy c row :=
  ⟨k.os.trans h.os, k.tape.trans h.tape, k.output.trans h.output, Nat.le_trans h.size k.size, fun i hi hne => (k.block i (Nat.lt_of_lt_of_le hi h.size) hne).trans (h.block i hi hne)⟩
theorem grown_setCells (b : Nat) : ∀ (vs : List Value) (o : Nat) (w : World), w.grownBy (w.setCells b o vs) (some b)
  | [], _, w => ⟨rfl, rfl, rfl, Nat.le_refl _, fun _ _ _ => rfl⟩
  | v :: vs, o, w => grown_trans (grown_set w b o v) (grown_setCells b vs (o + 1) _)
/-- slices.Sort of an owned row. -/
theorem sort_own {w : World} {base n : Nat} {v : Value} {zs : List Int} (h : w.ownsRow base 3 1 v n (zs.map (Value.int .i64))) (hn : n = zs.length) (h0 : 0 < n) (hl : n ≤ 100000) :
    Calls Tryz.prog 55 #[v] w fun r w' => r = .returned (.tuple #[]) ∧ w'.ownsRow base 3 1 v n ((zs.mergeSort fun x y => decide (x ≤ y)).map (Value.int .i64)) ∧ w.grownBy w' v.ownBlock := by
  obtain ⟨h1, h2⟩ := h
  rcases h2 with ⟨_, h2⟩ | ⟨g, cap, cur, rfl, hg, hh, hc, hm, hs, ht⟩
  · omega
  · subst hn
    rw [Nat.mul_one] at ht
    refine (Tryz.slices_Sort_int g 0 cap zs w (holds_of_blockI hh ht) (Array.getElem?_eq_some_iff.1 hh).1 (by first | omega | (simp; omega) | (simp at hl ⊢; omega))).mono ?_
    rintro r w' ⟨rfl, q, os, rfl⟩
    refine ⟨rfl, ⟨by simp [List.length_mergeSort], .inr ⟨g, cap, _, rfl, hg, heap_sortedI _ hh, hc, hm, ?_, ?_⟩⟩, grownBy_sortedI _⟩
    · simpa [putCells, Array.size_mapIdx] using hs
    · have h3 := take_putCellsI cur (zs.mergeSort fun x y => decide (x ≤ y)) (by rw [List.length_mergeSort]; omega)
      rw [List.length_mergeSort] at h3
      rw [Nat.mul_one]
      exact h3
/-- slices.Compact of an owned row. -/
theorem compact_own {w : World} {base n : Nat} {v : Value} {zs : List Int} (h : w.ownsRow base 3 1 v n (zs.map (Value.int .i64))) (hn : n = zs.length) (h0 : 0 < n) :
    Calls Tryz.prog 56 #[v] w fun r w' => ∃ g cap, r = .returned (.slice (some ⟨g, 0, none⟩) (Lib.compact zs).length cap) ∧ (∀ j, j < (Lib.compact zs).length → w'.cell? ⟨g, 0 + j, none⟩ = some (.int .i64 ((Lib.compact zs).getD j 0))) ∧ w.grownBy w' v.ownBlock := by
  obtain ⟨g, cap, rfl, hg, hlt, hc, hm, hcell, hfr⟩ := owns_block h h0
  subst hn
  refine (Tryz.slices_Compact_int_cells g 0 zs.length cap zs w (Nat.le_refl _) (by unfold maxLen at hm; omega) hc ?_ fun j _ => hfr _).mono ?_
  · intro j hj
    rw [Nat.zero_add]
    refine hcell j _ ?_
    simp [List.getD_eq_getElem?_getD, List.getElem?_eq_getElem hj, hj]
  · rintro r w' ⟨rfl, q, rfl⟩
    have hle := Lib.compact_length_le zs
    rw [List.take_length]
    refine ⟨g, cap, rfl, fun j hj => ?_, ?_⟩
    · rw [World.cell?_setCells_in g _ 0 (w.drewN q) (fun t ht => ?_) j (by simp; omega)]
      · simp [List.getElem_append_left, hj, List.getD_eq_getElem?_getD]
      · simp at ht
        have ht' : t < zs.length := by omega
        have := hcell t (.int .i64 zs[t]) (by simp [ht'])
        rw [Nat.zero_add]
        show (w.cell? ⟨g, t, none⟩).isSome = true
        rw [this]; rfl
    · exact grown_trans (row := some g) (show w.grownBy (w.drewN q) (some g) from ⟨rfl, rfl, rfl, Nat.le_refl _, fun _ _ _ => rfl⟩) (grown_setCells g _ 0 (w.drewN q))
end Go.Proofs.YtknioobpoieohaaGreat

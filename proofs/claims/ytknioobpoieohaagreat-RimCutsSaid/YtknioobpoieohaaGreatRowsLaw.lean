/- Sort and Compact of an owned row, empty or not; rows of rows in memory. -/
import Derived.Test.YtknioobpoieohaaGreatOwnSort
import Derived.Test.YtknioobpoieohaaGreatRowFam
import Derived.Laws.OwnMore
namespace Go.Proofs.YtknioobpoieohaaGreat
set_option linter.unusedVariables false
set_option linter.unusedSimpArgs false
open Go.RowKit
theorem owns_cells_set : ∀ (vs : List Value) (o : Nat) {w : World} {base g cap n : Nat} {e : TypeId} {xs : List Value}, w.ownsRow base e 1 (.slice (some ⟨g, 0, none⟩) n cap) n xs → o + vs.length ≤ n →
    ∃ ys, (w.setCells g o vs).ownsRow base e 1 (.slice (some ⟨g, 0, none⟩) n cap) n ys ∧ ys.length = xs.length ∧ (∀ i, i < o → ys[i]? = xs[i]?) ∧ ∀ i, i < vs.length → ys[o + i]? = vs[i]?
  | [], o, w, base, g, cap, n, e, xs, h, hl => ⟨xs, h, rfl, fun _ _ => rfl, fun i hi => by simp at hi⟩
  | v :: vs, o, w, base, g, cap, n, e, xs, h, hl => by
    simp only [List.length_cons] at hl
    have hx : xs.length = n := by have := h.1; simpa using this
    obtain ⟨ys, h1, h2, h3, h4⟩ := owns_cells_set vs (o + 1) (h.stored o v).1 (by omega)
    refine ⟨ys, h1, by simpa using h2, fun i hi => ?_, fun i hi => ?_⟩
    · rw [h3 i (by omega), List.getElem?_set_ne (by omega)]
    · match i with
      | 0 =>
        rw [Nat.add_zero, h3 o (by omega), List.getElem?_set_self (by omega)]
        rfl
      | i + 1 =>
        have := h4 i (by simp at hi; omega)
        rw [show o + (i + 1) = o + 1 + i by omega, this]
        rfl
theorem owns_cut {w : World} {base : Nat} {e : TypeId} {g cap m n : Nat} {xs zs : List Value} (h : w.ownsRow base e 1 (.slice (some ⟨g, 0, none⟩) n cap) n (xs ++ zs)) (hm : xs.length = m) : w.ownsRow base e 1 (.slice (some ⟨g, 0, none⟩) m cap) m xs := by
  obtain ⟨hl, h⟩ := h
  simp at hl
  refine ⟨by simp [hm], ?_⟩
  rcases h with ⟨hv, _⟩ | ⟨g', cap', cur, hv, hb, hg, hc, hm', hs, ht⟩
  · cases hv
  · simp only [Value.slice.injEq, Option.some.injEq, Addr.mk.injEq] at hv
    obtain ⟨⟨rfl, -⟩, -, rfl⟩ := hv
    refine .inr ⟨_, _, cur, rfl, hb, hg, by omega, hm', hs, ?_⟩
    have := congrArg (List.take m) ht
    rw [List.take_take, List.take_append_of_le_length (by omega), List.take_of_length_le (l := xs) (by omega)] at this
    rw [← this]
    congr 1
    omega
theorem grown_refl (w : World) (row : Option Nat) : w.grownBy w row := ⟨rfl, rfl, rfl, Nat.le_refl _, fun _ _ _ => rfl⟩
theorem owns_nil_eq {w : World} {base : Nat} {e : TypeId} {v : Value} {xs : List Value} (h : w.ownsRow base e 1 v 0 xs) : ∃ a c, v = .slice a 0 c := owns_slice h
theorem sort_zs {w : World} {base : Nat} {v : Value} {zs : List Int} (h : w.ownsRow base 3 1 v zs.length (ic zs)) (hl : zs.length ≤ 100000) :
    Calls Tryz.prog 55 #[v] w fun r w' => r = .returned (.tuple #[]) ∧ w'.ownsRow base 3 1 v zs.length (ic (zs.mergeSort fun x y => decide (x ≤ y))) ∧ w.grownBy w' v.ownBlock := by
  by_cases h0 : zs = []
  · subst h0
    obtain ⟨a, c, rfl⟩ := owns_slice h
    exact (Tryz.slices_Sort_int_none a c w).mono fun r w' ⟨h1, h2⟩ => ⟨h1, by rw [h2]; simpa using h, by rw [h2]; exact grown_refl _ _⟩
  · exact sort_own h rfl (List.length_pos_iff.2 h0) hl
theorem compact_zs {w : World} {base : Nat} {v : Value} {zs : List Int} (h : w.ownsRow base 3 1 v zs.length (ic zs)) :
    Calls Tryz.prog 56 #[v] w fun r w' => ∃ v', r = .returned v' ∧ w'.ownsRow base 3 1 v' (Lib.compact zs).length (ic (Lib.compact zs)) ∧ w.grownBy w' v.ownBlock ∧ v'.ownBlock = v.ownBlock := by
  by_cases h0 : zs = []
  · subst h0
    obtain ⟨a, c, rfl⟩ := owns_slice h
    exact (Tryz.slices_Compact_int_empty a c w).mono fun r w' ⟨h1, h2⟩ => ⟨_, h1, by rw [h2]; exact h, by rw [h2]; exact grown_refl _ _, rfl⟩
  · obtain ⟨g, cap, rfl, hg, hlt, hc, hm, hcell, hfr⟩ := owns_block h (List.length_pos_iff.2 h0)
    refine (Tryz.slices_Compact_int_cells g 0 zs.length cap zs w (Nat.le_refl _) (by unfold maxLen at hm; omega) hc ?_ fun j _ => hfr _).mono ?_
    · intro j hj
      rw [Nat.zero_add]
      refine hcell j _ ?_
      simp [ic, List.getD_eq_getElem?_getD, List.getElem?_eq_getElem hj, hj]
    · rintro r w' ⟨rfl, q, rfl⟩
      have hle := Lib.compact_length_le zs
      rw [List.take_length]
      have hd : (w.drewN q).ownsRow base 3 1 (.slice (some ⟨g, 0, none⟩) zs.length cap) zs.length (ic zs) := h
      obtain ⟨ys, h1, h2, -, h4⟩ := owns_cells_set ((Lib.compact zs ++ List.replicate (zs.length - (Lib.compact zs).length) 0).map (Value.int .i64)) 0 hd (by simp; omega)
      have hy : ys = ic (Lib.compact zs) ++ ic (List.replicate (zs.length - (Lib.compact zs).length) 0) := by
        have e : (Lib.compact zs ++ List.replicate (zs.length - (Lib.compact zs).length) 0).map (Value.int .i64) = ic (Lib.compact zs) ++ ic (List.replicate (zs.length - (Lib.compact zs).length) 0) := by simp [ic]
        rw [← e]
        apply List.ext_getElem?
        intro i
        by_cases hi : i < ((Lib.compact zs ++ List.replicate (zs.length - (Lib.compact zs).length) 0).map (Value.int .i64)).length
        · have := h4 i hi
          rwa [Nat.zero_add] at this
        · have hz : (ic zs).length = zs.length := by simp [ic]
          simp only [List.length_map, List.length_append, List.length_replicate] at hi
          rw [List.getElem?_eq_none (by omega), List.getElem?_eq_none (by simp; omega)]
      rw [hy] at h1
      exact ⟨_, rfl, owns_cut h1 (by simp [ic]), grown_trans (row := some g) (show w.grownBy (w.drewN q) (some g) from ⟨rfl, rfl, rfl, Nat.le_refl _, fun _ _ => fun _ => rfl⟩) (grown_setCells g _ 0 (w.drewN q)), rfl⟩
/-- A row of m rows of ints lies at an address. -/
def MatAt (w : World) (ao : Option Addr) (m : Nat) (R : Nat → List Int) : Prop :=
  0 < m → ∃ b off, ao = some ⟨b, off, none⟩ ∧ b < w.heap.size ∧ ∀ i, i < m → ∃ ra rc, w.cell? ⟨b, off + i, none⟩ = some (.slice ra (R i).length rc) ∧ IntsAt w ra (R i)
theorem MatAt.mono {w w' : World} {ao : Option Addr} {m : Nat} {R : Nat → List Int} {B : Nat} (h : MatAt w ao m R) (hB : w.heap.size ≤ B) (hb : Below B w w') : MatAt w' ao m R := by
  intro h0
  obtain ⟨b, off, rfl, hlt, hc⟩ := h h0
  refine ⟨b, off, rfl, by have := hb.size; omega, fun i hi => ?_⟩
  obtain ⟨ra, rc, h1, h2⟩ := hc i hi
  exact ⟨ra, rc, (hb.cell (p := ⟨b, _, none⟩) (show b < B by omega)).trans h1, h2.mono hB hb⟩
/-- A row of its own, of rows each its own. -/
theorem mat_of {w : World} {g base m : Nat} {vs : Nat → Value} {R : Nat → List Int} (h : RowIs w g 26 ((List.range m).map vs)) (hr : ∀ i, i < m → w.ownsRow base 3 1 (vs i) (R i).length (ic (R i))) : MatAt w (some ⟨g, 0, none⟩) m R := by
  intro h0
  refine ⟨g, 0, rfl, h.lt, fun i hi => ?_⟩
  obtain ⟨a, c, hv, hI⟩ := owns_ic (hr i hi) rfl
  refine ⟨a, c, ?_, hI⟩
  rw [Nat.zero_add]
  exact h.cell (by simp [hi, hv])
/-- Each value of the family owns its own row of ints. -/
def FamI {ι : Type} (w : World) (base : Nat) (vs : ι → Value) (R : ι → List Int) : Prop :=
  (∀ i, w.ownsRow base 3 1 (vs i) (R i).length (ic (R i))) ∧ ∀ i j, i ≠ j → (vs i).ownBlock = none ∨ (vs i).ownBlock ≠ (vs j).ownBlock
theorem FamI.of {ι : Type} {w : World} {base : Nat} {vs : ι → Value} {E : ι → List Nat} (h : Fam w base vs E) : FamI w base vs (fun i => (E i).map fun (x : Nat) => (x : Int)) := by
  refine ⟨fun i => ?_, h.2⟩
  have h1 := h.1 i
  have e : ic ((E i).map fun (x : Nat) => (x : Int)) = nv (E i) := by simp [nv, ic]
  rw [e, List.length_map]
  exact h1
theorem FamI.more {ι : Type} {w w' : World} {base : Nat} {vs : ι → Value} {R : ι → List Int} (h : FamI w base vs R) (hb : Below w.heap.size w w') : FamI w' base vs R :=
  ⟨fun i => owns_below (h.1 i) hb, h.2⟩
theorem FamI.other {ι : Type} {w w' : World} {base b : Nat} {vs : ι → Value} {R : ι → List Int} (h : FamI w base vs R) (hg : w.grownBy w' (some b)) (hb : b < base) : FamI w' base vs R :=
  ⟨fun i => (h.1 i).kept hg (by
    cases e : (vs i).ownBlock with
    | none => exact .inl rfl
    | some g => have := ((h.1 i).lt g e).1; exact .inr (by simp; omega)), h.2⟩
theorem FamI.put {ι : Type} [DecidableEq ι] {w w' : World} {base : Nat} {vs : ι → Value} {R : ι → List Int} (h : FamI w base vs R) (i : ι) (v' : Value) (xs : List Int) (hg : w.grownBy w' (vs i).ownBlock)
    (ho : w'.ownsRow base 3 1 v' xs.length (ic xs)) (hb : v'.ownBlock = (vs i).ownBlock) : FamI w' base (fun j => if j = i then v' else vs j) (fun j => if j = i then xs else R j) := by
  refine ⟨fun j => ?_, fun j k hjk => ?_⟩
  · by_cases e : j = i
    · subst e; simpa using ho
    · simp only [e, if_false]
      exact (h.1 j).kept hg (h.2 j i e)
  · by_cases e : j = i
    · have hk : k ≠ i := fun e' => hjk (e.trans e'.symm)
      simp only [e, hk, if_true, if_false]
      rw [hb]
      exact h.2 i k (fun e' => hk e'.symm)
    · by_cases ek : k = i
      · simp only [e, ek, if_true, if_false]
        rw [hb]
        exact h.2 j i e
      · simp only [e, ek, if_false]
        exact h.2 j k hjk
end Go.Proofs.YtknioobpoieohaaGreat

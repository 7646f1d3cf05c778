/- Which bays touch: plain. -/
import Derived.Test.YtknioobpoieohaaGreatFaceLaw
import Derived.Test.YtknioobpoieohaaGreatRims
import Derived.Test.YtknioobpoieohaaGreatOwnSort
namespace Go.Proofs.YtknioobpoieohaaGreat
set_option linter.unusedVariables false
set_option linter.unusedSimpArgs false
open Go.RowKit
theorem wrapT (n : Nat) (h : n ≤ 100000) : IntKind.i64.wrap (n : Int) = (n : Int) := by simp [IntKind.wrap, IntKind.bits, IntKind.signed]; omega
/-- The bay on the other side of the edge that a corner faces. -/
def obay (T : List Tr) (bays : List Int) (c : Nat) : Int := I! bays ((opp T (c : Int)).toNat / 3)
/-- Is there another bay there? -/
def crossB (T : List Tr) (bays : List Int) (c : Nat) : Bool := decide (0 ≤ opp T (c : Int)) && decide (obay T bays c ≠ cbay bays c)
/-- The bays that are met at the first corners of one. -/
def tch (T : List Tr) (bays : List Int) (k u : Nat) : List Nat := ((List.range k).filter fun c => crossB T bays c && decide (cbay bays c = (u : Int))).map fun c => (obay T bays c).toNat
theorem tch_zero (T : List Tr) (bays : List Int) : tch T bays 0 = fun _ => [] := by funext u; rfl
theorem tch_no {T : List Tr} {bays : List Int} {k : Nat} (h : crossB T bays k = false) : tch T bays (k + 1) = tch T bays k := by
  funext u
  simp [tch, List.range_succ, h]
theorem tch_yes {T : List Tr} {bays : List Int} {k u v : Nat} (h : crossB T bays k = true) (hu : cbay bays k = u) (hv : obay T bays k = v) : (fun x => if x = u then tch T bays k u ++ [v] else tch T bays k x) = tch T bays (k + 1) := by
  funext x
  by_cases e : x = u
  · subst e
    simp [tch, List.range_succ, h, hu, hv]
  · have : ¬ ((u : Int) = (x : Int)) := by omega
    simp [tch, List.range_succ, h, hu, e, this]
theorem tch_le (T : List Tr) (bays : List Int) (k u : Nat) : (tch T bays k u).length ≤ k := by
  unfold tch
  rw [List.length_map]
  have := List.length_filter_le (fun c => crossB T bays c && decide (cbay bays c = (u : Int))) (List.range k)
  simpa using this
/-- Do two bays touch? -/
def touchB (T : List Tr) (bays : List Int) (a b : Int) : Bool := (List.range (3 * T.length)).any fun c => decide (0 ≤ opp T (c : Int)) && decide (a ≠ b) && decide (cbay bays c = a) && decide (obay T bays c = b)
/-- Those that touch one, of so many. -/
def touchL (T : List Tr) (bays : List Int) (m : Nat) (a : Nat) : List Int := ((List.range m).filter fun (b : Nat) => touchB T bays (a : Int) (b : Int)).map fun (b : Nat) => (b : Int)
theorem touchB_iff {T : List Tr} {bays : List Int} {a b : Int} : touchB T bays a b = true ↔ a ≠ b ∧ ∃ c, c < 3 * T.length ∧ 0 ≤ opp T (c : Nat) ∧ cbay bays c = a ∧ obay T bays c = b := by
  simp only [touchB, List.any_eq_true, List.mem_range, Bool.and_eq_true, decide_eq_true_eq]
  constructor
  · rintro ⟨c, hc, ⟨⟨h1, h2⟩, h3⟩, h4⟩
    exact ⟨h2, c, hc, h1, h3, h4⟩
  · rintro ⟨h2, c, hc, h1, h3, h4⟩
    exact ⟨c, hc, ⟨⟨⟨h1, h2⟩, h3⟩, h4⟩⟩
/-- Rising lists of the same numbers are one. -/
theorem lt_unique {xs ys : List Int} (hx : xs.Pairwise (· < ·)) (hy : ys.Pairwise (· < ·)) (h : ∀ a, a ∈ xs ↔ a ∈ ys) : xs = ys := by
  have nx : xs.Nodup := List.nodup_iff_pairwise_ne.2 (List.pairwise_iff_getElem.2 fun i j hi hj hij => by have := List.pairwise_iff_getElem.1 hx i j hi hj hij; omega)
  have ny : ys.Nodup := List.nodup_iff_pairwise_ne.2 (List.pairwise_iff_getElem.2 fun i j hi hj hij => by have := List.pairwise_iff_getElem.1 hy i j hi hj hij; omega)
  have p : xs.Perm ys := (List.perm_ext_iff_of_nodup nx ny).2 h
  exact p.eq_of_pairwise (le := fun x y => x < y) (fun a b _ _ h1 h2 => by omega) hx hy
theorem touchL_lt (T : List Tr) (bays : List Int) (m a : Nat) : (touchL T bays m a).Pairwise (· < ·) := by
  unfold touchL
  rw [List.pairwise_map]
  refine List.Pairwise.filter _ ?_
  rw [List.pairwise_iff_getElem]
  intro i j hi hj hij
  simp
  omega
theorem touchL_mem {T : List Tr} {bays : List Int} {m a : Nat} {x : Int} : x ∈ touchL T bays m a ↔ 0 ≤ x ∧ x < m ∧ touchB T bays (a : Int) x = true := by
  simp only [touchL, List.mem_map, List.mem_filter, List.mem_range]
  constructor
  · rintro ⟨b, ⟨h1, h2⟩, rfl⟩
    exact ⟨by omega, by omega, h2⟩
  · rintro ⟨h0, h1, h2⟩
    exact ⟨x.toNat, ⟨by omega, by rw [show ((x.toNat : Nat) : Int) = x by omega]; exact h2⟩, by omega⟩
/-- The bays of a row, rising, each once, are those that touch. -/
theorem uniq_tch {T : List Tr} {bays : List Int} {m : Nat} (hb : ∀ i, i < T.length → 0 ≤ I! bays i ∧ I! bays i < m) (ho : ∀ c : Nat, c < 3 * T.length → opp T (c : Int) < 3 * T.length) (u : Nat) :
    uniq ((tch T bays (3 * T.length) u).map fun (x : Nat) => (x : Int)) = touchL T bays m u := by
  refine lt_unique (uniq_lt _) (touchL_lt _ _ _ _) fun x => ?_
  rw [uniq_mem, touchL_mem, touchB_iff]
  simp only [tch, List.map_map, List.mem_map, List.mem_filter, List.mem_range, Bool.and_eq_true, decide_eq_true_eq, crossB, Function.comp]
  have rg : ∀ c : Nat, c < 3 * T.length → 0 ≤ opp T (c : Int) → 0 ≤ obay T bays c ∧ obay T bays c < m := fun c hc h0 => by
    have := ho c hc
    exact hb _ (by omega)
  constructor
  · rintro ⟨c, ⟨hc, ⟨h1, h2⟩, h3⟩, rfl⟩
    have := rg c hc h1
    refine ⟨by omega, by omega, ?_, c, hc, h1, h3, by omega⟩
    rw [← h3]
    omega
  · rintro ⟨h0, h1, h2, c, hc, h3, h4, h5⟩
    refine ⟨c, ⟨hc, ⟨h3, ?_⟩, h4⟩, by omega⟩
    rw [h4, h5]
    exact fun e => h2 e.symm
end Go.Proofs.YtknioobpoieohaaGreat

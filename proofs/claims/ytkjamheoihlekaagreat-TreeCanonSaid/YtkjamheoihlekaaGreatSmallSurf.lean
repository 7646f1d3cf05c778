/- A small surface: seen by deciding. -/
import Derived.Test.YtkjamheoihlekaaGreatCornerNew
namespace Go.Proofs.YtkjamheoihlekaaGreat
set_option linter.unusedVariables false
set_option linter.unusedSimpArgs false
open Go.RowKit
theorem belowN {P : Nat → Bool} {n : Nat} (h : (List.range n).all P = true) : ∀ i, i < n → P i = true := by simpa using h
def padjC (T : List Tr) (v : Int) (i k : Nat) : Bool := hasB (T! T i) v && hasB (T! T k) v && (List.range 3).any fun j => !(tg (T! T i) j == v) && hasB (T! T k) (tg (T! T i) j)
/-- A small surface, all vertices' triangles beside each other: seen by deciding. -/
def smallB (n : Nat) (T : List Tr) : Bool :=
  decide (n ≤ 4096) && decide (T.length ≤ 8192) &&
  ((List.range T.length).all fun i => decide (0 ≤ (T! T i).1 ∧ (T! T i).1 < n ∧ 0 ≤ (T! T i).2.1 ∧ (T! T i).2.1 < n ∧ 0 ≤ (T! T i).2.2 ∧ (T! T i).2.2 < n)) &&
  ((List.range T.length).all fun i => !loopB (T! T i)) &&
  ((List.range T.length).all fun b => (List.range T.length).all fun a => !(decide (a < b)) || (!twB (T! T a) (T! T b) && !mirB (T! T a) (T! T b))) &&
  ((List.range n).all fun v => (List.range T.length).any fun i => hasB (T! T i) (v : Int)) &&
  ((List.range n).all fun v => (List.range T.length).all fun i => (List.range T.length).all fun k => !(hasB (T! T i) (v : Int)) || !(hasB (T! T k) (v : Int)) || padjC T (v : Int) i k)
theorem surf_small {n : Nat} {T : List Tr} (h : smallB n T = true) : Surf n T := by
  unfold smallB at h
  simp only [Bool.and_eq_true, decide_eq_true_eq] at h
  obtain ⟨⟨⟨⟨⟨⟨h1, h2⟩, h3⟩, h4⟩, h5⟩, h6⟩, h7⟩ := h
  refine ⟨by omega, by omega, h2, ?_, ?_, ?_, ?_, ?_, ?_⟩
  · intro i hi j
    have hb := belowN h3 i hi
    simp only [decide_eq_true_eq] at hb
    match j with
    | 0 => exact ⟨hb.1, hb.2.1⟩
    | 1 => exact ⟨hb.2.2.1, hb.2.2.2.1⟩
    | _ + 2 => exact ⟨hb.2.2.2.2.1, hb.2.2.2.2.2⟩
  · intro i hi
    simpa using belowN h4 i hi
  · intro b a hb hab
    have := belowN (belowN h5 b hb) a (by omega)
    simp [hab] at this
    exact this.1
  · intro b a hb hab
    have := belowN (belowN h5 b hb) a (by omega)
    simp [hab] at this
    exact this.2
  · intro v h0 h1
    obtain ⟨n, rfl⟩ := Int.eq_ofNat_of_zero_le h0
    have := belowN h6 n (by omega)
    simpa using this
  · intro v h0 h1 i k hi hk ha hb
    obtain ⟨n, rfl⟩ := Int.eq_ofNat_of_zero_le h0
    have := belowN (belowN (belowN h7 n (by omega)) i hi) k hk
    rw [ha, hb] at this
    refine .step (.refl _) ?_
    simp only [padjC, Bool.not_true, Bool.false_or, Bool.and_eq_true, List.any_eq_true, List.mem_range, Bool.not_eq_true', beq_eq_false_iff_ne] at this
    obtain ⟨⟨h1, h2⟩, j, hj, h3, h4⟩ := this
    exact ⟨hi, hk, h1, h2, j, hj, h3, h4⟩
end Go.Proofs.YtkjamheoihlekaaGreat

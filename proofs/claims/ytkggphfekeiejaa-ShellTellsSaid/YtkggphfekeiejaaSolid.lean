/- Plain facts of the document's example: two tetrahedra side by side. -/
import Derived.Test.YtkggphfekeiejaaSurfAdj
import Derived.Test.YtkggphfekeiejaaSplit
namespace Go.Proofs.Ytkggphfekeiejaa
set_option linter.unusedVariables false
set_option linter.unusedSimpArgs false
open Go.RowKit
def solid : List Tr := [(0, 1, 2), (0, 3, 1), (1, 3, 2), (2, 3, 0)]
def twoS : List Tr := [(0, 1, 2), (0, 3, 1), (1, 3, 2), (2, 3, 0), (4, 5, 6), (4, 7, 5), (5, 7, 6), (6, 7, 4)]
theorem below8 {P : Nat → Bool} (h : (List.range 8).all P = true) : ∀ i, i < 8 → P i = true := by simpa using h
theorem twoS_vin : VIn 8 twoS := by
  intro i hi j
  have : ∀ i, i < 8 → ∀ t, T! twoS i = t → ∀ j, 0 ≤ tg t j ∧ tg t j < 8 := by
    intro i hi t e j
    have hb := below8 (P := fun i => decide (0 ≤ (T! twoS i).1 ∧ (T! twoS i).1 < 8 ∧ 0 ≤ (T! twoS i).2.1 ∧ (T! twoS i).2.1 < 8 ∧ 0 ≤ (T! twoS i).2.2 ∧ (T! twoS i).2.2 < 8)) (by decide +kernel) i hi
    simp only [decide_eq_true_eq] at hb
    rw [e] at hb
    match j with
    | 0 => exact ⟨hb.1, hb.2.1⟩
    | 1 => exact ⟨hb.2.2.1, hb.2.2.2.1⟩
    | _ + 2 => exact ⟨hb.2.2.2.2.1, hb.2.2.2.2.2⟩
  exact this i hi _ rfl j
def padjB (T : List Tr) (v : Int) (i k : Nat) : Bool := hasB (T! T i) v && hasB (T! T k) v && (List.range 3).any fun j => !(tg (T! T i) j == v) && hasB (T! T k) (tg (T! T i) j)
theorem padjB_iff {T : List Tr} {v : Int} {i k : Nat} (hi : i < T.length) (hk : k < T.length) (h : padjB T v i k = true) : PAdj T v i k := by
  simp only [padjB, Bool.and_eq_true, List.any_eq_true, List.mem_range, Bool.not_eq_true', beq_eq_false_iff_ne] at h
  obtain ⟨⟨h1, h2⟩, j, hj, h3, h4⟩ := h
  exact ⟨hi, hk, h1, h2, j, hj, h3, h4⟩
theorem twoS_pin (v : Int) (h0 : 0 ≤ v) (h1 : v < 8) : Unpinched twoS v := by
  intro i k hi hk ha hb
  obtain ⟨n, rfl⟩ := Int.eq_ofNat_of_zero_le h0
  have h := below8 (P := fun n => (List.range 8).all fun i => (List.range 8).all fun k => !(hasB (T! twoS i) (n : Int)) || !(hasB (T! twoS k) (n : Int)) || padjB twoS (n : Int) i k) (by decide +kernel) n (by omega)
  have h := below8 h i hi
  have h := below8 h k hk
  rw [ha, hb] at h
  exact .step (.refl _) (padjB_iff hi hk (by simpa using h))
theorem twoS_surf : Surf 8 twoS where
  n0 := by decide
  n1 := by decide
  t1 := by decide
  vin := twoS_vin
  noloop i hi := by
    have := below8 (P := fun i => !loopB (T! twoS i)) (by decide +kernel) i hi
    simpa using this
  tw b a hb hab := by
    have h := below8 (P := fun b => (List.range 8).all fun a => !(decide (a < b)) || !twB (T! twoS a) (T! twoS b)) (by decide +kernel) b hb
    have h := below8 h a (by have : b < 8 := hb; omega)
    simpa [hab] using h
  mir b a hb hab := by
    have h := below8 (P := fun b => (List.range 8).all fun a => !(decide (a < b)) || !mirB (T! twoS a) (T! twoS b)) (by decide +kernel) b hb
    have h := below8 h a (by have : b < 8 := hb; omega)
    simpa [hab] using h
  used v h0 h1 := by
    obtain ⟨n, rfl⟩ := Int.eq_ofNat_of_zero_le h0
    have h := below8 (P := fun n => (List.range 8).any fun i => hasB (T! twoS i) (n : Int)) (by decide +kernel) n (by omega)
    simp only [List.any_eq_true, List.mem_range] at h
    exact h
  pin v h0 h1 := twoS_pin v h0 h1
def twoL : Nat → Int := fun i => if i < 4 then 0 else 1
theorem twoS_nb : ∀ i, i < 8 → ∀ j, j < 8 → (nbB (T! twoS i) (T! twoS j) = true → twoL i = twoL j) ∧ (twoL i = twoL j → i = j ∨ nbB (T! twoS i) (T! twoS j) = true) := by
  intro i hi j hj
  have h := below8 (P := fun i => (List.range 8).all fun j => decide ((nbB (T! twoS i) (T! twoS j) = true → twoL i = twoL j) ∧ (twoL i = twoL j → i = j ∨ nbB (T! twoS i) (T! twoS j) = true))) (by decide +kernel) i hi
  have h := below8 h j hj
  exact of_decide_eq_true h
theorem twoS_shells : IsShells (NbA twoS) 8 twoL where
  nonneg i _ := by unfold twoL; split <;> omega
  clo i j hi hj a := ((twoS_nb i hi j hj).1 a.2.2).symm
  con i j hi hj e := by
    rcases (twoS_nb i hi j hj).2 e with rfl | h
    · exact .refl _
    · exact .step (.refl _) ⟨hi, hj, h⟩
  rg i hi m h0 h1 := by
    have hm : m = 0 := by unfold twoL at h1; split at h1 <;> omega
    exact ⟨0, by
      unfold twoL at h1
      split at h1 <;> omega, by rw [hm]; rfl⟩
theorem twoS_L {L : Nat → Int} (h : IsShells (Adj twoS) twoS.length L) : ∀ i, i < 8 → L i = twoL i := twoS_surf.shells_same h twoS_shells
theorem ofShell_congr {L M : Nat → Int} {n k : Nat} (h : ∀ i, i < n → L i = M i) : ofShell L n k = ofShell M n k := by
  unfold ofShell
  refine List.filter_congr fun i hi => ?_
  rw [h i (List.mem_range.1 hi)]
theorem partOf_congr {T : List Tr} {L M : Nat → Int} {n k : Nat} (h : ∀ i, i < n → L i = M i) : partOf T L n k = partOf T M n k := by
  unfold partOf
  rw [ofShell_congr h]
theorem twoS_cnt : cnt twoL 8 = 2 := by decide +kernel
theorem twoS_verts0 : vertsOf twoS (ofShell twoL 8 0) = [0, 1, 2, 3] := by
  rw [← refV_verts (T := twoS) (L := twoL) (n := 8) (N := 8) (fun i hi j => twoS_vin i hi j)]
  decide +kernel
theorem twoS_verts1 : vertsOf twoS (ofShell twoL 8 1) = [4, 5, 6, 7] := by
  rw [← refV_verts (T := twoS) (L := twoL) (n := 8) (N := 8) (fun i hi j => twoS_vin i hi j)]
  decide +kernel
theorem twoS_part0 : partOf twoS twoL 8 0 = ⟨4, solid, [0, 1, 2, 3], [0, 1, 2, 3]⟩ := by
  have h : ofShell twoL 8 0 = [0, 1, 2, 3] := by decide +kernel
  unfold partOf
  rw [twoS_verts0, h]
  rfl
theorem twoS_part1 : partOf twoS twoL 8 1 = ⟨4, solid, [4, 5, 6, 7], [4, 5, 6, 7]⟩ := by
  have h : ofShell twoL 8 1 = [4, 5, 6, 7] := by decide +kernel
  unfold partOf
  rw [twoS_verts1, h]
  rfl
end Go.Proofs.Ytkggphfekeiejaa

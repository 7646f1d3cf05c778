/- Numbers that came in as an argument, opened. -/
import Derived.Test.YtknioobpoieohaaOpenSoup
import Derived.Test.YtknioobpoieohaaIntsDef
namespace Go.Proofs.Ytknioobpoieohaa
set_option linter.unusedVariables false
set_option linter.unusedSimpArgs false
open Go.ChangeShapes Go.WideShapes Go.RowKit Go.Deep Go.Joins
section
variable {H : Type} {enc : TypeId × Value → H} {w : World} {base : Nat} {spare : Nat → Bool} {held : Bool}
set_option maxRecDepth 100000 in
theorem open_ints_arg {r : Reach} {b0 : Nat} {v : Value} {d : DataW H} {p : List MemPlace} (hv : Value.okWide Try.prog w r b0 25 v) (h : DataW.Trod enc Try.prog w base spare held 25 v d p) :
    ∃ (ao : Option Addr) (cap : Nat) (xs : List Int), v = .slice ao xs.length cap ∧ xs.length ≤ cap ∧ xs.length ≤ 9223372036854775807 ∧ IntsAt w ao xs := by
  have hC : Try.prog.cellsOf 3 = 1 := by kernel_rfl
  obtain ⟨a0, l0, c0, rfl⟩ := okWide_slice Try.underlying25 hv
  obtain ⟨fuel, h⟩ := h
  rcases open_slice (e := 3) (by kernel_rfl) h with ⟨e, -⟩ | ⟨a, len, cap, m, k, D, Pl, e, hb, hl, hm, hmm, -, hi⟩
  · obtain ⟨rfl, rfl, rfl⟩ : a0 = none ∧ l0 = 0 ∧ c0 = 0 := by simpa [Value.cells] using e
    exact ⟨none, 0, [], rfl, by simp, by simp, fun e => absurd rfl e⟩
  · obtain ⟨e1, e2, e3⟩ : some a = a0 ∧ len = l0 ∧ cap = c0 := by simp [Value.cells] at e; exact ⟨e.1.symm, e.2.1.symm, e.2.2.symm⟩
    subst e1 e2 e3
    have hlm : len ≤ m := by rw [hmm]; split <;> omega
    have hcell : ∀ i, ∃ t : Int, i < len → w.cell? (a.add i) = some (.int .i64 t) := by
      intro i
      by_cases hlt : i < len
      · obtain ⟨cs', hc, ht⟩ := hi i (by omega)
        rw [hC] at hc
        obtain ⟨_, hcl, hat⟩ := World.cells?_some hc
        match cs', hcl with
        | [c0], _ =>
          obtain ⟨x, e0, -, -⟩ := DataW.trod_int Try.underlying3 ht
          simp at e0
          subst e0
          have g0 := hat 0 (by omega)
          rw [Go.Deep.add_add] at g0
          exact ⟨x, fun _ => by simpa using g0⟩
      · exact ⟨0, fun h => absurd h hlt⟩
    obtain ⟨F, hF⟩ := Classical.skolem.1 hcell
    refine ⟨some a, cap, (List.range len).map F, by simp, by simpa using hl, by simp; unfold maxLen at hm; omega, fun hne => ?_⟩
    have hpos : 0 < len := by
      rcases Nat.eq_zero_or_pos len with rfl | h
      · simp at hne
      · exact h
    obtain ⟨b, off, spot⟩ := a
    have hs := hF 0 hpos
    have hspot : spot = none := by simpa [Addr.add] using World.cell?_spot hs
    subst hspot
    refine ⟨b, off, rfl, World.block_lt_of_cell? w _ hs, fun i hi => ?_⟩
    simp at hi
    have hT : I! ((List.range len).map F) i = F i := by simp [I!, List.getD_eq_getElem?_getD, hi]
    rw [hT]
    have := hF i hi
    simpa [Addr.add_lit] using this
end
end Go.Proofs.Ytknioobpoieohaa

/- Edges that came in as an argument, opened. -/
import Derived.Test.YtkjamheoihlekaaGreatOpenSoup
import Derived.Test.YtkjamheoihlekaaGreatTreePrune1
namespace Go.Proofs.YtkjamheoihlekaaGreat
set_option linter.unusedVariables false
set_option linter.unusedSimpArgs false
open Go.ChangeShapes Go.WideShapes Go.RowKit Go.Deep Go.Joins
section
variable {H : Type} {enc : TypeId × Value → H} {w : World} {base : Nat} {spare : Nat → Bool} {held : Bool}
theorem open_edge {n : Nat} {cs : List Value} {y : DataW H × List MemPlace} (hl : cs.length = 2) (h : DataW.trod enc Tryz.prog w base spare held n 40 cs = some y) : ∃ t : Int × Int, cs = [.int .i64 t.1, .int .i64 t.2] ∧ I64 t.1 ∧ I64 t.2 := by
  match cs, hl with
  | [c0, c1], _ =>
    obtain ⟨xs, k, -, -, -, hlen, hg⟩ := DataW.trod_array (e := 3) (n := 2) (by kernel_rfl) h
    match xs, hlen with
    | [y0, y1], _ =>
    have q1 : Tryz.prog.cellsOf 3 = 1 := by kernel_rfl
    have h0 := hg 0 (by omega)
    have h1 := hg 1 (by omega)
    simp [q1] at h0 h1
    obtain ⟨n0, e0, -, w0⟩ := DataW.trod_int Tryz.underlying3 h0
    obtain ⟨n1, e1, -, w1⟩ := DataW.trod_int Tryz.underlying3 h1
    simp at e0 e1
    subst e0
    subst e1
    simp [Lit.wf, IntKind.min, IntKind.max, IntKind.bits, IntKind.signed] at w0 w1
    exact ⟨(n0, n1), rfl, ⟨by show _ ≤ n0; omega, by show n0 ≤ _; omega⟩, ⟨by show _ ≤ n1; omega, by show n1 ≤ _; omega⟩⟩
set_option maxRecDepth 100000 in
theorem open_edges_arg {r : Reach} {b0 : Nat} {v : Value} {d : DataW H} {p : List MemPlace} (hv : Value.okWide Tryz.prog w r b0 34 v) (h : DataW.Trod enc Tryz.prog w base spare held 34 v d p) :
    ∃ (ao : Option Addr) (cap : Nat) (E : List (Int × Int)), v = .slice ao E.length cap ∧ E.length ≤ cap ∧ E.length ≤ 9223372036854775807 ∧ (ao = none ∨ ∃ b off, ao = some ⟨b, off, none⟩ ∨ E = []) ∧ EdgesAt w ao E ∧ EI64 E := by
  have hC : Tryz.prog.cellsOf 40 = 2 := by kernel_rfl
  obtain ⟨a0, l0, c0, rfl⟩ := okWide_slice Tryz.underlying34 hv
  obtain ⟨fuel, h⟩ := h
  rcases open_slice (e := 40) (by kernel_rfl) h with ⟨e, -⟩ | ⟨a, len, cap, m, k, D, Pl, e, hb, hl, hm, hmm, -, hi⟩
  · obtain ⟨rfl, rfl, rfl⟩ : a0 = none ∧ l0 = 0 ∧ c0 = 0 := by simpa [Value.cells] using e
    exact ⟨none, 0, [], rfl, by simp, by simp, .inl rfl, fun e => absurd rfl e, fun e he => by cases he⟩
  · obtain ⟨e1, e2, e3⟩ : some a = a0 ∧ len = l0 ∧ cap = c0 := by simp [Value.cells] at e; exact ⟨e.1.symm, e.2.1.symm, e.2.2.symm⟩
    subst e1 e2 e3
    have hlm : len ≤ m := by rw [hmm]; split <;> omega
    have hcell : ∀ i, ∃ t : Int × Int, i < len → w.cell? (a.add (i * 2)) = some (.int .i64 t.1) ∧ w.cell? (a.add (i * 2 + 1)) = some (.int .i64 t.2) ∧ I64 t.1 ∧ I64 t.2 := by
      intro i
      by_cases hlt : i < len
      · obtain ⟨cs', hc, ht⟩ := hi i (by omega)
        rw [hC] at hc
        obtain ⟨_, hcl, hat⟩ := World.cells?_some hc
        obtain ⟨t, rfl, i0, i1⟩ := open_edge hcl ht
        have g0 := hat 0 (by omega)
        have g1 := hat 1 (by omega)
        rw [Go.Deep.add_add] at g0 g1
        exact ⟨t, fun _ => ⟨by simpa using g0, by simpa using g1, i0, i1⟩⟩
      · exact ⟨(0, 0), fun h => absurd h hlt⟩
    obtain ⟨F, hF⟩ := Classical.skolem.1 hcell
    have hE : ∀ i, i < len → E! ((List.range len).map F) i = F i := fun i hi => by simp [E!, List.getD_eq_getElem?_getD, hi]
    have h64 : EI64 ((List.range len).map F) := fun e he => by
      obtain ⟨i, hi, rfl⟩ := List.mem_map.1 he
      exact (hF i (List.mem_range.1 hi)).2.2
    rcases Nat.eq_zero_or_pos len with h0 | hpos
    · subst h0
      exact ⟨some a, cap, [], rfl, by simp, by simp, .inr ⟨0, 0, .inr rfl⟩, fun e => absurd rfl e, fun e he => by cases he⟩
    obtain ⟨b, off, spot⟩ := a
    have hs := (hF 0 hpos).1
    have hspot : spot = none := by simpa [Addr.add] using World.cell?_spot hs
    subst hspot
    refine ⟨some ⟨b, off, none⟩, cap, (List.range len).map F, by simp, by simpa using hl, by simp; unfold maxLen at hm; omega, .inr ⟨b, off, .inl rfl⟩, fun hne => ?_, h64⟩
    refine ⟨b, off, rfl, World.block_lt_of_cell? w _ hs, fun i hi => ?_⟩
    simp at hi
    rw [hE i hi]
    have := hF i hi
    refine ⟨?_, ?_⟩
    · simpa [Addr.add_lit, Nat.add_assoc] using this.1
    · simpa [Addr.add_lit, Nat.add_assoc] using this.2.1
end
end Go.Proofs.YtkjamheoihlekaaGreat

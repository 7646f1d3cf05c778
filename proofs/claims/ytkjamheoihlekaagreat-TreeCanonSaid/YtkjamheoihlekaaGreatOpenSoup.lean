/- A surface that came in as an argument, opened: its number of vertices, its triangles in memory. Numbers that came in as an argument, opened. A byte that came in as an argument. A surface by value, its slice's room told. -/
import Derived.Test.YtkjamheoihlekaaGreatBase
import Derived.Lib.SmallJoins
import Derived.Deep.Slices
import Derived.Deep.Fields
import Derived.ChangeSame
import Derived.OpenShut
import Derived.Test.YtkjamheoihlekaaGreatRowl
namespace Go.Proofs.YtkjamheoihlekaaGreat
set_option linter.unusedVariables false
set_option linter.unusedSimpArgs false
open Go.ChangeShapes Go.WideShapes Go.RowKit Go.Deep Go.Joins
section
variable {H : Type} {enc : TypeId × Value → H} {w : World} {base : Nat} {spare : Nat → Bool} {held : Bool}
theorem open_tri {n : Nat} {cs : List Value} {y : DataW H × List MemPlace} (hl : cs.length = 3) (h : DataW.trod enc Tryz.prog w base spare held n 72 cs = some y) : ∃ t : Tr, cs = [.int .i64 t.1, .int .i64 t.2.1, .int .i64 t.2.2] := by
  match cs, hl with
  | [c0, c1, c2], _ =>
    obtain ⟨y0, y1, y2, k, -, h0, h1, h2⟩ := trod_array3 (e := 3) (by kernel_rfl) (by kernel_rfl) h
    obtain ⟨n0, e0, -, -⟩ := DataW.trod_int Tryz.underlying3 h0
    obtain ⟨n1, e1, -, -⟩ := DataW.trod_int Tryz.underlying3 h1
    obtain ⟨n2, e2, -, -⟩ := DataW.trod_int Tryz.underlying3 h2
    simp at e0 e1 e2
    subst e0
    subst e1
    subst e2
    exact ⟨(n0, n1, n2), rfl⟩
theorem open_tris {n : Nat} {cs : List Value} {y : DataW H × List MemPlace} (h : DataW.trod enc Tryz.prog w base spare held n 22 cs = some y) : ∃ (ao : Option Addr) (cap : Nat) (T : List Tr), cs = [.slice ao T.length cap] ∧ T.length ≤ 9223372036854775807 ∧ TrisAt w ao T := by
  have hC : Tryz.prog.cellsOf 72 = 3 := by kernel_rfl
  rcases open_slice (e := 72) (by kernel_rfl) h with ⟨rfl, -⟩ | ⟨a, len, cap, m, k, D, Pl, rfl, hb, hl, hm, hmm, -, hi⟩
  · exact ⟨none, 0, [], rfl, by simp, fun e => absurd rfl e⟩
  · have hlm : len ≤ m := by rw [hmm]; split <;> omega
    have hcell : ∀ i, ∃ t : Tr, i < len → w.cell? (a.add (i * 3)) = some (.int .i64 t.1) ∧ w.cell? (a.add (i * 3 + 1)) = some (.int .i64 t.2.1) ∧ w.cell? (a.add (i * 3 + 2)) = some (.int .i64 t.2.2) := by
      intro i
      by_cases hlt : i < len
      · obtain ⟨cs', hc, ht⟩ := hi i (by omega)
        rw [hC] at hc
        obtain ⟨_, hcl, hat⟩ := World.cells?_some hc
        obtain ⟨t, rfl⟩ := open_tri hcl ht
        have g0 := hat 0 (by omega)
        have g1 := hat 1 (by omega)
        have g2 := hat 2 (by omega)
        rw [Go.Deep.add_add] at g0 g1 g2
        exact ⟨t, fun _ => ⟨by simpa using g0, by simpa using g1, by simpa using g2⟩⟩
      · exact ⟨(0, 0, 0), fun h => absurd h hlt⟩
    obtain ⟨F, hF⟩ := Classical.skolem.1 hcell
    refine ⟨some a, cap, (List.range len).map F, by simp, by simp; unfold maxLen at hm; omega, fun hne => ?_⟩
    have hpos : 0 < len := by
      rcases Nat.eq_zero_or_pos len with rfl | h
      · simp at hne
      · exact h
    obtain ⟨b, off, spot⟩ := a
    have hs := (hF 0 hpos).1
    have hspot : spot = none := by simpa [Addr.add] using World.cell?_spot hs
    subst hspot
    refine ⟨b, off, rfl, World.block_lt_of_cell? w _ hs, fun i hi => ?_⟩
    simp at hi
    have hT : T! ((List.range len).map F) i = F i := by simp [T!, List.getD_eq_getElem?_getD, hi]
    rw [hT]
    have := hF i hi
    simpa [Addr.add_lit, Nat.add_assoc] using this
set_option maxRecDepth 100000 in
/-- A surface by value. -/
theorem open_soup {r : Reach} {b0 : Nat} {v : Value} {d : DataW H} {p : List MemPlace} (hv : Value.okWide Tryz.prog w r b0 24 v) (h : DataW.Trod enc Tryz.prog w base spare held 24 v d p) :
    ∃ (N : Int) (ao : Option Addr) (cap : Nat) (T : List Tr), v = .agg #[.int .i64 N, .slice ao T.length cap] ∧ T.length ≤ 9223372036854775807 ∧ TrisAt w ao T := by
  obtain ⟨v0, v1, y0, y1, n, rfl, -, -, h0, h1⟩ := open_agg2 Tryz.underlying24 (by kernel_rfl) (by kernel_rfl) hv h
  obtain ⟨N, e0, -, -⟩ := DataW.trod_int Tryz.underlying3 h0
  obtain ⟨ao, cap, T, e1, hl, hT⟩ := open_tris h1
  simp at e0 e1
  subst e0
  subst e1
  exact ⟨N, ao, cap, T, rfl, hl, hT⟩
end
section
variable {H : Type} {enc : TypeId × Value → H} {w : World} {base : Nat} {spare : Nat → Bool} {held : Bool}
set_option maxRecDepth 100000 in
theorem open_ints_arg {r : Reach} {b0 : Nat} {v : Value} {d : DataW H} {p : List MemPlace} (hv : Value.okWide Tryz.prog w r b0 28 v) (h : DataW.Trod enc Tryz.prog w base spare held 28 v d p) :
    ∃ (ao : Option Addr) (cap : Nat) (xs : List Int), v = .slice ao xs.length cap ∧ xs.length ≤ cap ∧ xs.length ≤ 9223372036854775807 ∧ IntsAt w ao xs := by
  have hC : Tryz.prog.cellsOf 3 = 1 := by kernel_rfl
  obtain ⟨a0, l0, c0, rfl⟩ := okWide_slice Tryz.underlying28 hv
  obtain ⟨fuel, h⟩ := h
  rcases open_slice (e := 3) (by kernel_rfl) h with ⟨e, -⟩ | ⟨a, len, cap, m, k, D, Pl, e, hb, hl, hm, hmm, -, hi⟩
  · obtain ⟨rfl, rfl, rfl⟩ : a0 = none ∧ l0 = 0 ∧ c0 = 0 := by simpa [Value.cells] using e
    exact ⟨none, 0, [], rfl, by simp, by simp, fun e => absurd rfl e⟩
  · obtain ⟨e1, e2, e3⟩ : some a = a0 ∧ len = l0 ∧ cap = c0 := by simp [Value.cells] at e; exact ⟨e.1.symm, e.2.1.symm, e.2.2.symm⟩
    subst e1 e2 e3
    have hlm : len ≤ m := by rw [hmm]; split <;> omega
    have hcell : ∀ i, ∃ t : Int, i < len → w.cell? (a.add i) = some (.int .i64 t) := by
      intro i
      by_cases hlt : i < len
      · obtain ⟨cs', hc, ht⟩ := hi i (by omega)
        rw [hC] at hc
        obtain ⟨_, hcl, hat⟩ := World.cells?_some hc
        match cs', hcl with
        | [c0], _ =>
          obtain ⟨x, e0, -, -⟩ := DataW.trod_int Tryz.underlying3 ht
          simp at e0
          subst e0
          have g0 := hat 0 (by omega)
          rw [Go.Deep.add_add] at g0
          exact ⟨x, fun _ => by simpa using g0⟩
      · exact ⟨0, fun h => absurd h hlt⟩
    obtain ⟨F, hF⟩ := Classical.skolem.1 hcell
    refine ⟨some a, cap, (List.range len).map F, by simp, by simpa using hl, by simp; unfold maxLen at hm; omega, fun hne => ?_⟩
    have hpos : 0 < len := by
      rcases Nat.eq_zero_or_pos len with rfl | h
      · simp at hne
      · exact h
    obtain ⟨b, off, spot⟩ := a
    have hs := hF 0 hpos
    have hspot : spot = none := by simpa [Addr.add] using World.cell?_spot hs
    subst hspot
    refine ⟨b, off, rfl, World.block_lt_of_cell? w _ hs, fun i hi => ?_⟩
    simp at hi
    have hT : I! ((List.range len).map F) i = F i := by simp [I!, List.getD_eq_getElem?_getD, hi]
    rw [hT]
    have := hF i hi
    simpa [Addr.add_lit] using this
end
set_option maxRecDepth 100000 in
theorem open_u8_arg {H : Type} {enc : TypeId × Value → H} {w : World} {base : Nat} {spare : Nat → Bool} {held : Bool} {r : Reach} {b0 : Nat} {v : Value} {d : DataW H} {p : List MemPlace} (hv : Value.okWide Tryz.prog w r b0 5 v) (h : DataW.Trod enc Tryz.prog w base spare held 5 v d p) :
    ∃ x : Int, v = .int .u8 x ∧ 0 ≤ x ∧ x < 256 := by
  obtain ⟨x, rfl⟩ := okWide_int Tryz.underlying5 hv
  obtain ⟨fuel, h⟩ := h
  obtain ⟨n, e, -, hw⟩ := DataW.trod_int Tryz.underlying5 h
  obtain rfl : x = n := by simpa [Value.cells] using e
  simp [Lit.wf, IntKind.min, IntKind.max, IntKind.bits, IntKind.signed] at hw
  exact ⟨x, rfl, by omega, by omega⟩
section
variable {H : Type} {enc : TypeId × Value → H} {w : World} {base : Nat} {spare : Nat → Bool} {held : Bool}
set_option maxRecDepth 100000 in
theorem open_tris_cap {n : Nat} {cs : List Value} {y : DataW H × List MemPlace} (h : DataW.trod enc Tryz.prog w base spare held n 22 cs = some y) : ∃ (ao : Option Addr) (cap : Nat) (T : List Tr), cs = [.slice ao T.length cap] ∧ T.length ≤ cap ∧ T.length ≤ 9223372036854775807 ∧ TrisAt w ao T := by
  have hC : Tryz.prog.cellsOf 72 = 3 := by kernel_rfl
  rcases open_slice (e := 72) (by kernel_rfl) h with ⟨rfl, -⟩ | ⟨a, len, cap, m, k, D, Pl, rfl, hb, hl, hm, hmm, -, hi⟩
  · exact ⟨none, 0, [], rfl, by simp, by simp, fun e => absurd rfl e⟩
  · have hlm : len ≤ m := by rw [hmm]; split <;> omega
    have hcell : ∀ i, ∃ t : Tr, i < len → w.cell? (a.add (i * 3)) = some (.int .i64 t.1) ∧ w.cell? (a.add (i * 3 + 1)) = some (.int .i64 t.2.1) ∧ w.cell? (a.add (i * 3 + 2)) = some (.int .i64 t.2.2) := by
      intro i
      by_cases hlt : i < len
      · obtain ⟨cs', hc, ht⟩ := hi i (by omega)
        rw [hC] at hc
        obtain ⟨_, hcl, hat⟩ := World.cells?_some hc
        obtain ⟨t, rfl⟩ := open_tri hcl ht
        have g0 := hat 0 (by omega)
        have g1 := hat 1 (by omega)
        have g2 := hat 2 (by omega)
        rw [Go.Deep.add_add] at g0 g1 g2
        exact ⟨t, fun _ => ⟨by simpa using g0, by simpa using g1, by simpa using g2⟩⟩
      · exact ⟨(0, 0, 0), fun h => absurd h hlt⟩
    obtain ⟨F, hF⟩ := Classical.skolem.1 hcell
    refine ⟨some a, cap, (List.range len).map F, by simp, by simp; omega, by simp; unfold maxLen at hm; omega, fun hne => ?_⟩
    have hpos : 0 < len := by
      rcases Nat.eq_zero_or_pos len with rfl | h
      · simp at hne
      · exact h
    obtain ⟨b, off, spot⟩ := a
    have hs := (hF 0 hpos).1
    have hspot : spot = none := by simpa [Addr.add] using World.cell?_spot hs
    subst hspot
    refine ⟨b, off, rfl, World.block_lt_of_cell? w _ hs, fun i hi => ?_⟩
    simp at hi
    have hT : T! ((List.range len).map F) i = F i := by simp [T!, List.getD_eq_getElem?_getD, hi]
    rw [hT]
    have := hF i hi
    simpa [Addr.add_lit, Nat.add_assoc] using this
set_option maxRecDepth 100000 in
/-- A surface by value. -/
theorem open_soup_cap {r : Reach} {b0 : Nat} {v : Value} {d : DataW H} {p : List MemPlace} (hv : Value.okWide Tryz.prog w r b0 24 v) (h : DataW.Trod enc Tryz.prog w base spare held 24 v d p) :
    ∃ (N : Int) (ao : Option Addr) (cap : Nat) (T : List Tr), v = .agg #[.int .i64 N, .slice ao T.length cap] ∧ T.length ≤ cap ∧ T.length ≤ 9223372036854775807 ∧ TrisAt w ao T := by
  obtain ⟨v0, v1, y0, y1, n, rfl, -, -, h0, h1⟩ := open_agg2 Tryz.underlying24 (by kernel_rfl) (by kernel_rfl) hv h
  obtain ⟨N, e0, -, -⟩ := DataW.trod_int Tryz.underlying3 h0
  obtain ⟨ao, cap, T, e1, hc, hl, hT⟩ := open_tris_cap h1
  simp at e0 e1
  subst e0
  subst e1
  exact ⟨N, ao, cap, T, rfl, hc, hl, hT⟩
set_option maxRecDepth 100000 in
theorem open_int_arg {r : Reach} {b0 : Nat} {v : Value} {d : DataW H} {p : List MemPlace} (hv : Value.okWide Tryz.prog w r b0 3 v) (h : DataW.Trod enc Tryz.prog w base spare held 3 v d p) : ∃ x : Int, v = .int .i64 x := by
  obtain ⟨x, rfl⟩ := okWide_int Tryz.underlying3 hv
  obtain ⟨fuel, h⟩ := h
  obtain ⟨n, e, -, hw⟩ := DataW.trod_int Tryz.underlying3 h
  obtain rfl : x = n := by simpa [Value.cells] using e
  simp [Lit.wf, IntKind.min, IntKind.max, IntKind.bits, IntKind.signed] at hw
  exact ⟨x, rfl⟩
end
end Go.Proofs.YtkjamheoihlekaaGreat

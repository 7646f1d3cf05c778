/- Parts that came in as an argument, opened. -/
import Derived.Test.YtkggphfekeiejaaOpenSoup
import Derived.Test.YtkggphfekeiejaaPartsOff
namespace Go.Proofs.Ytkggphfekeiejaa
set_option linter.unusedVariables false
set_option linter.unusedSimpArgs false
open Go.ChangeShapes Go.WideShapes Go.RowKit Go.Deep Go.Joins
section
variable {H : Type} {enc : TypeId × Value → H} {w : World} {base : Nat} {spare : Nat → Bool} {held : Bool}
theorem open_ints {n : Nat} {cs : List Value} {y : DataW H × List MemPlace} (h : DataW.trod enc Try.prog w base spare held n 34 cs = some y) : ∃ (ao : Option Addr) (cap : Nat) (xs : List Int), cs = [.slice ao xs.length cap] ∧ xs.length ≤ 9223372036854775807 ∧ IntsAt w ao xs := by
  have hC : Try.prog.cellsOf 3 = 1 := by kernel_rfl
  rcases open_slice (e := 3) (by kernel_rfl) h with ⟨rfl, -⟩ | ⟨a, len, cap, m, k, D, Pl, rfl, hb, hl, hm, hmm, -, hi⟩
  · exact ⟨none, 0, [], rfl, by simp, fun e => absurd rfl e⟩
  · have hlm : len ≤ m := by rw [hmm]; split <;> omega
    have hcell : ∀ i, ∃ t : Int, i < len → w.cell? (a.add i) = some (.int .i64 t) := by
      intro i
      by_cases hlt : i < len
      · obtain ⟨cs', hc, ht⟩ := hi i (by omega)
        rw [hC] at hc
        obtain ⟨_, hcl, hat⟩ := World.cells?_some hc
        match cs', hcl with
        | [c0], _ =>
          obtain ⟨x, e0, -, -⟩ := DataW.trod_int Try.underlying3 ht
          simp at e0
          subst e0
          have g0 := hat 0 (by omega)
          rw [Go.Deep.add_add] at g0
          exact ⟨x, fun _ => by simpa using g0⟩
      · exact ⟨0, fun h => absurd h hlt⟩
    obtain ⟨F, hF⟩ := Classical.skolem.1 hcell
    refine ⟨some a, cap, (List.range len).map F, by simp, by simp; unfold maxLen at hm; omega, fun hne => ?_⟩
    have hpos : 0 < len := by
      rcases Nat.eq_zero_or_pos len with rfl | h
      · simp at hne
      · exact h
    obtain ⟨b, off, spot⟩ := a
    have hs := hF 0 hpos
    have hspot : spot = none := by simpa [Addr.add] using World.cell?_spot hs
    subst hspot
    refine ⟨b, off, rfl, World.block_lt_of_cell? w _ hs, fun i hi => ?_⟩
    simp at hi
    have hT : I! ((List.range len).map F) i = F i := by simp [I!, List.getD_eq_getElem?_getD, hi]
    rw [hT]
    have := hF i hi
    simpa [Addr.add_lit] using this
set_option maxRecDepth 100000 in
theorem open_part {n : Nat} {cs : List Value} {y : DataW H × List MemPlace} (hl : cs.length = 4) (h : DataW.trod enc Try.prog w base spare held n 41 cs = some y) :
    ∃ (P : PartV) (aoS : Option Addr) (cS : Nat) (aoV : Option Addr) (cV : Nat) (aoT : Option Addr) (cT : Nat), cs = [.int .i64 P.N, .slice aoS P.S.length cS, .slice aoV P.V.length cV, .slice aoT P.T.length cT] ∧ TrisAt w aoS P.S ∧ IntsAt w aoV P.V ∧ IntsAt w aoT P.T := by
  match cs, hl with
  | [c0, c1, c2, c3], _ =>
    obtain ⟨xs, n', _, hx, _, hlen, hg⟩ := DataW.trod_struct Try.underlying41 h
    match xs, hlen with
    | [y0, y1, y2], _ =>
      have h0 := hg 0 _ rfl
      have h1 := hg 1 _ rfl
      have h2 := hg 2 _ rfl
      have q0 : Try.prog.cellsOf 24 = 2 := by kernel_rfl
      have q1 : Try.prog.cellsOf 34 = 1 := by kernel_rfl
      simp [q0, q1] at h0 h1 h2
      obtain ⟨aoV, cV, V, e1, -, hV⟩ := open_ints h1
      obtain ⟨aoT, cT, T, e2, -, hT⟩ := open_ints h2
      obtain ⟨xs, n'', _, hx', _, hlen', hg'⟩ := DataW.trod_struct Try.underlying24 h0
      match xs, hlen' with
      | [z0, z1], _ =>
        have g0 := hg' 0 _ rfl
        have g1 := hg' 1 _ rfl
        have q2 : Try.prog.cellsOf 3 = 1 := by kernel_rfl
        have q3 : Try.prog.cellsOf 22 = 1 := by kernel_rfl
        simp [q2, q3] at g0 g1
        obtain ⟨N, e0, -, -⟩ := DataW.trod_int Try.underlying3 g0
        obtain ⟨aoS, cS, S, e3, -, hS⟩ := open_tris g1
        simp at e0 e1 e2 e3
        subst e0
        subst e1
        subst e2
        subst e3
        exact ⟨⟨N, S, V, T⟩, aoS, cS, aoV, cV, aoT, cT, rfl, hS, hV, hT⟩
set_option maxRecDepth 100000 in
/-- Parts in a slice. -/
theorem open_parts {r : Reach} {b0 : Nat} {v : Value} {d : DataW H} {p : List MemPlace} (hv : Value.okWide Try.prog w r b0 31 v) (h : DataW.Trod enc Try.prog w base spare held 31 v d p) : ∃ (a : Option Addr) (m cap : Nat) (P : Nat → PartV), v = .slice a m cap ∧ m ≤ 9223372036854775807 ∧ PartsOff w a P m := by
  have hC : Try.prog.cellsOf 41 = 4 := by kernel_rfl
  obtain ⟨a0, l0, c0, rfl⟩ := okWide_slice Try.underlying31 hv
  obtain ⟨fuel, h⟩ := h
  rcases open_slice (e := 41) (by kernel_rfl) h with ⟨e, -⟩ | ⟨a, len, cap, m, k, D, Pl, e, hb, hl, hm, hmm, -, hi⟩
  · obtain ⟨rfl, rfl, rfl⟩ : a0 = none ∧ l0 = 0 ∧ c0 = 0 := by simpa [Value.cells] using e
    exact ⟨none, 0, 0, fun _ => ⟨0, [], [], []⟩, rfl, by simp, fun h => absurd h (by omega)⟩
  · obtain ⟨e1, e2, e3⟩ : some a = a0 ∧ len = l0 ∧ cap = c0 := by simp [Value.cells] at e; exact ⟨e.1.symm, e.2.1.symm, e.2.2.symm⟩
    subst e1 e2 e3
    have hlm : len ≤ m := by rw [hmm]; split <;> omega
    have hcell : ∀ i, ∃ P : PartV, i < len → ∃ (aoS : Option Addr) (cS : Nat) (aoV : Option Addr) (cV : Nat) (aoT : Option Addr) (cT : Nat), w.cell? (a.add (i * 4)) = some (.int .i64 P.N) ∧ w.cell? (a.add (i * 4 + 1)) = some (.slice aoS P.S.length cS) ∧
        w.cell? (a.add (i * 4 + 2)) = some (.slice aoV P.V.length cV) ∧ w.cell? (a.add (i * 4 + 3)) = some (.slice aoT P.T.length cT) ∧ TrisAt w aoS P.S ∧ IntsAt w aoV P.V ∧ IntsAt w aoT P.T := by
      intro i
      by_cases hlt : i < len
      · obtain ⟨cs', hc, ht⟩ := hi i (by omega)
        rw [hC] at hc
        obtain ⟨_, hcl, hat⟩ := World.cells?_some hc
        obtain ⟨P, aoS, cS, aoV, cV, aoT, cT, rfl, hS, hV, hT⟩ := open_part hcl ht
        have g0 := hat 0 (by omega)
        have g1 := hat 1 (by omega)
        have g2 := hat 2 (by omega)
        have g3 := hat 3 (by omega)
        rw [Go.Deep.add_add] at g0 g1 g2 g3
        exact ⟨P, fun _ => ⟨aoS, cS, aoV, cV, aoT, cT, by simpa using g0, by simpa using g1, by simpa using g2, by simpa using g3, hS, hV, hT⟩⟩
      · exact ⟨⟨0, [], [], []⟩, fun h => absurd h hlt⟩
    obtain ⟨F, hF⟩ := Classical.skolem.1 hcell
    refine ⟨some a, len, cap, F, rfl, by unfold maxLen at hm; omega, fun hpos => ?_⟩
    obtain ⟨b, off, spot⟩ := a
    obtain ⟨_, _, _, _, _, _, hs, -⟩ := hF 0 hpos
    have hspot : spot = none := by simpa [Addr.add] using World.cell?_spot hs
    subst hspot
    refine ⟨b, off, rfl, World.block_lt_of_cell? w _ hs, fun k hk => ?_⟩
    obtain ⟨aoS, cS, aoV, cV, aoT, cT, h0, h1, h2, h3, hS, hV, hT⟩ := hF k hk
    refine ⟨aoS, cS, aoV, cV, aoT, cT, ?_, ?_, ?_, ?_, hS, hV, hT⟩
    · simpa [Addr.add_lit] using h0
    · simpa [Addr.add_lit, Nat.add_assoc] using h1
    · simpa [Addr.add_lit, Nat.add_assoc] using h2
    · simpa [Addr.add_lit, Nat.add_assoc] using h3
end
end Go.Proofs.Ytkggphfekeiejaa

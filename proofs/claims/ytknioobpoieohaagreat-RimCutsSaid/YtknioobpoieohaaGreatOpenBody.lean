/- A body that came in as an argument, opened. -/
import Derived.Test.YtknioobpoieohaaGreatOpenSoup
namespace Go.Proofs.YtknioobpoieohaaGreat
set_option linter.unusedVariables false
set_option linter.unusedSimpArgs false
open Go.ChangeShapes Go.WideShapes Go.RowKit Go.Deep Go.Joins
section
variable {H : Type} {enc : TypeId × Value → H} {w : World} {base : Nat} {spare : Nat → Bool} {held : Bool}
theorem open_point {n : Nat} {cs : List Value} {y : DataW H × List MemPlace} (hl : cs.length = 3) (h : DataW.trod enc Tryz.prog w base spare held n 80 cs = some y) : ∃ t : Tr, cs = [.int .i64 t.1, .int .i64 t.2.1, .int .i64 t.2.2] := by
  match cs, hl with
  | [c0, c1, c2], _ =>
    obtain ⟨y0, y1, y2, k, -, h0, h1, h2⟩ := trod_array3 (e := 3) (by kernel_rfl) (by kernel_rfl) h
    obtain ⟨n0, e0, -, -⟩ := DataW.trod_int Tryz.underlying3 h0
    obtain ⟨n1, e1, -, -⟩ := DataW.trod_int Tryz.underlying3 h1
    obtain ⟨n2, e2, -, -⟩ := DataW.trod_int Tryz.underlying3 h2
    simp at e0 e1 e2
    subst e0
    subst e1
    subst e2
    exact ⟨(n0, n1, n2), rfl⟩
theorem open_points {n : Nat} {cs : List Value} {y : DataW H × List MemPlace} (h : DataW.trod enc Tryz.prog w base spare held n 25 cs = some y) : ∃ (ao : Option Addr) (cap : Nat) (T : List Tr), cs = [.slice ao T.length cap] ∧ T.length ≤ 9223372036854775807 ∧ TrisAt w ao T := by
  have hC : Tryz.prog.cellsOf 80 = 3 := by kernel_rfl
  rcases open_slice (e := 80) (by kernel_rfl) h with ⟨rfl, -⟩ | ⟨a, len, cap, m, k, D, Pl, rfl, hb, hl, hm, hmm, -, hi⟩
  · exact ⟨none, 0, [], rfl, by simp, fun e => absurd rfl e⟩
  · have hlm : len ≤ m := by rw [hmm]; split <;> omega
    have hcell : ∀ i, ∃ t : Tr, i < len → w.cell? (a.add (i * 3)) = some (.int .i64 t.1) ∧ w.cell? (a.add (i * 3 + 1)) = some (.int .i64 t.2.1) ∧ w.cell? (a.add (i * 3 + 2)) = some (.int .i64 t.2.2) := by
      intro i
      by_cases hlt : i < len
      · obtain ⟨cs', hc, ht⟩ := hi i (by omega)
        rw [hC] at hc
        obtain ⟨_, hcl, hat⟩ := World.cells?_some hc
        obtain ⟨t, rfl⟩ := open_point hcl ht
        have g0 := hat 0 (by omega)
        have g1 := hat 1 (by omega)
        have g2 := hat 2 (by omega)
        rw [Go.Deep.add_add] at g0 g1 g2
        exact ⟨t, fun _ => ⟨by simpa using g0, by simpa using g1, by simpa using g2⟩⟩
      · exact ⟨(0, 0, 0), fun h => absurd h hlt⟩
    obtain ⟨F, hF⟩ := Classical.skolem.1 hcell
    refine ⟨some a, cap, (List.range len).map F, by simp, by simp; unfold maxLen at hm; omega, fun hne => ?_⟩
    have hpos : 0 < len := by
      rcases Nat.eq_zero_or_pos len with rfl | h
      · simp at hne
      · exact h
    obtain ⟨b, off, spot⟩ := a
    have hs := (hF 0 hpos).1
    have hspot : spot = none := by simpa [Addr.add] using World.cell?_spot hs
    subst hspot
    refine ⟨b, off, rfl, World.block_lt_of_cell? w _ hs, fun i hi => ?_⟩
    simp at hi
    have hT : T! ((List.range len).map F) i = F i := by simp [T!, List.getD_eq_getElem?_getD, hi]
    rw [hT]
    have := hF i hi
    simpa [Addr.add_lit, Nat.add_assoc] using this
theorem open_ints_cap {n : Nat} {cs : List Value} {y : DataW H × List MemPlace} (h : DataW.trod enc Tryz.prog w base spare held n 26 cs = some y) : ∃ (ao : Option Addr) (cap : Nat) (xs : List Int), cs = [.slice ao xs.length cap] ∧ xs.length ≤ cap ∧ xs.length ≤ 9223372036854775807 ∧ IntsAt w ao xs := by
  have hC : Tryz.prog.cellsOf 3 = 1 := by kernel_rfl
  rcases open_slice (e := 3) (by kernel_rfl) h with ⟨rfl, -⟩ | ⟨a, len, cap, m, k, D, Pl, rfl, hb, hl, hm, hmm, -, hi⟩
  · exact ⟨none, 0, [], rfl, by simp, by simp, fun e => absurd rfl e⟩
  · have hlm : len ≤ m := by rw [hmm]; split <;> omega
    have hcell : ∀ i, ∃ t : Int, i < len → w.cell? (a.add i) = some (.int .i64 t) := by
      intro i
      by_cases hlt : i < len
      · obtain ⟨cs', hc, ht⟩ := hi i (by omega)
        rw [hC] at hc
        obtain ⟨_, hcl, hat⟩ := World.cells?_some hc
        match cs', hcl with
        | [c0], _ =>
          obtain ⟨x, e0, -, -⟩ := DataW.trod_int Tryz.underlying3 ht
          simp at e0
          subst e0
          have g0 := hat 0 (by omega)
          rw [Go.Deep.add_add] at g0
          exact ⟨x, fun _ => by simpa using g0⟩
      · exact ⟨0, fun h => absurd h hlt⟩
    obtain ⟨F, hF⟩ := Classical.skolem.1 hcell
    refine ⟨some a, cap, (List.range len).map F, by simp, by simpa using hl, by simp; unfold maxLen at hm; omega, fun hne => ?_⟩
    have hpos : 0 < len := by
      rcases Nat.eq_zero_or_pos len with rfl | h
      · simp at hne
      · exact h
    obtain ⟨b, off, spot⟩ := a
    have hs := hF 0 hpos
    have hspot : spot = none := by simpa [Addr.add] using World.cell?_spot hs
    subst hspot
    refine ⟨b, off, rfl, World.block_lt_of_cell? w _ hs, fun i hi => ?_⟩
    simp at hi
    have hT : I! ((List.range len).map F) i = F i := by simp [I!, List.getD_eq_getElem?_getD, hi]
    rw [hT]
    have := hF i hi
    simpa [Addr.add_lit] using this
theorem open_body_cells {n : Nat} {cs : List Value} {y : DataW H × List MemPlace} (hl : cs.length = 4) (h : DataW.trod enc Tryz.prog w base spare held n 28 cs = some y) :
    ∃ (N : Int) (ao po ko : Option Addr) (cap pc kc : Nat) (T P : List Tr) (K : List Int), cs = [.int .i64 N, .slice ao T.length cap, .slice po P.length pc, .slice ko K.length kc] ∧ T.length ≤ 9223372036854775807 ∧ P.length ≤ 9223372036854775807 ∧ K.length ≤ 9223372036854775807 ∧ K.length ≤ kc ∧ TrisAt w ao T ∧ TrisAt w po P ∧ IntsAt w ko K := by
  match cs, hl with
  | [c0, c1, c2, c3], _ =>
    obtain ⟨xs, n', _, hx, _, hlen, hg⟩ := DataW.trod_struct Tryz.underlying28 h
    match xs, hlen with
    | [y0, y1, y2], _ =>
      have h0 := hg 0 _ rfl
      have h1 := hg 1 _ rfl
      have h2 := hg 2 _ rfl
      have q0 : Tryz.prog.cellsOf 24 = 2 := by kernel_rfl
      have q1 : Tryz.prog.cellsOf 26 = 1 := by kernel_rfl
      have q4 : Tryz.prog.cellsOf 25 = 1 := by kernel_rfl
      simp [q0, q1, q4] at h0 h1 h2
      obtain ⟨po, pc, P, e1, hp, hP⟩ := open_points h1
      obtain ⟨ko, kc, K, e2, hk1, hk2, hK⟩ := open_ints_cap h2
      obtain ⟨xs, n'', _, hx', _, hlen', hg'⟩ := DataW.trod_struct Tryz.underlying24 h0
      match xs, hlen' with
      | [z0, z1], _ =>
        have g0 := hg' 0 _ rfl
        have g1 := hg' 1 _ rfl
        have q2 : Tryz.prog.cellsOf 3 = 1 := by kernel_rfl
        have q3 : Tryz.prog.cellsOf 22 = 1 := by kernel_rfl
        simp [q2, q3] at g0 g1
        obtain ⟨N, e0, -, -⟩ := DataW.trod_int Tryz.underlying3 g0
        obtain ⟨ao, cap, T, e3, hl3, hT⟩ := open_tris g1
        simp at e0 e1 e2 e3
        subst e0
        subst e1
        subst e2
        subst e3
        exact ⟨N, ao, po, ko, cap, pc, kc, T, P, K, rfl, hl3, hp, hk2, hk1, hT, hP, hK⟩
set_option maxRecDepth 100000 in
/-- A body by value. -/
theorem open_body {r : Reach} {b0 : Nat} {v : Value} {d : DataW H} {p : List MemPlace} (hv : Value.okWide Tryz.prog w r b0 28 v) (h : DataW.Trod enc Tryz.prog w base spare held 28 v d p) :
    ∃ (N : Int) (ao po ko : Option Addr) (cap pc kc : Nat) (T P : List Tr) (K : List Int), v = .agg #[.int .i64 N, .slice ao T.length cap, .slice po P.length pc, .slice ko K.length kc] ∧ T.length ≤ 9223372036854775807 ∧ P.length ≤ 9223372036854775807 ∧ K.length ≤ 9223372036854775807 ∧ K.length ≤ kc ∧ TrisAt w ao T ∧ TrisAt w po P ∧ IntsAt w ko K := by
  have hC : Tryz.prog.cellsOf 28 = 4 := by kernel_rfl
  obtain ⟨cs, rfl, hsz⟩ := okWide_struct Tryz.underlying28 hv
  obtain ⟨fuel, hf⟩ := h
  obtain ⟨N, ao, po, ko, cap, pc, kc, T, P, K, e, h1, h2, h3, h4, h5, h6, h7⟩ := open_body_cells (cs := cs.toList) (by rw [Array.length_toList, hsz, hC]) (by simpa [Value.cells] using hf)
  refine ⟨N, ao, po, ko, cap, pc, kc, T, P, K, ?_, h1, h2, h3, h4, h5, h6, h7⟩
  congr 1
  apply Array.toList_inj.1
  rw [e]
set_option maxRecDepth 100000 in
theorem open_int_arg {r : Reach} {b0 : Nat} {v : Value} {d : DataW H} {p : List MemPlace} (hv : Value.okWide Tryz.prog w r b0 3 v) (h : DataW.Trod enc Tryz.prog w base spare held 3 v d p) : ∃ x : Int, v = .int .i64 x := by
  obtain ⟨x, rfl⟩ := okWide_int Tryz.underlying3 hv
  obtain ⟨fuel, h⟩ := h
  obtain ⟨n, e, -, hw⟩ := DataW.trod_int Tryz.underlying3 h
  obtain rfl : x = n := by simpa [Value.cells] using e
  simp [Lit.wf, IntKind.min, IntKind.max, IntKind.bits, IntKind.signed] at hw
  exact ⟨x, rfl⟩
end
end Go.Proofs.YtknioobpoieohaaGreat

/- What the parts of a surface are, in plain words. -/
import Derived.Test.YtkggphfekeiejaaOwnSort
namespace Go.Proofs.Ytkggphfekeiejaa
set_option linter.unusedVariables false
set_option linter.unusedSimpArgs false
open Go.RowKit
/-- A part, by value. -/
structure PartV where
  N : Int
  S : List Tr
  V : List Int
  T : List Int
/-- The triangles of shell k. -/
def ofShell (L : Nat → Int) (n k : Nat) : List Nat := (List.range n).filter fun i => decide (L i = k)
def corners3 (t : Tr) : List Int := [t.1, t.2.1, t.2.2]
/-- The vertices of some triangles, rising. -/
def vertsOf (T : List Tr) (E : List Nat) : List Int := uniq (E.flatMap fun i => corners3 (T! T i))
/-- So many are less. -/
def rank (V : List Int) (x : Int) : Int := ((V.countP (· < x) : Nat) : Int)
def ranked (V : List Int) (t : Tr) : Tr := (rank V t.1, rank V t.2.1, rank V t.2.2)
def partOf (T : List Tr) (L : Nat → Int) (n k : Nat) : PartV :=
  ⟨(vertsOf T (ofShell L n k)).length, (ofShell L n k).map fun i => ranked (vertsOf T (ofShell L n k)) (T! T i), vertsOf T (ofShell L n k), (ofShell L n k).map fun (i : Nat) => (i : Int)⟩
theorem ofShell_lt {L : Nat → Int} {n k i : Nat} (h : i ∈ ofShell L n k) : i < n ∧ L i = k := by
  simp only [ofShell, List.mem_filter, List.mem_range, decide_eq_true_eq] at h
  exact h
theorem ofShell_length (L : Nat → Int) (n k : Nat) : (ofShell L n k).length ≤ n := by
  have := List.length_filter_le (fun i => decide (L i = (k : Int))) (List.range n)
  simpa [ofShell] using this
theorem ofShell_succ (L : Nat → Int) (i k : Nat) : ofShell L (i + 1) k = if L i = k then ofShell L i k ++ [i] else ofShell L i k := by
  unfold ofShell
  rw [List.range_succ, List.filter_append]
  by_cases h : L i = k <;> simp [h]
def Off (ao : Option Addr) (gp : Nat) : Prop := ∀ a, ao = some a → a.block ≠ gp
/-- A row of four cells is a part. -/
def PartOk (w : World) (gp : Nat) (r : Nat → Value) (P : PartV) : Prop :=
  ∃ aoS cS aoV cV aoT cT, r 0 = .int .i64 P.N ∧ r 1 = .slice aoS P.S.length cS ∧ r 2 = .slice aoV P.V.length cV ∧ r 3 = .slice aoT P.T.length cT ∧
    TrisAt w aoS P.S ∧ IntsAt w aoV P.V ∧ IntsAt w aoT P.T ∧ Off aoS gp ∧ Off aoV gp ∧ Off aoT gp
theorem TrisAt.but {w w' : World} {ao : Option Addr} {T : List Tr} {B g : Nat} (h : TrisAt w ao T) (hB : w.heap.size ≤ B) (hb : But B g w w') (ho : Off ao g) : TrisAt w' ao T := by
  intro hT
  obtain ⟨b, off, rfl, hlt, hc⟩ := h hT
  have hne : b ≠ g := ho _ rfl
  refine ⟨b, off, rfl, by have := hb.size; omega, fun i hi => ?_⟩
  obtain ⟨h0, h1, h2⟩ := hc i hi
  exact ⟨(hb.cell (by omega) hne).trans h0, (hb.cell (by omega) hne).trans h1, (hb.cell (by omega) hne).trans h2⟩
theorem IntsAt.but {w w' : World} {ao : Option Addr} {xs : List Int} {B g : Nat} (h : IntsAt w ao xs) (hB : w.heap.size ≤ B) (hb : But B g w w') (ho : Off ao g) : IntsAt w' ao xs := by
  intro hx
  obtain ⟨b, off, rfl, hlt, hc⟩ := h hx
  have hne : b ≠ g := ho _ rfl
  exact ⟨b, off, rfl, by have := hb.size; omega, fun i hi => (hb.cell (by omega) hne).trans (hc i hi)⟩
theorem PartOk.but {w w' : World} {gp : Nat} {r : Nat → Value} {P : PartV} {B : Nat} (h : PartOk w gp r P) (hB : w.heap.size ≤ B) (hb : But B gp w w') : PartOk w' gp r P := by
  obtain ⟨aoS, cS, aoV, cV, aoT, cT, h0, h1, h2, h3, h4, h5, h6, h7, h8, h9⟩ := h
  exact ⟨aoS, cS, aoV, cV, aoT, cT, h0, h1, h2, h3, h4.but hB hb h7, h5.but hB hb h8, h6.but hB hb h9, h7, h8, h9⟩
/-- What is owned from a base on lies apart from an elder block, and reads. -/
theorem owns_ints {w : World} {base gp n : Nat} {v : Value} {xs : List Int} (h : w.ownsRow base 3 1 v n (xs.map (Value.int .i64))) (hn : n = xs.length) (hg : gp < base) : ∃ ao cap, v = .slice ao n cap ∧ IntsAt w ao xs ∧ Off ao gp := by
  by_cases h0 : 0 < n
  · obtain ⟨g, cap, rfl, hb, hlt, hc, hm, hcell, hfr⟩ := owns_block h h0
    refine ⟨_, cap, rfl, fun _ => ⟨g, 0, rfl, hlt, fun i hi => ?_⟩, fun a e => by cases e; show g ≠ gp; omega⟩
    rw [Nat.zero_add]
    refine hcell i _ ?_
    rw [List.getElem?_map, I!_get hi]
    rfl
  · obtain ⟨ao, cap, rfl⟩ := owns_slice h
    have hx : xs = [] := List.eq_nil_of_length_eq_zero (by omega)
    refine ⟨ao, cap, rfl, fun e => absurd hx e, fun a e => ?_⟩
    subst e
    have := (h.lt a.block rfl).1
    omega
theorem owns_tri_off {w : World} {base gp : Nat} {T : List Tr} {ao : Option Addr} {n cap : Nat} {xs : List Value} {e : TypeId} {sz : Nat} (h : w.ownsRow base e sz (.slice ao n cap) n xs) (hg : gp < base) : Off ao gp := by
  intro a e
  subst e
  have := (h.lt a.block rfl).1
  omega
end Go.Proofs.Ytkggphfekeiejaa

/- rim.sides: of each corner the least one on its side. -/
import Derived.Test.YtknioobpoieohaaRimTab
import Derived.Test.YtknioobpoieohaaOppLaw
import Derived.Deep.AppendLies
import Derived.Deep.LoopGhost
import Derived.Deep.DeepCutAuto
namespace Go.Proofs.Ytknioobpoieohaa
set_option linter.unusedVariables false
set_option linter.unusedSimpArgs false
open Go.RowKit
theorem nextN {w : World} {b : Nat} {N : Int} {T : List Tr} (h : Tab w b N T) (c : Nat) (hc : c < 3 * T.length) :
    Calls Try.prog 32 #[.pointer (some ⟨b, 0, none⟩), .int .i64 (c : Int)] w fun e w' => e = .returned (.int .i64 (nxn c : Int)) ∧ w = w' := by
  obtain ⟨ao, cap, h0, h1, h2, h3⟩ := h.s
  have := next_any c w b ao T.length cap h.len h1 (by omega) (by omega)
  rw [show (c : Int) - c % 3 + ((c : Int) + 1) % 3 = (nxn c : Int) from nx_nat c] at this
  exact this
theorem prevN {w : World} {b : Nat} {N : Int} {T : List Tr} (h : Tab w b N T) (c : Nat) (hc : c < 3 * T.length) :
    Calls Try.prog 33 #[.pointer (some ⟨b, 0, none⟩), .int .i64 (c : Int)] w fun e w' => e = .returned (.int .i64 (pvn c : Int)) ∧ w = w' := by
  obtain ⟨ao, cap, h0, h1, h2, h3⟩ := h.s
  have := prev_any c w b ao T.length cap h.len h1 (by omega) (by omega)
  rw [show (c : Int) - c % 3 + ((c : Int) + 2) % 3 = (pvn c : Int) from pv_nat c] at this
  exact this
/-- A row less its last. -/
theorem owns_pop {w : World} {base : Nat} {e : TypeId} {g cap m : Nat} {xs : List Value} {x : Value} (h : w.ownsRow base e 1 (.slice (some ⟨g, 0, none⟩) (m + 1) cap) (m + 1) (xs ++ [x])) :
    w.ownsRow base e 1 (.slice (some ⟨g, 0, none⟩) m cap) m xs := by
  obtain ⟨hl, h⟩ := h
  simp at hl
  refine ⟨by simp [hl], ?_⟩
  rcases h with ⟨hv, _⟩ | ⟨g', cap', cur, hv, hb, hg, hc, hm, hs, ht⟩
  · cases hv
  · simp only [Value.slice.injEq, Option.some.injEq, Addr.mk.injEq] at hv
    obtain ⟨⟨rfl, -⟩, -, rfl⟩ := hv
    refine .inr ⟨_, _, cur, rfl, hb, hg, by omega, hm, hs, ?_⟩
    have := congrArg (List.take m) ht
    rw [List.take_take, List.take_append_of_le_length (by omega), List.take_of_length_le (l := xs) (by omega)] at this
    simpa using this
def ysel (a b : Int) (i : Nat) : Int := if i = 0 then a else b
theorem ysel_get (a b : Int) {i : Nat} (h : i < 2) : ([Value.int .i64 a, .int .i64 b] : List Value)[i]? = some (.int .i64 (ysel a b i)) := by
  match i, h with
  | 0, _ => rfl
  | 1, _ => rfl
/-- A corner across, turned on. -/
def stepA (T : List Tr) (x : Nat) : Int := if 0 ≤ opp T (nxn x : Int) then nx (opp T (nxn x : Int)) else opp T (nxn x : Int)
def stepB (T : List Tr) (x : Nat) : Int := if 0 ≤ opp T (pvn x : Int) then pv (opp T (pvn x : Int)) else opp T (pvn x : Int)
/-- A neighbour's number. -/
def IsNb (T : List Tr) (x : Nat) (y : Int) : Prop := y < 0 ∨ ∃ j : Nat, y = j ∧ j < 3 * T.length ∧ ∃ o : Nat, (opp T (nxn x : Int) = (o : Int) ∧ j = nxn o) ∨ (opp T (pvn x : Int) = (o : Int) ∧ j = pvn o)
theorem stepA_nb {N : Int} {T : List Tr} (hs : Surf N T) {x : Nat} (hx : x < 3 * T.length) : IsNb T x (stepA T x) := by
  unfold stepA
  split
  · rename_i h
    obtain ⟨o, e, ho, -⟩ := hs.opp_opp (nxn_lt hx) h
    exact .inr ⟨nxn o, by rw [e, nx_nat], nxn_lt ho, o, .inl ⟨e, rfl⟩⟩
  · exact .inl (by omega)
theorem stepB_nb {N : Int} {T : List Tr} (hs : Surf N T) {x : Nat} (hx : x < 3 * T.length) : IsNb T x (stepB T x) := by
  unfold stepB
  split
  · rename_i h
    obtain ⟨o, e, ho, -⟩ := hs.opp_opp (pvn_lt hx) h
    exact .inr ⟨pvn o, by rw [e, pv_nat], pvn_lt ho, o, .inr ⟨e, rfl⟩⟩
  · exact .inl (by omega)
theorem ysel_nb {N : Int} {T : List Tr} (hs : Surf N T) {x : Nat} (hx : x < 3 * T.length) (i : Nat) : IsNb T x (ysel (stepA T x) (stepB T x) i) := by
  unfold ysel
  split
  · exact stepA_nb hs hx
  · exact stepB_nb hs hx
theorem sadj_ysel {T : List Tr} {bay : Nat → Int} {x j : Nat} (h : SAdj T bay x j) : ∃ l, l < 2 ∧ ysel (stepA T x) (stepB T x) l = (j : Int) := by
  obtain ⟨_, _, _, o, ⟨e, rfl⟩ | ⟨e, rfl⟩⟩ := h
  · refine ⟨0, by omega, ?_⟩
    unfold ysel stepA
    rw [if_pos rfl, e, if_pos (by omega), nx_nat]
  · refine ⟨1, by omega, ?_⟩
    unfold ysel stepB
    rw [if_neg (by omega), e, if_pos (by omega), pv_nat]
/-- The state of the search from f. -/
structure SSt (T : List Tr) (bays : List Int) (n3 f g : Nat) (w : World) (L0 L : Nat → Int) (S : List Nat) (gs cap : Nat) (ws : World) : Prop where
  own : ws.ownsRow (g + 1) 3 1 (.slice (some ⟨gs, 0, none⟩) S.length cap) S.length (nv S)
  row : RowIs ws g 3 (iv L n3)
  bel : Below w.heap.size w ws
theorem SSt.more {T : List Tr} {bays : List Int} {n3 f g : Nat} {w : World} {L0 L : Nat → Int} {S : List Nat} {gs cap : Nat} {ws wt : World} (h : SSt T bays n3 f g w L0 L S gs cap ws) (hb : Below ws.heap.size ws wt) : SSt T bays n3 f g w L0 L S gs cap wt :=
  ⟨owns_below h.own hb, h.row.below hb h.row.lt, below_more h.bel hb h.bel.size⟩
end Go.Proofs.Ytknioobpoieohaa

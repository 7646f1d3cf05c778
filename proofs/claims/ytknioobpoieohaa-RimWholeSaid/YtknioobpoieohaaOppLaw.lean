/- Plain laws: the corner across, and back; corners on one side of their vertex. -/
import Derived.Test.YtknioobpoieohaaFaceLaw
import Derived.Test.YtknioobpoieohaaSideLaw
namespace Go.Proofs.Ytknioobpoieohaa
set_option linter.unusedVariables false
set_option linter.unusedSimpArgs false
open Go.RowKit
def nxn (c : Nat) : Nat := 3 * (c / 3) + (c + 1) % 3
def pvn (c : Nat) : Nat := 3 * (c / 3) + (c + 2) % 3
theorem nx_nat (c : Nat) : nx (c : Int) = (nxn c : Int) := by unfold nx nxn; omega
theorem pv_nat (c : Nat) : pv (c : Int) = (pvn c : Int) := by unfold pv pvn; omega
theorem pvn_nxn (c : Nat) : pvn (nxn c) = c := by unfold nxn pvn; omega
theorem nxn_pvn (c : Nat) : nxn (pvn c) = c := by unfold nxn pvn; omega
theorem nxn_lt {c n : Nat} (h : c < 3 * n) : nxn c < 3 * n := by unfold nxn; omega
theorem pvn_lt {c n : Nat} (h : c < 3 * n) : pvn c < 3 * n := by unfold pvn; omega
theorem nxn_div (c : Nat) : nxn c / 3 = c / 3 := by unfold nxn; omega
theorem pvn_div (c : Nat) : pvn c / 3 = c / 3 := by unfold pvn; omega
theorem edgeAt_nat (T : List Tr) (c : Nat) : edgeAt T (c : Int) = (vt T (nxn c), vt T (pvn c)) := by unfold edgeAt; rw [nx_nat, pv_nat]
theorem opp_nat (T : List Tr) (c : Nat) : opp T (c : Int) = facing T (vt T (pvn c), vt T (nxn c)) := by unfold opp; rw [nx_nat, pv_nat]
theorem Surf.edge_c {N : Int} {T : List Tr} (hs : Surf N T) {c d : Nat} (hc : c < 3 * T.length) (hd : d < 3 * T.length) (h : edgeAt T (c : Int) = edgeAt T (d : Int)) : c = d := by
  rw [edge_of_nat, edge_of_nat] at h
  simp only [Prod.mk.injEq] at h
  have := hs.edge_one (i := c / 3) (i' := d / 3) (p := (c % 3 + 1) % 3) (q := (d % 3 + 1) % 3) (by omega) (by omega) (by omega) (by omega) h.1 (by
    rw [show ((c % 3 + 1) % 3 + 1) % 3 = (c % 3 + 2) % 3 by omega, show ((d % 3 + 1) % 3 + 1) % 3 = (d % 3 + 2) % 3 by omega]
    exact h.2)
  omega
theorem Surf.opp_opp {N : Int} {T : List Tr} (hs : Surf N T) {c : Nat} (hc : c < 3 * T.length) (h : 0 ≤ opp T (c : Int)) :
    ∃ o : Nat, opp T (c : Int) = o ∧ o < 3 * T.length ∧ opp T (o : Int) = c ∧ vt T (nxn o) = vt T (pvn c) ∧ vt T (pvn o) = vt T (nxn c) := by
  rw [opp_nat] at h
  obtain ⟨o, e, ho, he⟩ := facing_some h
  rw [edgeAt_nat] at he
  simp only [Prod.mk.injEq] at he
  refine ⟨o, by rw [opp_nat]; exact e, ho, ?_, he.1, he.2⟩
  rw [opp_nat, he.1, he.2]
  have h0 : 0 ≤ facing T (vt T (nxn c), vt T (pvn c)) := facing_of hc (edgeAt_nat T c)
  obtain ⟨d, e2, hd, he2⟩ := facing_some h0
  rw [e2, hs.edge_c hd hc (by rw [he2, edgeAt_nat])]
/-- From a corner to the next one round its vertex, either way, in the same bay. -/
def SAdj (T : List Tr) (bay : Nat → Int) (x y : Nat) : Prop :=
  x < 3 * T.length ∧ y < 3 * T.length ∧ bay (y / 3) = bay (x / 3) ∧ ∃ o : Nat, (opp T (nxn x) = (o : Int) ∧ y = nxn o) ∨ (opp T (pvn x) = (o : Int) ∧ y = pvn o)
theorem Surf.sadj_symm {N : Int} {T : List Tr} (hs : Surf N T) {bay : Nat → Int} {x y : Nat} (h : SAdj T bay x y) : SAdj T bay y x := by
  obtain ⟨hx, hy, hb, o, ⟨e, rfl⟩ | ⟨e, rfl⟩⟩ := h
  · obtain ⟨o', e', ho, hoo, -, -⟩ := hs.opp_opp (nxn_lt hx) (by omega)
    obtain rfl : o' = o := by omega
    exact ⟨hy, hx, hb.symm, nxn x, .inr ⟨by rw [pvn_nxn]; exact hoo, (pvn_nxn x).symm⟩⟩
  · obtain ⟨o', e', ho, hoo, -, -⟩ := hs.opp_opp (pvn_lt hx) (by omega)
    obtain rfl : o' = o := by omega
    exact ⟨hy, hx, hb.symm, pvn x, .inl ⟨by rw [nxn_pvn]; exact hoo, (nxn_pvn x).symm⟩⟩
/-- It stays at the vertex. -/
theorem Surf.sadj_vt {N : Int} {T : List Tr} (hs : Surf N T) {bay : Nat → Int} {x y : Nat} (h : SAdj T bay x y) : vt T y = vt T x := by
  obtain ⟨hx, hy, hb, o, ⟨e, rfl⟩ | ⟨e, rfl⟩⟩ := h
  · obtain ⟨o', e', ho, hoo, a, -⟩ := hs.opp_opp (nxn_lt hx) (by omega)
    obtain rfl : o' = o := by omega
    rw [a, pvn_nxn]
  · obtain ⟨o', e', ho, hoo, -, b⟩ := hs.opp_opp (pvn_lt hx) (by omega)
    obtain rfl : o' = o := by omega
    rw [b, nxn_pvn]
theorem Surf.side_vt {N : Int} {T : List Tr} (hs : Surf N T) {bay : Nat → Int} {x y : Nat} (h : Conn (SAdj T bay) x y) : vt T y = vt T x := by
  induction h with
  | refl => rfl
  | step _ s ih => rw [hs.sadj_vt s, ih]
  | back _ s ih => rw [← ih, hs.sadj_vt s]
theorem side_bay {T : List Tr} {bay : Nat → Int} {x y : Nat} (h : Conn (SAdj T bay) x y) : bay (y / 3) = bay (x / 3) := by
  induction h with
  | refl => rfl
  | step _ s ih => rw [s.2.2.1, ih]
  | back _ s ih => rw [← ih, s.2.2.1]
end Go.Proofs.Ytknioobpoieohaa

/- Plain laws: corners, the edges they face, the corner across. Plain laws: the corner across, and back; corners on one side of their vertex. An edge, whichever way round. -/
import Derived.Test.YtkjamheoihlekaaGreatCertKeys
import Derived.Test.YtkjamheoihlekaaGreatCorner
import Derived.Test.YtkjamheoihlekaaGreatSideLaw
namespace Go.Proofs.YtkjamheoihlekaaGreat
set_option linter.unusedVariables false
set_option linter.unusedSimpArgs false
open Go.RowKit
theorem vt_tri (T : List Tr) (i k : Nat) (hk : k < 3) : vt T (3 * (i : Int) + k) = tg (T! T i) k := by
  have h1 : (3 * (i : Int) + k).toNat / 3 = i := by omega
  have h2 : (3 * (i : Int) + k).toNat % 3 = k := by omega
  unfold vt
  rw [h1, h2]
theorem nx_tri (i k : Nat) (hk : k < 3) : nx (3 * (i : Int) + k) = 3 * (i : Int) + ((k + 1) % 3 : Nat) := by unfold nx; omega
theorem pv_tri (i k : Nat) (hk : k < 3) : pv (3 * (i : Int) + k) = 3 * (i : Int) + ((k + 2) % 3 : Nat) := by unfold pv; omega
theorem edgeAt_tri (T : List Tr) (i k : Nat) (hk : k < 3) : edgeAt T (3 * (i : Int) + k) = (tg (T! T i) ((k + 1) % 3), tg (T! T i) ((k + 2) % 3)) := by
  unfold edgeAt
  rw [nx_tri i k hk, pv_tri i k hk, vt_tri T i _ (by omega), vt_tri T i _ (by omega)]
theorem facing_some {T : List Tr} {e : Int × Int} (h : 0 ≤ facing T e) : ∃ c : Nat, facing T e = c ∧ c < 3 * T.length ∧ edgeAt T c = e := by
  unfold facing faceFrom at h ⊢
  cases hf : (List.range' 0 (3 * T.length - 0)).find? fun c : Nat => edgeAt T c == e with
  | none => rw [hf] at h; simp at h
  | some c =>
    rw [hf] at h
    have h1 := List.mem_of_find?_eq_some hf
    have h2 := List.find?_some hf
    simp [List.mem_range'_1] at h1
    exact ⟨c, by simp, by omega, by simpa using h2⟩
theorem facing_of {T : List Tr} {e : Int × Int} {c : Nat} (hc : c < 3 * T.length) (he : edgeAt T c = e) : 0 ≤ facing T e := by
  unfold facing faceFrom
  cases hf : (List.range' 0 (3 * T.length - 0)).find? fun c : Nat => edgeAt T c == e with
  | none =>
    have := List.find?_eq_none.1 hf c (by simp [List.mem_range'_1]; omega)
    simp [he] at this
  | some d => simp
theorem facing_lt (T : List Tr) (e : Int × Int) : facing T e < 3 * T.length ∨ facing T e = -1 := by
  by_cases h : 0 ≤ facing T e
  · obtain ⟨c, e1, h1, _⟩ := facing_some h
    left; omega
  · right
    unfold facing faceFrom at h ⊢
    cases hf : (List.range' 0 (3 * T.length - 0)).find? fun c : Nat => edgeAt T c == e with
    | none => simp
    | some c => rw [hf] at h; simp at h
theorem opp_lt {T : List Tr} (c : Int) (h0 : 0 ≤ c) (h1 : c < 3 * T.length) : opp T c < 3 * T.length := by
  rcases facing_lt T (vt T (pv c), vt T (nx c)) with h | h
  · exact h
  · show facing T _ < _
    omega
theorem corner_of (d : Nat) : (d : Int) = 3 * ((d / 3 : Nat) : Int) + (d % 3 : Nat) := by omega
theorem edge_of_nat (T : List Tr) (d : Nat) : edgeAt T (d : Int) = (tg (T! T (d / 3)) ((d % 3 + 1) % 3), tg (T! T (d / 3)) ((d % 3 + 2) % 3)) := by
  rw [corner_of d]
  exact edgeAt_tri T (d / 3) (d % 3) (by omega)
theorem opp_tri (T : List Tr) (i k : Nat) (hk : k < 3) : opp T (3 * (i : Int) + k) = facing T (tg (T! T i) ((k + 2) % 3), tg (T! T i) ((k + 1) % 3)) := by
  unfold opp
  rw [nx_tri i k hk, pv_tri i k hk, vt_tri T i _ (by omega), vt_tri T i _ (by omega)]
def nxn (c : Nat) : Nat := 3 * (c / 3) + (c + 1) % 3
def pvn (c : Nat) : Nat := 3 * (c / 3) + (c + 2) % 3
theorem nx_nat (c : Nat) : nx (c : Int) = (nxn c : Int) := by unfold nx nxn; omega
theorem pv_nat (c : Nat) : pv (c : Int) = (pvn c : Int) := by unfold pv pvn; omega
theorem pvn_nxn (c : Nat) : pvn (nxn c) = c := by unfold nxn pvn; omega
theorem nxn_pvn (c : Nat) : nxn (pvn c) = c := by unfold nxn pvn; omega
theorem nxn_lt {c n : Nat} (h : c < 3 * n) : nxn c < 3 * n := by unfold nxn; omega
theorem pvn_lt {c n : Nat} (h : c < 3 * n) : pvn c < 3 * n := by unfold pvn; omega
theorem nxn_div (c : Nat) : nxn c / 3 = c / 3 := by unfold nxn; omega
theorem pvn_div (c : Nat) : pvn c / 3 = c / 3 := by unfold pvn; omega
theorem edgeAt_nat (T : List Tr) (c : Nat) : edgeAt T (c : Int) = (vt T (nxn c), vt T (pvn c)) := by unfold edgeAt; rw [nx_nat, pv_nat]
theorem opp_nat (T : List Tr) (c : Nat) : opp T (c : Int) = facing T (vt T (pvn c), vt T (nxn c)) := by unfold opp; rw [nx_nat, pv_nat]
theorem Surf.edge_c {N : Int} {T : List Tr} (hs : Surf N T) {c d : Nat} (hc : c < 3 * T.length) (hd : d < 3 * T.length) (h : edgeAt T (c : Int) = edgeAt T (d : Int)) : c = d := by
  rw [edge_of_nat, edge_of_nat] at h
  simp only [Prod.mk.injEq] at h
  have := hs.edge_one (i := c / 3) (i' := d / 3) (p := (c % 3 + 1) % 3) (q := (d % 3 + 1) % 3) (by omega) (by omega) (by omega) (by omega) h.1 (by
    rw [show ((c % 3 + 1) % 3 + 1) % 3 = (c % 3 + 2) % 3 by omega, show ((d % 3 + 1) % 3 + 1) % 3 = (d % 3 + 2) % 3 by omega]
    exact h.2)
  omega
theorem Surf.opp_opp {N : Int} {T : List Tr} (hs : Surf N T) {c : Nat} (hc : c < 3 * T.length) (h : 0 ≤ opp T (c : Int)) :
    ∃ o : Nat, opp T (c : Int) = o ∧ o < 3 * T.length ∧ opp T (o : Int) = c ∧ vt T (nxn o) = vt T (pvn c) ∧ vt T (pvn o) = vt T (nxn c) := by
  rw [opp_nat] at h
  obtain ⟨o, e, ho, he⟩ := facing_some h
  rw [edgeAt_nat] at he
  simp only [Prod.mk.injEq] at he
  refine ⟨o, by rw [opp_nat]; exact e, ho, ?_, he.1, he.2⟩
  rw [opp_nat, he.1, he.2]
  have h0 : 0 ≤ facing T (vt T (nxn c), vt T (pvn c)) := facing_of hc (edgeAt_nat T c)
  obtain ⟨d, e2, hd, he2⟩ := facing_some h0
  rw [e2, hs.edge_c hd hc (by rw [he2, edgeAt_nat])]
/-- From a corner to the next one round its vertex, either way, in the same bay. -/
def SAdj (T : List Tr) (bay : Nat → Int) (x y : Nat) : Prop :=
  x < 3 * T.length ∧ y < 3 * T.length ∧ bay (y / 3) = bay (x / 3) ∧ ∃ o : Nat, (opp T (nxn x) = (o : Int) ∧ y = nxn o) ∨ (opp T (pvn x) = (o : Int) ∧ y = pvn o)
theorem Surf.sadj_symm {N : Int} {T : List Tr} (hs : Surf N T) {bay : Nat → Int} {x y : Nat} (h : SAdj T bay x y) : SAdj T bay y x := by
  obtain ⟨hx, hy, hb, o, ⟨e, rfl⟩ | ⟨e, rfl⟩⟩ := h
  · obtain ⟨o', e', ho, hoo, -, -⟩ := hs.opp_opp (nxn_lt hx) (by omega)
    obtain rfl : o' = o := by omega
    exact ⟨hy, hx, hb.symm, nxn x, .inr ⟨by rw [pvn_nxn]; exact hoo, (pvn_nxn x).symm⟩⟩
  · obtain ⟨o', e', ho, hoo, -, -⟩ := hs.opp_opp (pvn_lt hx) (by omega)
    obtain rfl : o' = o := by omega
    exact ⟨hy, hx, hb.symm, pvn x, .inl ⟨by rw [nxn_pvn]; exact hoo, (nxn_pvn x).symm⟩⟩
/-- It stays at the vertex. -/
theorem Surf.sadj_vt {N : Int} {T : List Tr} (hs : Surf N T) {bay : Nat → Int} {x y : Nat} (h : SAdj T bay x y) : vt T y = vt T x := by
  obtain ⟨hx, hy, hb, o, ⟨e, rfl⟩ | ⟨e, rfl⟩⟩ := h
  · obtain ⟨o', e', ho, hoo, a, -⟩ := hs.opp_opp (nxn_lt hx) (by omega)
    obtain rfl : o' = o := by omega
    rw [a, pvn_nxn]
  · obtain ⟨o', e', ho, hoo, -, b⟩ := hs.opp_opp (pvn_lt hx) (by omega)
    obtain rfl : o' = o := by omega
    rw [b, nxn_pvn]
theorem Surf.side_vt {N : Int} {T : List Tr} (hs : Surf N T) {bay : Nat → Int} {x y : Nat} (h : Conn (SAdj T bay) x y) : vt T y = vt T x := by
  induction h with
  | refl => rfl
  | step _ s ih => rw [hs.sadj_vt s, ih]
  | back _ s ih => rw [← ih, hs.sadj_vt s]
theorem side_bay {T : List Tr} {bay : Nat → Int} {x y : Nat} (h : Conn (SAdj T bay) x y) : bay (y / 3) = bay (x / 3) := by
  induction h with
  | refl => rfl
  | step _ s ih => rw [s.2.2.1, ih]
  | back _ s ih => rw [← ih, s.2.2.1]
/-- An edge, whichever way round. -/
def ukey (T : List Tr) (c : Nat) : Int × Int := (min (vt T (nxn c : Nat)) (vt T (pvn c : Nat)), max (vt T (nxn c : Nat)) (vt T (pvn c : Nat)))
end Go.Proofs.YtkjamheoihlekaaGreat

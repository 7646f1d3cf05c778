/- Plain laws: corners, the edges they face, the corner across. -/
import Derived.Test.YtknioobpoieohaaCertKeysLaw
import Derived.Test.YtknioobpoieohaaFacing
namespace Go.Proofs.Ytknioobpoieohaa
set_option linter.unusedVariables false
set_option linter.unusedSimpArgs false
open Go.RowKit
theorem vt_tri (T : List Tr) (i k : Nat) (hk : k < 3) : vt T (3 * (i : Int) + k) = tg (T! T i) k := by
  have h1 : (3 * (i : Int) + k).toNat / 3 = i := by omega
  have h2 : (3 * (i : Int) + k).toNat % 3 = k := by omega
  unfold vt
  rw [h1, h2]
theorem nx_tri (i k : Nat) (hk : k < 3) : nx (3 * (i : Int) + k) = 3 * (i : Int) + ((k + 1) % 3 : Nat) := by unfold nx; omega
theorem pv_tri (i k : Nat) (hk : k < 3) : pv (3 * (i : Int) + k) = 3 * (i : Int) + ((k + 2) % 3 : Nat) := by unfold pv; omega
theorem edgeAt_tri (T : List Tr) (i k : Nat) (hk : k < 3) : edgeAt T (3 * (i : Int) + k) = (tg (T! T i) ((k + 1) % 3), tg (T! T i) ((k + 2) % 3)) := by
  unfold edgeAt
  rw [nx_tri i k hk, pv_tri i k hk, vt_tri T i _ (by omega), vt_tri T i _ (by omega)]
theorem facing_some {T : List Tr} {e : Int × Int} (h : 0 ≤ facing T e) : ∃ c : Nat, facing T e = c ∧ c < 3 * T.length ∧ edgeAt T c = e := by
  unfold facing faceFrom at h ⊢
  cases hf : (List.range' 0 (3 * T.length - 0)).find? fun c : Nat => edgeAt T c == e with
  | none => rw [hf] at h; simp at h
  | some c =>
    rw [hf] at h
    have h1 := List.mem_of_find?_eq_some hf
    have h2 := List.find?_some hf
    simp [List.mem_range'_1] at h1
    exact ⟨c, by simp, by omega, by simpa using h2⟩
theorem facing_of {T : List Tr} {e : Int × Int} {c : Nat} (hc : c < 3 * T.length) (he : edgeAt T c = e) : 0 ≤ facing T e := by
  unfold facing faceFrom
  cases hf : (List.range' 0 (3 * T.length - 0)).find? fun c : Nat => edgeAt T c == e with
  | none =>
    have := List.find?_eq_none.1 hf c (by simp [List.mem_range'_1]; omega)
    simp [he] at this
  | some d => simp
theorem facing_lt (T : List Tr) (e : Int × Int) : facing T e < 3 * T.length ∨ facing T e = -1 := by
  by_cases h : 0 ≤ facing T e
  · obtain ⟨c, e1, h1, _⟩ := facing_some h
    left; omega
  · right
    unfold facing faceFrom at h ⊢
    cases hf : (List.range' 0 (3 * T.length - 0)).find? fun c : Nat => edgeAt T c == e with
    | none => simp
    | some c => rw [hf] at h; simp at h
theorem opp_lt {T : List Tr} (c : Int) (h0 : 0 ≤ c) (h1 : c < 3 * T.length) : opp T c < 3 * T.length := by
  rcases facing_lt T (vt T (pv c), vt T (nx c)) with h | h
  · exact h
  · show facing T _ < _
    omega
theorem corner_of (d : Nat) : (d : Int) = 3 * ((d / 3 : Nat) : Int) + (d % 3 : Nat) := by omega
theorem edge_of_nat (T : List Tr) (d : Nat) : edgeAt T (d : Int) = (tg (T! T (d / 3)) ((d % 3 + 1) % 3), tg (T! T (d / 3)) ((d % 3 + 2) % 3)) := by
  rw [corner_of d]
  exact edgeAt_tri T (d / 3) (d % 3) (by omega)
theorem opp_tri (T : List Tr) (i k : Nat) (hk : k < 3) : opp T (3 * (i : Int) + k) = facing T (tg (T! T i) ((k + 2) % 3), tg (T! T i) ((k + 1) % 3)) := by
  unfold opp
  rw [nx_tri i k hk, pv_tri i k hk, vt_tri T i _ (by omega), vt_tri T i _ (by omega)]
end Go.Proofs.Ytknioobpoieohaa

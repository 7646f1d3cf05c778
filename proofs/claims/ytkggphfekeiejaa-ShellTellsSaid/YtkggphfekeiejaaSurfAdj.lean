/- Plain laws: on a surface the corner across is a neighbour's, and the other way round; triangles at a vertex hang together. -/
import Derived.Test.YtkggphfekeiejaaCertKeysLaw
import Derived.Test.YtkggphfekeiejaaShellOf
import Derived.Test.YtkggphfekeiejaaRefOf
import Derived.Test.YtkggphfekeiejaaPartRef
import Derived.Test.YtkggphfekeiejaaTogether
namespace Go.Proofs.Ytkggphfekeiejaa
set_option linter.unusedVariables false
set_option linter.unusedSimpArgs false
open Go.RowKit
theorem vt_tri (T : List Tr) (i k : Nat) (hk : k < 3) : vt T (3 * (i : Int) + k) = tg (T! T i) k := by
  have h1 : (3 * (i : Int) + k).toNat / 3 = i := by omega
  have h2 : (3 * (i : Int) + k).toNat % 3 = k := by omega
  unfold vt
  rw [h1, h2]
theorem nx_tri (i k : Nat) (hk : k < 3) : nx (3 * (i : Int) + k) = 3 * (i : Int) + ((k + 1) % 3 : Nat) := by unfold nx; omega
theorem pv_tri (i k : Nat) (hk : k < 3) : pv (3 * (i : Int) + k) = 3 * (i : Int) + ((k + 2) % 3 : Nat) := by unfold pv; omega
theorem edgeAt_tri (T : List Tr) (i k : Nat) (hk : k < 3) : edgeAt T (3 * (i : Int) + k) = (tg (T! T i) ((k + 1) % 3), tg (T! T i) ((k + 2) % 3)) := by
  unfold edgeAt
  rw [nx_tri i k hk, pv_tri i k hk, vt_tri T i _ (by omega), vt_tri T i _ (by omega)]
theorem facing_some {T : List Tr} {e : Int × Int} (h : 0 ≤ facing T e) : ∃ c : Nat, facing T e = c ∧ c < 3 * T.length ∧ edgeAt T c = e := by
  unfold facing faceFrom at h ⊢
  cases hf : (List.range' 0 (3 * T.length - 0)).find? fun c : Nat => edgeAt T c == e with
  | none => rw [hf] at h; simp at h
  | some c =>
    rw [hf] at h
    have h1 := List.mem_of_find?_eq_some hf
    have h2 := List.find?_some hf
    simp [List.mem_range'_1] at h1
    exact ⟨c, by simp, by omega, by simpa using h2⟩
theorem facing_of {T : List Tr} {e : Int × Int} {c : Nat} (hc : c < 3 * T.length) (he : edgeAt T c = e) : 0 ≤ facing T e := by
  unfold facing faceFrom
  cases hf : (List.range' 0 (3 * T.length - 0)).find? fun c : Nat => edgeAt T c == e with
  | none =>
    have := List.find?_eq_none.1 hf c (by simp [List.mem_range'_1]; omega)
    simp [he] at this
  | some d => simp
theorem facing_lt (T : List Tr) (e : Int × Int) : facing T e < 3 * T.length ∨ facing T e = -1 := by
  by_cases h : 0 ≤ facing T e
  · obtain ⟨c, e1, h1, _⟩ := facing_some h
    left; omega
  · right
    unfold facing faceFrom at h ⊢
    cases hf : (List.range' 0 (3 * T.length - 0)).find? fun c : Nat => edgeAt T c == e with
    | none => simp
    | some c => rw [hf] at h; simp at h
theorem opp_lt {T : List Tr} (c : Int) (h0 : 0 ≤ c) (h1 : c < 3 * T.length) : opp T c < 3 * T.length := by
  rcases facing_lt T (vt T (pv c), vt T (nx c)) with h | h
  · exact h
  · show facing T _ < _
    omega
theorem corner_of (d : Nat) : (d : Int) = 3 * ((d / 3 : Nat) : Int) + (d % 3 : Nat) := by omega
theorem edge_of_nat (T : List Tr) (d : Nat) : edgeAt T (d : Int) = (tg (T! T (d / 3)) ((d % 3 + 1) % 3), tg (T! T (d / 3)) ((d % 3 + 2) % 3)) := by
  rw [corner_of d]
  exact edgeAt_tri T (d / 3) (d % 3) (by omega)
theorem opp_tri (T : List Tr) (i k : Nat) (hk : k < 3) : opp T (3 * (i : Int) + k) = facing T (tg (T! T i) ((k + 2) % 3), tg (T! T i) ((k + 1) % 3)) := by
  unfold opp
  rw [nx_tri i k hk, pv_tri i k hk, vt_tri T i _ (by omega), vt_tri T i _ (by omega)]
theorem Surf.adj_nb {N : Int} {T : List Tr} (hs : Surf N T) {i j : Nat} (h : Adj T i j) : NbA T i j := by
  obtain ⟨k, hk, h0, e⟩ := h
  rw [opp_tri T i k hk] at h0 e
  obtain ⟨d, e1, hd, he⟩ := facing_some h0
  rw [e1] at e
  have hdj : d / 3 = j := by simpa using e
  rw [edge_of_nat, hdj] at he
  simp only [Prod.mk.injEq] at he
  have hj : j < T.length := by omega
  refine ⟨?_, hj, nbB_iff.2 ⟨(k + 1) % 3, (d % 3 + 1) % 3, by omega, by omega, ?_, ?_⟩⟩
  · by_cases hi : i < T.length
    · exact hi
    · have hT : T! T i = (0, 0, 0) := by simp [T!, List.getD_eq_getElem?_getD, List.getElem?_eq_none (Nat.le_of_not_lt hi)]
      rw [hT] at he
      have hz : ∀ m, tg ((0, 0, 0) : Tr) m = 0 := fun m => by
        match m with
        | 0 => rfl
        | 1 => rfl
        | _ + 2 => rfl
      rw [hz, hz] at he
      have := tg_ne (hs.noloop j hj) (l := (d % 3 + 1) % 3) (j := (d % 3 + 2) % 3) (by omega) (by omega) (he.1.trans he.2.symm)
      omega
  · rw [show ((d % 3 + 1) % 3 + 1) % 3 = (d % 3 + 2) % 3 by omega]
    exact he.2.symm
  · rw [show ((k + 1) % 3 + 1) % 3 = (k + 2) % 3 by omega]
    exact he.1.symm
theorem Surf.nb_adj {N : Int} {T : List Tr} (hs : Surf N T) {i j : Nat} (h : NbA T i j) : Adj T i j := by
  obtain ⟨hi, hj, h⟩ := h
  obtain ⟨p, q, hp, hq, e1, e2⟩ := nbB_iff.1 h
  have hed : edgeAt T ((3 * j + (q + 2) % 3 : Nat) : Int) = (tg (T! T i) (((p + 2) % 3 + 2) % 3), tg (T! T i) (((p + 2) % 3 + 1) % 3)) := by
    rw [edge_of_nat, show (3 * j + (q + 2) % 3) / 3 = j by omega, show ((3 * j + (q + 2) % 3) % 3 + 1) % 3 = q by omega, show ((3 * j + (q + 2) % 3) % 3 + 2) % 3 = (q + 1) % 3 by omega,
      show ((p + 2) % 3 + 2) % 3 = (p + 1) % 3 by omega, show ((p + 2) % 3 + 1) % 3 = p by omega, e1, e2]
  have h0 := facing_of (T := T) (c := 3 * j + (q + 2) % 3) (by omega) hed
  refine ⟨(p + 2) % 3, by omega, ?_, ?_⟩
  · rw [opp_tri T i _ (by omega)]; exact h0
  · rw [opp_tri T i _ (by omega)]
    obtain ⟨d, e3, hd, he⟩ := facing_some h0
    rw [e3, Int.toNat_natCast]
    rw [← hed, edge_of_nat, edge_of_nat] at he
    simp only [Prod.mk.injEq] at he
    have := hs.edge_one (i := d / 3) (i' := (3 * j + (q + 2) % 3) / 3) (p := (d % 3 + 1) % 3) (q := ((3 * j + (q + 2) % 3) % 3 + 1) % 3) (by omega) (by omega) (by omega) (by omega) he.1
      (by rw [show ((d % 3 + 1) % 3 + 1) % 3 = (d % 3 + 2) % 3 by omega, show (((3 * j + (q + 2) % 3) % 3 + 1) % 3 + 1) % 3 = ((3 * j + (q + 2) % 3) % 3 + 2) % 3 by omega]; exact he.2)
    omega
theorem Surf.adj_symm {N : Int} {T : List Tr} (hs : Surf N T) {i j : Nat} (h : Adj T i j) : Adj T j i := hs.nb_adj (hs.adj_nb h).symm
/-- The shells' numbers by the corners across are those by neighbours. -/
theorem Surf.shells_same {N : Int} {T : List Tr} (hs : Surf N T) {L M : Nat → Int} (hL : IsShells (Adj T) T.length L) (hM : IsShells (NbA T) T.length M) : ∀ i, i < T.length → L i = M i :=
  hL.same hM (fun i j hi hj h => hM.clo i j hi hj (hs.adj_nb h)) (fun i j hi hj h => hL.clo i j hi hj (hs.nb_adj h)) (fun i j _ h => (hs.adj_nb h).2.1) (fun i j _ h => (hs.adj_nb h).1) (fun i j _ h => h.2.1) (fun i j _ h => h.1)
theorem Surf.shells_one {N : Int} {T : List Tr} (hs : Surf N T) {L M : Nat → Int} (hL : IsShells (Adj T) T.length L) (hM : IsShells (Adj T) T.length M) : ∀ i, i < T.length → L i = M i :=
  hL.same hM (fun i j hi hj h => hM.clo i j hi hj h) (fun i j hi hj h => hL.clo i j hi hj h) (fun i j _ h => (hs.adj_nb h).2.1) (fun i j _ h => (hs.adj_nb h).1) (fun i j _ h => (hs.adj_nb h).2.1) (fun i j _ h => (hs.adj_nb h).1)
/-- Triangles at a vertex that have another vertex in common are one, or neighbours. -/
theorem Surf.padj {N : Int} {T : List Tr} (hs : Surf N T) {v : Int} {i k : Nat} (h : PAdj T v i k) : i = k ∨ NbA T i k := by
  obtain ⟨hi, hk, h1, h2, j, hj, hne, h3⟩ := h
  obtain ⟨p, hp, e1⟩ := hasB_iff.1 h1
  obtain ⟨p', hp', e2⟩ := hasB_iff.1 h2
  obtain ⟨j', hj', e3⟩ := hasB_iff.1 h3
  have hpj : p ≠ j := fun e => hne (by rw [← e]; exact e1)
  have hpj' : p' ≠ j' := fun e => hne (by rw [← e3, ← e]; exact e2)
  have hd : j = (p + 1) % 3 ∨ p = (j + 1) % 3 := by omega
  have hd' : j' = (p' + 1) % 3 ∨ p' = (j' + 1) % 3 := by omega
  rcases hd with hd | hd <;> rcases hd' with hd' | hd'
  · exact .inl (hs.edge_one hi hk hp hp' (e1.trans e2.symm) (by rw [← hd, ← hd']; exact e3.symm)).1
  · exact .inr ⟨hi, hk, nbB_iff.2 ⟨p, j', hp, hj', by rw [← hd']; exact e1.trans e2.symm, by rw [← hd]; exact e3.symm⟩⟩
  · exact .inr ⟨hi, hk, nbB_iff.2 ⟨j, p', hj, hp', by rw [← hd']; exact e3.symm, by rw [← hd]; exact e1.trans e2.symm⟩⟩
  · exact .inl (hs.edge_one hi hk hj hj' e3.symm (by rw [← hd, ← hd']; exact e1.trans e2.symm)).1
/-- Triangles with a vertex in common are of one shell. -/
theorem Surf.at_vertex {N : Int} {T : List Tr} (hs : Surf N T) {L : Nat → Int} (hL : IsShells (Adj T) T.length L) {v : Int} {i k : Nat} (hi : i < T.length) (hk : k < T.length) (h1 : hasB (T! T i) v = true) (h2 : hasB (T! T k) v = true) : L i = L k := by
  obtain ⟨j, e⟩ := hasB_tg h1
  have hv := hs.vin i hi j
  rw [e] at hv
  have hc := hs.pin v hv.1 hv.2 i k hi hk h1 h2
  have step : ∀ a b, PAdj T v a b → L a = L b := fun a b h => by
    rcases hs.padj h with rfl | h'
    · rfl
    · exact (hL.clo a b h.1 h.2.1 (hs.nb_adj h')).symm
  have gen : ∀ a b, Conn (PAdj T v) a b → L a = L b := by
    intro a b c
    induction c with
    | refl => rfl
    | step _ s ih => exact ih.trans (step _ _ s)
    | back _ s ih => exact ih.trans (step _ _ s).symm
  exact gen i k hc
end Go.Proofs.Ytkggphfekeiejaa

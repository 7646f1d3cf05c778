/- Bays as charts: of values that are each triangle's bay the charts are the parts of bays. Plain. -/
import Derived.Test.YtfbpjlfimmjieaaGreatCSurf
import Derived.Test.YtfbpjlfimmjieaaGreatCutSpec
namespace Go.Proofs.YtfbpjlfimmjieaaGreat
set_option linter.unusedVariables false
set_option linter.unusedSimpArgs false
open Go.RowKit
theorem Conn.map_adj {A B : Nat → Nat → Prop} {i j : Nat} (c : Conn A i j) (h : ∀ i j, A i j → B i j) : Conn B i j := by
  induction c with
  | refl => exact .refl _
  | step _ s ih => exact .step ih (h _ _ s)
  | back _ s ih => exact .back ih (h _ _ s)
section
variable {n : Nat} {T : List Tr} {bays : List Int} {M : Nat → Int}
/-- Each triangle's bay, at its three corners. -/
def kB (bays : List Int) (m : Nat) : List Int := (List.range m).flatMap fun t => [I! bays t, I! bays t, I! bays t]
theorem kB_succ (bays : List Int) (m : Nat) : kB bays (m + 1) = kB bays m ++ [I! bays m, I! bays m, I! bays m] := by simp [kB, List.range_succ]
theorem kB_length (bays : List Int) (m : Nat) : (kB bays m).length = 3 * m := by
  induction m with
  | zero => rfl
  | succ m ih => rw [kB_succ, List.length_append, ih]; simp; omega
theorem kB_get (bays : List Int) {m c : Nat} (h : c < 3 * m) : I! (kB bays m) c = I! bays (c / 3) := by
  induction m with
  | zero => omega
  | succ m ih =>
    rw [kB_succ]
    by_cases hc : c < 3 * m
    · rw [← ih hc]
      have e : (kB bays m ++ [I! bays m, I! bays m, I! bays m])[c]? = (kB bays m)[c]? := List.getElem?_append_left (by rw [kB_length]; exact hc)
      have g : ∀ (xs : List Int) (i : Nat), I! xs i = xs[i]?.getD 0 := fun xs i => by unfold I!; rw [List.getD_eq_getElem?_getD]
      rw [g (kB bays m ++ _), e, ← g]
    · have h3 : c / 3 = m := by omega
      have g : ∀ (xs : List Int) (i : Nat), I! xs i = xs[i]?.getD 0 := fun xs i => by unfold I!; rw [List.getD_eq_getElem?_getD]
      rw [h3, g (kB bays m ++ _), List.getElem?_append_right (by rw [kB_length]; omega), kB_length]
      have : c - 3 * m = 0 ∨ c - 3 * m = 1 ∨ c - 3 * m = 2 := by omega
      rcases this with e | e | e <;> rw [e] <;> rfl
theorem bay_open (hs : Surf n T) {c o : Nat} (hc : c < 3 * T.length) (h : opp T (c : Int) = (o : Int)) : OpenK T (kB bays T.length) c o ↔ I! bays (c / 3) = I! bays (o / 3) := by
  obtain ⟨o', e, hol, -⟩ := hs.opp_opp hc (by omega)
  obtain rfl : o' = o := by omega
  unfold OpenK
  rw [kB_get bays (nxn_lt hc), kB_get bays (pvn_lt hc), kB_get bays (nxn_lt hol), kB_get bays (pvn_lt hol), nxn_div, pvn_div, nxn_div, pvn_div]
  exact ⟨fun h => h.2.1, fun e => ⟨h, e, e⟩⟩
theorem bay_sadj (hs : Surf n T) {x y : Nat} : KSAdj T (kB bays T.length) x y ↔ SAdj T (I! bays) x y := by
  constructor
  · rintro ⟨hx, hy, o, ⟨h, rfl⟩ | ⟨h, rfl⟩⟩
    · have := (bay_open hs (nxn_lt hx) h.1).1 h
      rw [nxn_div] at this
      exact ⟨hx, hy, by rw [nxn_div]; exact this.symm, o, .inl ⟨h.1, rfl⟩⟩
    · have := (bay_open hs (pvn_lt hx) h.1).1 h
      rw [pvn_div] at this
      exact ⟨hx, hy, by rw [pvn_div]; exact this.symm, o, .inr ⟨h.1, rfl⟩⟩
  · rintro ⟨hx, hy, hb, o, ⟨h, rfl⟩ | ⟨h, rfl⟩⟩
    · rw [nxn_div] at hb
      exact ⟨hx, hy, o, .inl ⟨(bay_open hs (nxn_lt hx) h).2 (by rw [nxn_div]; exact hb.symm), rfl⟩⟩
    · rw [pvn_div] at hb
      exact ⟨hx, hy, o, .inr ⟨(bay_open hs (pvn_lt hx) h).2 (by rw [pvn_div]; exact hb.symm), rfl⟩⟩
theorem kadj_bay (hs : Surf n T) {i j : Nat} (h : KAdj T (kB bays T.length) i j) : I! bays i = I! bays j := by
  obtain ⟨c, o, hc, ho, hop, rfl, rfl⟩ := h
  exact (bay_open hs hc hop.1).1 hop
theorem conn_bay (hs : Surf n T) {i j : Nat} (h : Conn (KAdj T (kB bays T.length)) i j) : I! bays i = I! bays j := by
  induction h with
  | refl => rfl
  | step _ s ih => exact ih.trans (kadj_bay hs s)
  | back _ s ih => exact ih.trans (kadj_bay hs s).symm
/-- Triangles of one chart are of one bay. -/
theorem chart_bay (hs : Surf n T) (hM : IsShells (KAdj T (kB bays T.length)) T.length M) {i j : Nat} (hi : i < T.length) (hj : j < T.length) (h : M i = M j) : I! bays i = I! bays j := conn_bay hs (hM.con i j hi hj h)
theorem bay_sel (hs : Surf n T) (hM : IsShells (KAdj T (kB bays T.length)) T.length M) {t : Nat} (ht : t < T.length) (h1 : ∀ u, u < T.length → I! bays u = I! bays t → M u = M t) : ∀ c, c < 3 * T.length → (I! (mL M T.length) (c / 3) = M t ↔ I! bays (c / 3) = I! bays t) := fun c hc => by
  rw [mL_get (by omega)]
  exact ⟨fun h => chart_bay hs hM (by omega) ht h, fun h => h1 _ (by omega) h⟩
/-- What rim.Cut makes of a bay that hangs together is what chart.Surface makes of its chart. -/
theorem bay_piece (hs : Surf n T) (hM : IsShells (KAdj T (kB bays T.length)) T.length M) {t : Nat} (ht : t < T.length) (h1 : ∀ u, u < T.length → I! bays u = I! bays t → M u = M t) {L : Nat → Int} {F : List Nat} (hc : CutIs T bays (I! bays t) L F) :
    Piece (KSAdj T (kB bays T.length)) T (mL M T.length) (M t) L F ∧ sel (mL M T.length) (M t) T.length = sel bays (I! bays t) T.length ∧ sel (mL M T.length) (M t) T.length ≠ [] ∧ cutT (mL M T.length) (M t) L F T.length = cutT bays (I! bays t) L F T.length := by
  have hb := bay_sel hs hM ht h1
  have hL : IsLeast (KSAdj T (kB bays T.length)) (3 * T.length) L := ⟨hc.least.nonneg, hc.least.le, fun i j hi hj h => hc.least.clo i j hi hj ((bay_sadj hs).1 h), fun i hi => (hc.least.con i hi).map_adj fun _ _ h => (bay_sadj hs).2 h⟩
  have hp := rowK_piece hs hM hL (M t)
  have hr : reps (mL M T.length) (M t) L (3 * T.length) = reps bays (I! bays t) L (3 * T.length) := by
    unfold reps
    refine List.filter_congr fun c hc => ?_
    have := hb c (List.mem_range.1 hc)
    simp only [this]
  have hsel : sel (mL M T.length) (M t) T.length = sel bays (I! bays t) T.length := by
    unfold sel
    refine List.filter_congr fun u hu => ?_
    have := hb (3 * u) (by have := List.mem_range.1 hu; omega)
    rw [show 3 * u / 3 = u by omega] at this
    simp only [this]
  refine ⟨{ hp with perm := by rw [hr]; exact hc.perm, sorted := hc.sorted }, hsel, fun e => ?_, by unfold cutT; rw [hsel]⟩
  have : t ∈ sel (mL M T.length) (M t) T.length := selP_mem.2 ⟨ht, by rw [mL_get ht]⟩
  rw [e] at this
  cases this
theorem piece_ne1 {A : Nat → Nat → Prop} {L : Nat → Int} {F : List Nat} {bay : Int} (hp : Piece A T bays bay L F) (hs : Surf n T) {t : Nat} (ht : t < T.length) (hb : I! bays t = bay) : F.length ≠ 1 := by
  obtain ⟨k0, -, h0, e0⟩ := hp.old hs (c := 3 * t + 0) (by omega) (by rw [show (3 * t + 0) / 3 = t by omega]; exact hb)
  obtain ⟨k1, -, h1, e1⟩ := hp.old hs (c := 3 * t + 1) (by omega) (by rw [show (3 * t + 1) / 3 = t by omega]; exact hb)
  intro e
  obtain rfl : k0 = k1 := by omega
  rw [vt3P T t (by omega)] at e0 e1
  have := tg_inj (hs.noloop t ht) (by omega) (by omega) (e0.symm.trans e1)
  omega
end
end Go.Proofs.YtfbpjlfimmjieaaGreat

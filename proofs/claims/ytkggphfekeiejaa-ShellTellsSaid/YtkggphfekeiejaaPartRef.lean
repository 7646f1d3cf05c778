/- Plain laws: the reference's vertices of a shell are the program's; owned rows of different kinds lie apart. -/
import Derived.Test.YtkggphfekeiejaaPartSpec
namespace Go.Proofs.Ytkggphfekeiejaa
set_option linter.unusedVariables false
set_option linter.unusedSimpArgs false
open Go.RowKit
def inV (T : List Tr) (L : Nat → Int) (n k v : Nat) : Bool := (List.range n).any fun i => decide (L i = (k : Int)) && hasB (T! T i) (v : Int)
theorem inV_succ (T : List Tr) (L : Nat → Int) (i k v : Nat) : inV T L (i + 1) k v = (inV T L i k v || (decide (L i = (k : Int)) && hasB (T! T i) (v : Int))) := by simp [inV, List.range_succ]
/-- The vertices below m of shell k, rising. -/
def refV (T : List Tr) (L : Nat → Int) (n k m : Nat) : List Int := ((List.range m).filter (inV T L n k)).map fun (v : Nat) => (v : Int)
theorem refV_yes {T : List Tr} {L : Nat → Int} {n k m : Nat} (h : inV T L n k m = true) : refV T L n k (m + 1) = refV T L n k m ++ [(m : Int)] := by simp [refV, List.range_succ, h]
theorem refV_no {T : List Tr} {L : Nat → Int} {n k m : Nat} (h : inV T L n k m = false) : refV T L n k (m + 1) = refV T L n k m := by simp [refV, List.range_succ, h]
theorem refV_length (T : List Tr) (L : Nat → Int) (n k m : Nat) : (refV T L n k m).length ≤ m := by
  have := List.length_filter_le (inV T L n k) (List.range m)
  simpa [refV] using this
theorem refV_lt (T : List Tr) (L : Nat → Int) (n k m : Nat) : ∀ x ∈ refV T L n k m, x < m := by
  intro x hx
  simp only [refV, List.mem_map, List.mem_filter, List.mem_range] at hx
  obtain ⟨v, ⟨hv, -⟩, rfl⟩ := hx
  omega
theorem refV_sorted (T : List Tr) (L : Nat → Int) (n k : Nat) : ∀ m, (refV T L n k m).Pairwise (· < ·)
  | 0 => by simp [refV]
  | m + 1 => by
    cases h : inV T L n k m
    · rw [refV_no h]; exact refV_sorted T L n k m
    · rw [refV_yes h]
      refine List.pairwise_append.2 ⟨refV_sorted T L n k m, by simp, fun a ha b hb => ?_⟩
      simp at hb
      subst hb
      exact refV_lt T L n k m a ha
/-- Rising lists of the same numbers are the same. -/
theorem sorted_ext : ∀ {A B : List Int}, A.Pairwise (· < ·) → B.Pairwise (· < ·) → (∀ x, x ∈ A ↔ x ∈ B) → A = B
  | [], [], _, _, _ => rfl
  | [], b :: B, _, _, h => by have := (h b).2 (by simp); simp at this
  | a :: A, [], _, _, h => by have := (h a).1 (by simp); simp at this
  | a :: A, b :: B, hA, hB, h => by
    rw [List.pairwise_cons] at hA hB
    have h1 := (h a).1 (by simp)
    have h2 := (h b).2 (by simp)
    have hab : a = b := by
      rw [List.mem_cons] at h1 h2
      rcases h1 with h1 | h1
      · exact h1
      · rcases h2 with h2 | h2
        · exact h2.symm
        · have q1 := hB.1 a h1
          have q2 := hA.1 b h2
          omega
    subst hab
    congr 1
    refine sorted_ext hA.2 hB.2 fun x => ⟨fun hx => ?_, fun hx => ?_⟩
    · have := (h x).1 (List.mem_cons_of_mem _ hx)
      rw [List.mem_cons] at this
      rcases this with rfl | this
      · have := hA.1 x hx; omega
      · exact this
    · have := (h x).2 (List.mem_cons_of_mem _ hx)
      rw [List.mem_cons] at this
      rcases this with rfl | this
      · have := hB.1 x hx; omega
      · exact this
theorem corners3_mem {t : Tr} {x : Int} : x ∈ corners3 t ↔ hasB t x = true := by
  simp only [corners3, List.mem_cons, List.not_mem_nil, or_false, hasB, Bool.or_eq_true, beq_iff_eq]
  constructor
  · rintro (h | h | h)
    · exact .inl (.inl h.symm)
    · exact .inl (.inr h.symm)
    · exact .inr h.symm
  · rintro ((h | h) | h)
    · exact .inl h.symm
    · exact .inr (.inl h.symm)
    · exact .inr (.inr h.symm)
theorem vertsOf_mem {T : List Tr} {L : Nat → Int} {n k : Nat} {x : Int} : x ∈ vertsOf T (ofShell L n k) ↔ ∃ i, i < n ∧ L i = k ∧ hasB (T! T i) x = true := by
  unfold vertsOf
  rw [uniq_mem, List.mem_flatMap]
  constructor
  · rintro ⟨i, hi, hx⟩
    have := ofShell_lt hi
    exact ⟨i, this.1, this.2, corners3_mem.1 hx⟩
  · rintro ⟨i, hi, hL, hx⟩
    exact ⟨i, by simp [ofShell, hi, hL], corners3_mem.2 hx⟩
theorem hasB_tg {t : Tr} {x : Int} (h : hasB t x = true) : ∃ j, tg t j = x := by
  simp only [hasB, Bool.or_eq_true, beq_iff_eq] at h
  rcases h with (h | h) | h
  · exact ⟨0, h⟩
  · exact ⟨1, h⟩
  · exact ⟨2, h⟩
theorem refV_mem {T : List Tr} {L : Nat → Int} {n k m : Nat} {x : Int} : x ∈ refV T L n k m ↔ 0 ≤ x ∧ x < m ∧ ∃ i, i < n ∧ L i = k ∧ hasB (T! T i) x = true := by
  simp only [refV, List.mem_map, List.mem_filter, List.mem_range, inV, List.any_eq_true, Bool.and_eq_true, decide_eq_true_eq]
  constructor
  · rintro ⟨v, ⟨hv, i, hi, hL, hh⟩, rfl⟩
    exact ⟨by omega, by omega, i, hi, hL, hh⟩
  · rintro ⟨h0, h1, i, hi, hL, hh⟩
    obtain ⟨v, rfl⟩ := Int.eq_ofNat_of_zero_le h0
    exact ⟨v, ⟨by omega, i, hi, hL, hh⟩, rfl⟩
theorem refV_verts {T : List Tr} {L : Nat → Int} {n k N : Nat} (h : ∀ i, i < n → ∀ j, 0 ≤ tg (T! T i) j ∧ tg (T! T i) j < N) : refV T L n k N = vertsOf T (ofShell L n k) := by
  refine sorted_ext (refV_sorted T L n k N) (uniq_lt _) fun x => ?_
  rw [refV_mem, vertsOf_mem]
  constructor
  · rintro ⟨-, -, h⟩; exact h
  · rintro ⟨i, hi, hL, hh⟩
    obtain ⟨j, e⟩ := hasB_tg hh
    have := h i hi j
    exact ⟨by omega, by omega, i, hi, hL, hh⟩
theorem refV_rank (T : List Tr) (L : Nat → Int) (n k x : Nat) : ∀ N, x ≤ N → ((refV T L n k x).length : Int) = rank (refV T L n k N) x
  | 0, h => by
    have : x = 0 := by omega
    subst this
    simp [refV, rank]
  | N + 1, h => by
    by_cases e : x = N + 1
    · subst e
      unfold rank
      congr 1
      refine (List.countP_eq_length.2 fun y hy => ?_).symm
      have := refV_lt T L n k (N + 1) y hy
      simpa using this
    · have ih := refV_rank T L n k x N (by omega)
      rw [ih]
      unfold rank
      cases hh : inV T L n k N
      · rw [refV_no hh]
      · rw [refV_yes hh, List.countP_append]
        simp [show ¬ N < x by omega]
/-- What 'to' holds when the vertices below m have been looked at. -/
def toF (T : List Tr) (L : Nat → Int) (n k m : Nat) : Nat → Int := fun x => if x < m ∧ inV T L n k x = true then ((refV T L n k x).length : Int) else 0
theorem toF_yes {T : List Tr} {L : Nat → Int} {n k m : Nat} (h : inV T L n k m = true) : upd (toF T L n k m) m ((refV T L n k m).length : Int) = toF T L n k (m + 1) := by
  funext x
  unfold upd toF
  by_cases e : x = m
  · subst e; simp [h]
  · have : (x < m + 1) = (x < m) := by simp; omega
    simp [e, this]
theorem toF_no {T : List Tr} {L : Nat → Int} {n k m : Nat} (h : inV T L n k m = false) : toF T L n k m = toF T L n k (m + 1) := by
  funext x
  unfold toF
  by_cases e : x = m
  · subst e; simp [h]
  · have : (x < m + 1) = (x < m) := by simp; omega
    simp [this]
theorem toF_zero (T : List Tr) (L : Nat → Int) (n k : Nat) : toF T L n k 0 = fun _ => 0 := by funext x; simp [toF]
theorem toF_rank {T : List Tr} {L : Nat → Int} {n k N x : Nat} (hv : ∀ i, i < n → ∀ j, 0 ≤ tg (T! T i) j ∧ tg (T! T i) j < N) (hx : x < N) {i : Nat} (hi : i < n) (hL : L i = k) (hh : hasB (T! T i) (x : Int) = true) :
    toF T L n k N x = rank (vertsOf T (ofShell L n k)) x := by
  have h1 : inV T L n k x = true := by
    simp only [inV, List.any_eq_true, List.mem_range, Bool.and_eq_true, decide_eq_true_eq]
    exact ⟨i, hi, hL, hh⟩
  unfold toF
  rw [if_pos ⟨hx, h1⟩, refV_rank T L n k x N (by omega), refV_verts hv]
/-- Rows of unlike kinds lie apart. -/
theorem owns_apart {w : World} {base base' : Nat} {e e' : TypeId} {sz sz' n n' : Nat} {v v' : Value} {xs xs' : List Value} (h : w.ownsRow base e sz v n xs) (k : w.ownsRow base' e' sz' v' n' xs') (hne : e ≠ e') : v.ownBlock = none ∨ v.ownBlock ≠ v'.ownBlock := by
  cases hk : v.ownBlock with
  | none => exact .inl rfl
  | some g =>
    right
    intro hk'
    obtain ⟨_, h2⟩ := h
    obtain ⟨_, k2⟩ := k
    rcases h2 with ⟨h2, _⟩ | ⟨g1, cap, cur, rfl, _, hh, _⟩
    · subst h2; simp [Value.ownBlock] at hk
    · rcases k2 with ⟨k2, _⟩ | ⟨g2, cap', cur', rfl, _, kk, _⟩
      · subst k2; simp [Value.ownBlock] at hk'
      · simp [Value.ownBlock] at hk hk'
        subst hk
        subst hk'
        rw [hh] at kk
        simp at kk
        exact hne kk.2
theorem owns_kept {w w' : World} {base base' : Nat} {e e' : TypeId} {sz sz' n n' : Nat} {v v' : Value} {xs xs' : List Value} (h : w.ownsRow base e sz v n xs) (k : w.ownsRow base' e' sz' v' n' xs') (hne : e ≠ e') (hg : w.grownBy w' v'.ownBlock) : w'.ownsRow base e sz v n xs :=
  h.kept hg (owns_apart h k hne)
/-- A row of four cells is a part, in memory of its own. -/
def PartOwn (w : World) (base : Nat) (r : Nat → Value) (P : PartV) : Prop :=
  r 0 = .int .i64 P.N ∧ w.ownsRow base 49 3 (r 1) P.S.length (tcells P.S) ∧ w.ownsRow base 3 1 (r 2) P.V.length (P.V.map (Value.int .i64)) ∧ w.ownsRow base 3 1 (r 3) P.T.length (P.T.map (Value.int .i64))
theorem PartOwn.more {w w' : World} {base : Nat} {r : Nat → Value} {P : PartV} (h : PartOwn w base r P) (hb : Below w.heap.size w w') : PartOwn w' base r P :=
  ⟨h.1, owns_below h.2.1 hb, owns_below h.2.2.1 hb, owns_below h.2.2.2 hb⟩
theorem PartOwn.low {w : World} {base base' : Nat} {r : Nat → Value} {P : PartV} (h : PartOwn w base r P) (hb : base' ≤ base) : PartOwn w base' r P :=
  ⟨h.1, owns_base h.2.1 hb, owns_base h.2.2.1 hb, owns_base h.2.2.2 hb⟩
theorem PartOwn.kept {w w' : World} {base base' : Nat} {r : Nat → Value} {P : PartV} {e' : TypeId} {sz' n' : Nat} {v' : Value} {xs' : List Value} (h : PartOwn w base r P) (k : w.ownsRow base' e' sz' v' n' xs') (h1 : 49 ≠ e') (h2 : 3 ≠ e') (hg : w.grownBy w' v'.ownBlock) : PartOwn w' base r P :=
  ⟨h.1, owns_kept h.2.1 k h1 hg, owns_kept h.2.2.1 k h2 hg, owns_kept h.2.2.2 k h2 hg⟩
end Go.Proofs.Ytkggphfekeiejaa

/- Plain law: edges that end nowhere are taken away, until none is left. -/
import Derived.Test.YtkjamheoihlekaaGreatBase
namespace Go.Proofs.YtkjamheoihlekaaGreat
set_option linter.unusedVariables false
set_option linter.unusedSimpArgs false
theorem sub_len18 {α : Type} [DecidableEq α] : ∀ (l m : List α), l.Nodup → (∀ x, x ∈ l → x ∈ m) → l.length ≤ m.length
  | [], _, _, _ => Nat.zero_le _
  | a :: l, m, hn, hs => by
    have ha : a ∈ m := hs a (by simp)
    have hn' := List.nodup_cons.1 hn
    have := sub_len18 l (m.erase a) hn'.2 fun x hx => (List.mem_erase_of_ne (fun e => hn'.1 (by rw [← e]; exact hx))).2 (hs x (by simp [hx]))
    rw [List.length_erase_of_mem ha] at this
    have hp : 0 < m.length := List.length_pos_of_mem ha
    simp only [List.length_cons]
    omega
/-- How many ends stand at a vertex. -/
def degE (E : List (Int × Int)) (v : Int) : Nat := E.countP (fun e => decide (e.1 = v)) + E.countP (fun e => decide (e.2 = v))
def keepE (E : List (Int × Int)) (e : Int × Int) : Bool := decide (degE E e.1 ≠ 1) && decide (degE E e.2 ≠ 1)
def shave (E : List (Int × Int)) : List (Int × Int) := E.filter (keepE E)
def pruneN : Nat → List (Int × Int) → List (Int × Int)
  | 0, E => E
  | n + 1, E => shave (pruneN n E)
def pruneE (E : List (Int × Int)) : List (Int × Int) := pruneN E.length E
theorem shave_le (E : List (Int × Int)) : (shave E).length ≤ E.length := List.length_filter_le _ _
theorem shave_same {E : List (Int × Int)} (h : (shave E).length = E.length) : shave E = E := List.filter_eq_self.2 (List.length_filter_eq_length_iff.1 h)
theorem pruneN_stop {E : List (Int × Int)} {k : Nat} (h : shave (pruneN k E) = pruneN k E) : ∀ m, pruneN (k + m) E = pruneN k E
  | 0 => rfl
  | m + 1 => by
    show shave (pruneN (k + m) E) = _
    rw [pruneN_stop h m, h]
theorem pruneN_less (E : List (Int × Int)) : ∀ k, shave (pruneN k E) = pruneN k E ∨ (pruneN (k + 1) E).length + (k + 1) ≤ E.length
  | 0 => by
    by_cases h : (shave E).length = E.length
    · exact .inl (shave_same h)
    · right
      have := shave_le E
      show (shave E).length + 1 ≤ _
      omega
  | k + 1 => by
    rcases pruneN_less E k with h | h
    · left
      have := pruneN_stop h 1
      rw [this, h]
    · by_cases h2 : (shave (pruneN (k + 1) E)).length = (pruneN (k + 1) E).length
      · exact .inl (shave_same h2)
      · right
        have := shave_le (pruneN (k + 1) E)
        show (shave (pruneN (k + 1) E)).length + (k + 1 + 1) ≤ _
        omega
/-- What is left stays. -/
theorem shave_prune (E : List (Int × Int)) : shave (pruneE E) = pruneE E := by
  unfold pruneE
  rcases pruneN_less E E.length with h | h
  · exact h
  · exact absurd h (by omega)
/-- Where the walk stops it is done. -/
theorem prune_end {E : List (Int × Int)} {k : Nat} (h : (shave (pruneN k E)).length = (pruneN k E).length) : pruneE E = pruneN k E ∧ pruneE E = pruneN (k + 1) E := by
  have hs := shave_same h
  have h1 : pruneE E = pruneN k E := by
    unfold pruneE
    by_cases hk : k ≤ E.length
    · have := pruneN_stop hs (E.length - k)
      rwa [show k + (E.length - k) = E.length by omega] at this
    · have := pruneN_stop (shave_prune E) (k - E.length)
      rw [show E.length + (k - E.length) = k by omega] at this
      exact this.symm
  exact ⟨h1, by rw [h1]; exact hs.symm⟩
theorem prune_idem (E : List (Int × Int)) : pruneE (pruneE E) = pruneE E := by
  have := pruneN_stop (E := pruneE E) (k := 0) (shave_prune E) (pruneE E).length
  rw [Nat.zero_add] at this
  exact this
theorem prune_sub (E : List (Int × Int)) : ∀ n, (pruneN n E).Sublist E
  | 0 => List.Sublist.refl _
  | n + 1 => (List.filter_sublist).trans (prune_sub E n)
theorem degE_perm {E F : List (Int × Int)} (h : E.Perm F) (v : Int) : degE E v = degE F v := by
  unfold degE
  rw [h.countP_eq, h.countP_eq]
theorem shave_perm {E F : List (Int × Int)} (h : E.Perm F) : (shave E).Perm (shave F) := by
  have : keepE E = keepE F := by
    funext e
    unfold keepE
    rw [degE_perm h, degE_perm h]
  unfold shave
  rw [this]
  exact h.filter _
theorem pruneN_perm {E F : List (Int × Int)} (h : E.Perm F) : ∀ n, (pruneN n E).Perm (pruneN n F)
  | 0 => h
  | n + 1 => shave_perm (pruneN_perm h n)
theorem prune_perm {E F : List (Int × Int)} (h : E.Perm F) : (pruneE E).Perm (pruneE F) := by
  unfold pruneE
  rw [h.length_eq]
  exact pruneN_perm h _
/-- Each end that is left has another one. -/
theorem prune_deg {E : List (Int × Int)} {e : Int × Int} (h : e ∈ pruneE E) : 2 ≤ degE (pruneE E) e.1 ∧ 2 ≤ degE (pruneE E) e.2 := by
  have h1 : e ∈ shave (pruneE E) := by rw [shave_prune]; exact h
  obtain ⟨hm, hk⟩ := List.mem_filter.1 h1
  unfold keepE at hk
  simp only [ne_eq, Bool.and_eq_true, decide_eq_true_eq] at hk
  have p1 : 0 < (pruneE E).countP (fun x => decide (x.1 = e.1)) := List.countP_pos_iff.2 ⟨e, h, by simp⟩
  have p2 : 0 < (pruneE E).countP (fun x => decide (x.2 = e.2)) := List.countP_pos_iff.2 ⟨e, h, by simp⟩
  unfold degE at hk ⊢
  omega
end Go.Proofs.YtkjamheoihlekaaGreat

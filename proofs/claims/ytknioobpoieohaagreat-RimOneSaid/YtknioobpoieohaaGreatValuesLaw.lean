/- A bay's values stand where its triangles stand. Plain. -/
import Derived.Test.YtknioobpoieohaaGreatCutSpec
import Derived.Test.YtknioobpoieohaaGreatLocAt
namespace Go.Proofs.YtknioobpoieohaaGreat
set_option linter.unusedVariables false
set_option linter.unusedSimpArgs false
theorem sel_at {bays : List Int} {bay : Int} {t k : Nat} (h : I! bays t = bay) (hk : t < k) : (sel bays bay k)[(sel bays bay t).length]? = some t := by
  induction k with
  | zero => omega
  | succ k ih =>
    rw [sel_succ]
    by_cases e : t = k
    · subst e
      rw [if_pos h]
      simp
    · have := ih (by omega)
      split
      · rw [List.getElem?_append_left (List.getElem?_eq_some_iff.1 this).1]; exact this
      · exact this
theorem flat3_at (l : List Nat) (f g h : Nat → Int) {n i : Nat} (e : l[n]? = some i) :
    I! (l.flatMap fun i => [f i, g i, h i]) (3 * n) = f i ∧ I! (l.flatMap fun i => [f i, g i, h i]) (3 * n + 1) = g i ∧ I! (l.flatMap fun i => [f i, g i, h i]) (3 * n + 2) = h i := by
  induction l generalizing n with
  | nil => simp at e
  | cons a t ih =>
    cases n with
    | zero =>
      simp at e
      subst e
      exact ⟨rfl, rfl, rfl⟩
    | succ n =>
      have := ih (n := n) (by simpa using e)
      have s0 : 3 * (n + 1) = 3 * n + 1 + 1 + 1 := by omega
      have s1 : 3 * (n + 1) + 1 = 3 * n + 1 + 1 + 1 + 1 := by omega
      have s2 : 3 * (n + 1) + 2 = 3 * n + 2 + 1 + 1 + 1 := by omega
      rw [s2, s1, s0]
      exact this
theorem cutK_at {K bays : List Int} {bay : Int} {t N : Nat} (hK : K.length ≠ 0) (h : I! bays t = bay) (ht : t < N) :
    3 * (sel bays bay t).length + 2 < (cutK K bays bay N).length ∧ I! (cutK K bays bay N) (3 * (sel bays bay t).length) = I! K (3 * t) ∧ I! (cutK K bays bay N) (3 * (sel bays bay t).length + 1) = I! K (3 * t + 1) ∧ I! (cutK K bays bay N) (3 * (sel bays bay t).length + 2) = I! K (3 * t + 2) := by
  have hs := sel_at h ht
  have hl := (List.getElem?_eq_some_iff.1 hs).1
  refine ⟨by rw [cutK_len _ _ _ _ hK]; omega, ?_⟩
  unfold cutK
  rw [if_neg hK]
  exact flat3_at (sel bays bay N) (fun i => I! K (3 * i)) (fun i => I! K (3 * i + 1)) (fun i => I! K (3 * i + 2)) hs
/-- How many of the first t triangles are of bay b. -/
def cnt (bays : List Int) (t : Nat) (b : Nat) : Int := ((sel bays (b : Int) t).length : Int)
theorem cnt_zero (bays : List Int) : cnt bays 0 = fun _ => 0 := rfl
theorem cnt_succ {bays : List Int} {t b : Nat} (h : I! bays t = (b : Int)) : upd (cnt bays t) b (cnt bays t b + 1) = cnt bays (t + 1) := by
  funext i
  unfold upd cnt
  rw [sel_succ, h]
  by_cases e : i = b
  · subst e
    simp
  · rw [if_neg e, if_neg (by omega)]
end Go.Proofs.YtknioobpoieohaaGreat

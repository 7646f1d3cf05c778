/- rim.rims: the vertices with triangles of more than one bay. -/
import Derived.Test.YtknioobpoieohaaRimTab
import Derived.Test.YtknioobpoieohaaFaceLaw
import Derived.StillTailTactics
import Derived.RegionTactic
namespace Go.Proofs.Ytknioobpoieohaa
set_option linter.unusedVariables false
set_option linter.unusedSimpArgs false
open Go.RowKit
/-- The bay of a corner's triangle. -/
def cbay (bays : List Int) (c : Nat) : Int := I! bays (c / 3)
def manyB (T : List Tr) (bays : List Int) (v : Int) : Bool :=
  (List.range (3 * T.length)).any fun c => (List.range (3 * T.length)).any fun d => vt T c == v && vt T d == v && cbay bays c != cbay bays d
theorem manyB_iff {T : List Tr} {bays : List Int} {v : Int} : manyB T bays v = true ↔ ∃ c d, c < 3 * T.length ∧ d < 3 * T.length ∧ vt T (c : Nat) = v ∧ vt T (d : Nat) = v ∧ cbay bays c ≠ cbay bays d := by
  unfold manyB
  simp only [List.any_eq_true, List.mem_range, Bool.and_eq_true, beq_iff_eq, bne_iff_ne]
  constructor
  · rintro ⟨c, hc, d, hd, ⟨a, b⟩, e⟩
    exact ⟨c, d, hc, hd, a, b, e⟩
  · rintro ⟨c, d, hc, hd, a, b, e⟩
    exact ⟨c, hc, d, hd, ⟨a, b⟩, e⟩
/-- The rim vertices below n. -/
def rimL (T : List Tr) (bays : List Int) (n : Nat) : List Nat := (List.range n).filter fun v => manyB T bays v
theorem rimL_succ (T : List Tr) (bays : List Int) (k : Nat) : rimL T bays (k + 1) = if manyB T bays k then rimL T bays k ++ [k] else rimL T bays k := by
  unfold rimL
  rw [List.range_succ, List.filter_append]
  cases h : manyB T bays k <;> simp [h]
theorem rimL_le (T : List Tr) (bays : List Int) (k : Nat) : (rimL T bays k).length ≤ k := by
  have := List.length_filter_le (fun v : Nat => manyB T bays v) (List.range k)
  simp [rimL] at *; omega
/-- The first m corners have been looked at. -/
structure RimInv (T : List Tr) (bays : List Int) (m : Nat) (F : Nat → Int) (M : Nat → Bool) : Prop where
  fst : ∀ v : Nat, F v = -1 ∧ (∀ c, c < m → vt T (c : Nat) ≠ v) ∨ 0 ≤ F v ∧ ∃ c, c < m ∧ vt T (c : Nat) = v ∧ cbay bays c = F v
  more : ∀ v : Nat, M v = true ↔ ∃ c d, c < m ∧ d < m ∧ vt T (c : Nat) = v ∧ vt T (d : Nat) = v ∧ cbay bays c ≠ cbay bays d
theorem RimInv.start (T : List Tr) (bays : List Int) : RimInv T bays 0 (fun _ => -1) (fun _ => false) :=
  ⟨fun v => .inl ⟨rfl, fun c h => by omega⟩, fun v => ⟨fun h => (by cases h), fun ⟨c, d, h, _⟩ => by omega⟩⟩
theorem RimInv.step {T : List Tr} {bays : List Int} {m : Nat} {F F' : Nat → Int} {M : Nat → Bool} (h : RimInv T bays m F M) {x : Nat} (hx : vt T (m : Nat) = x) (hb : 0 ≤ cbay bays m)
    (hF : F' = if F x < 0 then upd F x (cbay bays m) else F) : RimInv T bays (m + 1) F' (updB M x (M x || decide (F' x ≠ cbay bays m))) := by
  have old : ∀ v : Nat, v ≠ x → F' v = F v := fun v hv => by
    rw [hF]
    split
    · simp [upd, hv]
    · rfl
  have fx : 0 ≤ F' x ∧ ∃ c, c < m + 1 ∧ vt T (c : Nat) = x ∧ cbay bays c = F' x := by
    rw [hF]
    split
    · rename_i hn
      have e : upd F x (cbay bays m) x = cbay bays m := by simp [upd]
      rw [e]
      exact ⟨hb, m, by omega, hx, rfl⟩
    · rename_i hn
      rcases h.fst x with ⟨a, _⟩ | ⟨a, c, hc, e1, e2⟩
      · omega
      · exact ⟨a, c, by omega, e1, e2⟩
  refine ⟨fun v => ?_, fun v => ?_⟩
  · by_cases e : v = x
    · subst e; exact .inr fx
    · rw [old v e]
      rcases h.fst v with ⟨a, b⟩ | ⟨a, c, hc, e1, e2⟩
      · refine .inl ⟨a, fun c hc q => ?_⟩
        by_cases ec : c = m
        · subst ec; rw [hx] at q; exact e (by omega)
        · exact b c (by omega) q
      · exact .inr ⟨a, c, by omega, e1, e2⟩
  · by_cases e : v = x
    · subst e
      have e1 : updB M v (M v || decide (F' v ≠ cbay bays m)) v = (M v || decide (F' v ≠ cbay bays m)) := by simp [updB]
      rw [e1]
      simp only [Bool.or_eq_true, decide_eq_true_eq]
      obtain ⟨-, c0, hc0, q1, q2⟩ := fx
      constructor
      · rintro (hm | hm)
        · obtain ⟨c, d, hc, hd, r⟩ := (h.more v).1 hm
          exact ⟨c, d, by omega, by omega, r⟩
        · exact ⟨c0, m, hc0, by omega, q1, hx, by rw [q2]; exact hm⟩
      · rintro ⟨c, d, hc, hd, r1, r2, r3⟩
        by_cases hm : M v = true
        · exact .inl hm
        · refine .inr fun q => ?_
          have all : ∀ c, c < m + 1 → vt T (c : Nat) = v → cbay bays c = F' v := fun c hc r => by
            by_cases ec : c = m
            · rw [ec]; exact q.symm
            · by_cases en : c0 = m
              · -- the first one is m itself: then none was there ahead of it, or the old first one has another bay
                by_cases eb : cbay bays c = cbay bays m
                · rw [eb]; exact q.symm
                · rcases h.fst v with ⟨_, b⟩ | ⟨a, c1, hc1, p1, p2⟩
                  · exact absurd r (b c (by omega))
                  · have hF' : F' v = F v := by rw [hF, if_neg (by omega)]
                    by_cases e5 : cbay bays c = cbay bays c1
                    · rw [e5, p2, hF']
                    · exact absurd ((h.more v).2 ⟨c, c1, by omega, hc1, r, p1, e5⟩) hm
              · by_cases e5 : cbay bays c = cbay bays c0
                · rw [e5]; exact q2
                · exact absurd ((h.more v).2 ⟨c, c0, by omega, by omega, r, q1, e5⟩) hm
          exact r3 (by rw [all c hc r1, all d hd r2])
    · have e1 : updB M x (M x || decide (F' x ≠ cbay bays m)) v = M v := by simp [updB, e]
      rw [e1, h.more v]
      constructor
      · rintro ⟨c, d, hc, hd, r⟩
        exact ⟨c, d, by omega, by omega, r⟩
      · rintro ⟨c, d, hc, hd, r1, r2, r3⟩
        have hcm : c ≠ m := fun q => by subst q; rw [hx] at r1; exact e (by omega)
        have hdm : d ≠ m := fun q => by subst q; rw [hx] at r2; exact e (by omega)
        exact ⟨c, d, by omega, by omega, r1, r2, r3⟩
theorem RimInv.done {T : List Tr} {bays : List Int} {F : Nat → Int} {M : Nat → Bool} (h : RimInv T bays (3 * T.length) F M) (v : Nat) : M v = manyB T bays v := by
  have h1 := h.more v
  have h2 := manyB_iff (T := T) (bays := bays) (v := (v : Int))
  cases a : M v <;> cases b : manyB T bays v
  · rfl
  · exact absurd (h1.2 (h2.1 b)) (by rw [a]; simp)
  · exact absurd (h2.2 (h1.1 a)) (by rw [b]; simp)
  · rfl
end Go.Proofs.Ytknioobpoieohaa

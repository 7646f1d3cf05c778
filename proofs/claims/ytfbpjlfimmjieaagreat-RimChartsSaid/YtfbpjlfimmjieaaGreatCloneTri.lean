/- slices.Clone of a list of triangles. -/
import Derived.Test.YtfbpjlfimmjieaaGreatSurfDef
import Derived.Test.YtfbpjlfimmjieaaGreatShelf
namespace Go.Proofs.YtfbpjlfimmjieaaGreat
set_option linter.unusedVariables false
set_option linter.unusedSimpArgs false
open Go.RowKit
theorem tcells_one (L : List Tr) : ∀ u ∈ tcells L, u.oneCell' = true := by
  intro u hu
  simp only [tcells, List.mem_flatMap] at hu
  obtain ⟨t, _, ht⟩ := hu
  simp only [List.mem_cons, List.not_mem_nil, or_false] at ht
  rcases ht with rfl | rfl | rfl <;> rfl
theorem TrisAt.cells {w : World} {b off : Nat} {T : List Tr} (h : TrisAt w (some ⟨b, off, none⟩) T) : ∀ j u, (tcells T)[j]? = some u → w.cell? ⟨b, off + j, none⟩ = some u := by
  intro j u hj
  have hl : j < T.length * 3 := by have := (List.getElem?_eq_some_iff.1 hj).1; rw [tcells_length] at this; exact this
  obtain ⟨b', off', e, hc, _⟩ := h.at (i := j / 3) (j := j % 3) (by omega) (by omega)
  cases e
  have h1 := tcells_get T (j / 3) (j % 3) (by omega) (by omega)
  have e : j / 3 * 3 + j % 3 = j := by omega
  rw [e] at h1
  rw [h1] at hj
  cases hj
  have e2 : off + j / 3 * 3 + j % 3 = off + j := by omega
  rw [← e2]
  exact hc
set_option maxHeartbeats 1000000 in
theorem clone_empty (a : Addr) (c : Nat) (w : World) :
    Calls Tryz.prog 83 #[.slice (some a) 0 c] w fun e w' => ∃ v', e = .returned v' ∧ w'.ownsRow w.heap.size 49 3 v' 0 [] ∧ Below w.heap.size w w' := by
  obtain ⟨i0, hi, hz0, hz1, hz2⟩ := info_parts info49
  have q22 : ∀ (w : World) (a : Option Addr) (n c n' c' : Nat), (binOp .eql 22 (.slice a n c) (.slice none n' c')).run Tryz.prog w = .ok (.bool a.isNone) w := fun w a n c n' c' => Lib.run_eql_slice_nil w _ 49 a n c n' c' (by kernel_rfl)
  go_enter Tryz.func83, Tryz.ntmps83
  go_wp2_with (at_builtin; refine wpList_append_own _ rfl _ _ 22 rfl w.heap.size 49 i0 (.agg #[.int .i64 0, .int .i64 0, .int .i64 0]) 3 24 (by kernel_rfl) hi hz0 hz1 hz2 rfl (by decide) _ _ _ rfl (World.ownsRow_made w #[] 0 (Nat.le_refl _) (Nat.zero_le _) rfl) a 0 c [] rfl rfl (by intro j u hj; simp at hj) (by intro u hu; cases hu) (by unfold maxLen; omega) (by omega) (by simp) ?_)
  intro v' w1 hown hgrow _
  go_wp2
  go_ret
  exact ⟨v', rfl, by simpa using hown, ((Below.refl _ w).alloc (Nat.le_refl _) _).grown hgrow (by simp) (by intro k hk; simp [Value.ownBlock] at hk; omega)⟩
theorem clone_tri {w : World} {ao : Option Addr} {T : List Tr} (cap : Nat) (hT : TrisAt w ao T) (hl : T.length ≤ 10000) :
    Calls Tryz.prog 83 #[.slice ao T.length cap] w fun e w' => ∃ ao' cap', e = .returned (.slice ao' T.length cap') ∧ w'.ownsRow w.heap.size 49 3 (.slice ao' T.length cap') T.length (tcells T) ∧ Below w.heap.size w w' := by
  obtain ⟨i0, hi, hz0, hz1, hz2⟩ := info_parts info49
  have fin : ∀ {w' : World} {v'}, w'.ownsRow w.heap.size 49 3 v' T.length (tcells T) → Below w.heap.size w w' → ∃ ao' cap', Ending.returned v' = .returned (.slice ao' T.length cap') ∧ w'.ownsRow w.heap.size 49 3 (.slice ao' T.length cap') T.length (tcells T) ∧ Below w.heap.size w w' := by
    intro w' v' h hb
    obtain ⟨ao', cap', rfl⟩ := owns_slice h
    exact ⟨ao', cap', rfl, h, hb⟩
  cases ao with
  | none =>
    have h0 : T = [] := by
      cases T with
      | nil => rfl
      | cons t l =>
        obtain ⟨b, off, e, _⟩ := hT (by simp)
        cases e
    subst h0
    refine (Tryz.slices_Clone_tri_nil 0 cap w).mono ?_
    rintro e w' ⟨rfl, rfl⟩
    exact ⟨none, 0, rfl, World.ownsRow_nil _ _ _ _, Below.refl _ _⟩
  | some a =>
    by_cases h0 : T = []
    · subst h0
      refine (clone_empty a cap w).mono ?_
      rintro e w' ⟨v', rfl, ho, hb⟩
      exact fin ho hb
    · obtain ⟨b, off, e, hb, _⟩ := hT h0
      cases e
      refine (Tryz.slices_Clone_tri i0 _ 3 24 hi hz0 hz1 hz2 rfl (by decide) (fun _ => by kernel_rfl) b off T.length cap (tcells T) w (tcells_length T) (by unfold maxLen; omega) (by omega) hT.cells (tcells_one T)).mono ?_
      rintro e w' ⟨v', rfl, ho, _, hb⟩
      exact fin ho hb
end Go.Proofs.YtfbpjlfimmjieaaGreat

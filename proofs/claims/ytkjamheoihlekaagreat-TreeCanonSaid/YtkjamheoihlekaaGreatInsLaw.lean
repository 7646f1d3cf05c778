/- Plain law: something is put among others, in order, once. Plain law: edges in order, each once. Plain law: where something is put among others, in order, once. -/
import Derived.Test.YtkjamheoihlekaaGreatPruneLaw
import Derived.Test.YtkjamheoihlekaaGreatPairBase
import Derived.Test.YtkjamheoihlekaaGreatPathLaw
namespace Go.Proofs.YtkjamheoihlekaaGreat
set_option linter.unusedVariables false
set_option linter.unusedSimpArgs false
theorem sorted_one {α : Type} {lt : α → α → Prop} (ir : ∀ x, ¬ lt x x) (tr : ∀ x y z, lt x y → lt y z → lt x z) : ∀ {A B : List α}, A.Pairwise lt → B.Pairwise lt → (∀ x, x ∈ A ↔ x ∈ B) → A = B
  | [], [], _, _, _ => rfl
  | [], b :: B, _, _, h => by have := (h b).2 (by simp); cases this
  | a :: A, [], _, _, h => by have := (h a).1 (by simp); cases this
  | a :: A, b :: B, hA, hB, h => by
    obtain ⟨a1, a2⟩ := List.pairwise_cons.1 hA
    obtain ⟨b1, b2⟩ := List.pairwise_cons.1 hB
    have hab : a = b := by
      rcases List.mem_cons.1 ((h a).1 (by simp)) with e | e
      · exact e
      · rcases List.mem_cons.1 ((h b).2 (by simp)) with e' | e'
        · exact e'.symm
        · exact absurd (tr _ _ _ (b1 a e) (a1 b e')) (ir b)
    subst hab
    rw [sorted_one ir tr a2 b2 fun x => ?_]
    constructor
    · intro hx
      rcases List.mem_cons.1 ((h x).1 (by simp [hx])) with e | e
      · subst e
        exact absurd (a1 x hx) (ir x)
      · exact e
    · intro hx
      rcases List.mem_cons.1 ((h x).2 (by simp [hx])) with e | e
      · subst e
        exact absurd (b1 x hx) (ir x)
      · exact e
theorem ins_sorted {α : Type} {lt : α → α → Prop} (tr : ∀ x y z, lt x y → lt y z → lt x z) {l : List α} (h : l.Pairwise lt) {a : α} {k : Nat} (hk : k ≤ l.length) (h1 : ∀ i x, i < k → l[i]? = some x → lt x a) (h2 : ∀ x, l[k]? = some x → lt a x) : (l.take k ++ a :: l.drop k).Pairwise lt := by
  refine List.pairwise_append.2 ⟨h.sublist (List.take_sublist _ _), List.pairwise_cons.2 ⟨?_, h.sublist (List.drop_sublist _ _)⟩, ?_⟩
  · intro x hx
    obtain ⟨i, hi, rfl⟩ := List.mem_iff_getElem.1 hx
    rw [List.getElem_drop]
    by_cases e : i = 0
    · subst e
      have hkl : k < l.length := by simp at hi; omega
      exact h2 _ (by rw [List.getElem?_eq_getElem hkl]; rfl)
    · have hlen : k + i < l.length := by simp at hi; omega
      exact tr _ _ _ (h2 (l[k]'(by omega)) (List.getElem?_eq_getElem (by omega))) (List.pairwise_iff_getElem.1 h k (k + i) (by omega) hlen (by omega))
  · intro x hx y hy
    obtain ⟨i, hi, rfl⟩ := List.mem_iff_getElem.1 hx
    have hik : i < k := by simp at hi; omega
    have hil : i < l.length := by omega
    rw [List.getElem_take]
    rcases List.mem_cons.1 hy with rfl | hy
    · exact h1 i _ hik (by rw [List.getElem?_eq_getElem hil])
    · obtain ⟨j, hj, rfl⟩ := List.mem_iff_getElem.1 hy
      rw [List.getElem_drop]
      exact List.pairwise_iff_getElem.1 h i (k + j) hil (by simp at hj; omega) (by omega)
theorem ins_mem {α : Type} {l : List α} {a x : α} {k : Nat} : x ∈ l.take k ++ a :: l.drop k ↔ x = a ∨ x ∈ l := by
  rw [List.mem_append, List.mem_cons]
  constructor
  · rintro (h | h | h)
    · exact .inr (List.mem_of_mem_take h)
    · exact .inl h
    · exact .inr (List.mem_of_mem_drop h)
  · rintro (h | h)
    · exact .inr (.inl h)
    · rw [← List.take_append_drop k l, List.mem_append] at h
      rcases h with h | h
      · exact .inl h
      · exact .inr (.inr h)
def ltE (a b : Int × Int) : Prop := a.1 < b.1 ∨ a.1 = b.1 ∧ a.2 < b.2
theorem ltE_irr (a : Int × Int) : ¬ ltE a a := by unfold ltE; omega
theorem ltE_tr (a b c : Int × Int) (h : ltE a b) (k : ltE b c) : ltE a c := by unfold ltE at *; omega
theorem ltE_tot {a b : Int × Int} (h : ¬ ltE a b) (hne : b ≠ a) : ltE b a := by
  unfold ltE at *
  apply Classical.byContradiction
  intro hn
  exact hne (Prod.ext (by omega) (by omega))
theorem sortP_strict {D : List (Int × Int)} (hn : D.Nodup) : (sortP D).Pairwise ltE := by
  have st : (sortP D).Pairwise fun x y => (!(Go.Proofs.ltOf cmpP) y x) = true := by
    refine List.pairwise_mergeSort (fun a b c h1 h2 => ?_) (fun a b => ?_) D
    · simp only [Bool.not_eq_true'] at h1 h2 ⊢
      exact swo_cmpP.ntrans c b a h2 h1
    · cases h1 : Go.Proofs.ltOf cmpP b a
      · simp
      · cases h2 : Go.Proofs.ltOf cmpP a b
        · simp
        · have := swo_cmpP.trans _ _ _ h1 h2
          rw [swo_cmpP.irrefl] at this
          cases this
  have nd : (sortP D).Nodup := (sortP_perm D).nodup_iff.2 hn
  have both := st.and (List.nodup_iff_pairwise_ne.1 nd)
  refine both.imp fun {a b} h => ?_
  obtain ⟨h1, h2⟩ := h
  refine ltE_tot (fun q => ?_) h2
  rw [(ltOf_cmpP b a).2 q] at h1
  cases h1
theorem sortP_mem {D : List (Int × Int)} {e : Int × Int} : e ∈ sortP D ↔ e ∈ D := (sortP_perm D).mem_iff
/-- A list in order with the same members is the sorted one. -/
theorem sortP_one {D R : List (Int × Int)} (hn : D.Nodup) (hR : R.Pairwise ltE) (h : ∀ e, e ∈ R ↔ e ∈ D) : R = sortP D := sorted_one ltE_irr ltE_tr hR (sortP_strict hn) fun e => (h e).trans sortP_mem.symm
/-- R is E with e put in its place. -/
def InsG {α : Type} (lt : α → α → Prop) (E : List α) (e : α) (R : List α) : Prop :=
  ∃ k, k ≤ E.length ∧ (∀ i x, i < k → E[i]? = some x → lt x e) ∧ (∀ x, E[k]? = some x → ¬ lt x e) ∧ ((E[k]? = some e ∧ R = E) ∨ (E[k]? ≠ some e ∧ R = E.take k ++ e :: E.drop k))
theorem InsG.ok {α : Type} {lt : α → α → Prop} (tr : ∀ x y z, lt x y → lt y z → lt x z) (tot : ∀ x y, ¬ lt x y → x ≠ y → lt y x) {E R : List α} {e : α} (h : InsG lt E e R) (hs : E.Pairwise lt) : R.Pairwise lt ∧ ∀ x, x ∈ R ↔ x = e ∨ x ∈ E := by
  obtain ⟨k, hk, h1, h2, ⟨h3, rfl⟩ | ⟨h3, rfl⟩⟩ := h
  · exact ⟨hs, fun x => ⟨.inr, fun q => q.elim (fun q => q ▸ List.mem_of_getElem? h3) id⟩⟩
  · exact ⟨ins_sorted tr hs hk h1 fun x hx => tot _ _ (h2 x hx) fun q => h3 (by rw [← q]; exact hx), fun x => ins_mem⟩
theorem InsG.len {α : Type} {lt : α → α → Prop} {E R : List α} {e : α} (h : InsG lt E e R) : R.length ≤ E.length + 1 := by
  obtain ⟨k, hk, h1, h2, ⟨h3, rfl⟩ | ⟨h3, rfl⟩⟩ := h
  · omega
  · simp; omega
theorem InsG.edges {E R : List (Int × Int)} {e : Int × Int} (h : InsG ltE E e R) (hs : E.Pairwise ltE) : R.Pairwise ltE ∧ ∀ x, x ∈ R ↔ x = e ∨ x ∈ E :=
  h.ok ltE_tr (fun x y h1 h2 => ltE_tot h1 (fun q => h2 q.symm)) hs
def ltR (a b : List Int) : Prop := cmpR a b < 0
theorem ltR_tr (x y z : List Int) (h : ltR x y) (k : ltR y z) : ltR x z := cmpR_trans (a := x) (b := y) (c := z) h k
theorem ltR_tot (x y : List Int) (h1 : ¬ ltR x y) (h2 : x ≠ y) : ltR y x := by
  unfold ltR at *
  have := cmpR_anti x y
  have h0 : cmpR x y ≠ 0 := fun q => h2 (cmpR_eq q)
  omega
theorem InsG.rows {E R : List (List Int)} {e : List Int} (h : InsG ltR E e R) (hs : E.Pairwise ltR) : R.Pairwise ltR ∧ ∀ x, x ∈ R ↔ x = e ∨ x ∈ E := h.ok ltR_tr ltR_tot hs
end Go.Proofs.YtkjamheoihlekaaGreat

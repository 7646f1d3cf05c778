/- Plain law, no program: numbers spread till each is the least of its connected part; then the parts are numbered. -/
import Derived.Test.YtkjamheoihlekaaGreatShells
namespace Go.Proofs.YtkjamheoihlekaaGreat
set_option linter.unusedVariables false
set_option linter.unusedSimpArgs false
def updN (f : Nat → Nat) (x v : Nat) : Nat → Nat := fun j => if j = x then v else f j
/-- The least of its connected part. -/
def Least (A : Nat → Nat → Prop) (l : Nat) : Prop := ∀ j, Conn A l j → l ≤ j
theorem least_of (A : Nat → Nat → Prop) : ∀ i : Nat, ∃ l, Least A l ∧ Conn A l i := by
  intro i
  induction i using Nat.strongRecOn with
  | _ i ih =>
    by_cases h : ∃ j, j < i ∧ Conn A i j
    · obtain ⟨j, hj, c⟩ := h
      obtain ⟨l, hl, hc⟩ := ih j hj
      exact ⟨l, hl, hc.trans c.symm⟩
    · exact ⟨i, fun j c => by
        by_cases e : j < i
        · exact absurd ⟨j, e, c⟩ h
        · omega, .refl _⟩
/-- Each number is of the same part, and not greater. -/
def Sp (A : Nat → Nat → Prop) (n : Nat) (φ : Nat → Nat) : Prop := ∀ i, i < n → φ i ≤ i ∧ Conn A (φ i) i
theorem Sp.start (A : Nat → Nat → Prop) (n : Nat) : Sp A n (fun i => i) := fun _ _ => ⟨Nat.le_refl _, .refl _⟩
/-- In the middle of a round that began at φ0: the pairs before (i, k) have been looked at. -/
structure RInv (A : Nat → Nat → Prop) (n : Nat) (φ0 φ : Nat → Nat) (i k : Nat) : Prop where
  sp : Sp A n φ
  mono : ∀ j l, j < n → Least A l → φ0 j = l → φ j = l
  prog : ∀ j k' l, j < n → k' < n → (j < i ∨ j = i ∧ k' < k) → A j k' → Least A l → φ0 k' = l → φ j = l
theorem RInv.start {A : Nat → Nat → Prop} {n : Nat} {φ : Nat → Nat} (h : Sp A n φ) : RInv A n φ φ 0 0 :=
  ⟨h, fun _ _ _ _ e => e, fun _ _ _ _ _ h _ _ _ => by omega⟩
theorem RInv.next {A : Nat → Nat → Prop} {n : Nat} {φ0 φ : Nat → Nat} {i : Nat} (h : RInv A n φ0 φ i n) : RInv A n φ0 φ (i + 1) 0 :=
  ⟨h.sp, h.mono, fun j k' l hj hk hjk a hl e => h.prog j k' l hj hk (by omega) a hl e⟩
theorem RInv.keep {A : Nat → Nat → Prop} {n : Nat} {φ0 φ : Nat → Nat} {i k : Nat} (h : RInv A n φ0 φ i k) (hi : i < n) (hk : k < n) (hno : ¬ (φ k < φ i ∧ A i k)) : RInv A n φ0 φ i (k + 1) := by
  refine ⟨h.sp, h.mono, fun j k' l hj hk' hjk a hl e => ?_⟩
  by_cases q : j = i ∧ k' = k
  · obtain ⟨rfl, rfl⟩ := q
    have h1 := h.mono k' l hk' hl e
    have h2 : ¬ φ k' < φ j := fun q => hno ⟨q, a⟩
    have h3 : l ≤ φ j := hl _ (by
      have c1 := (h.sp k' hk').2
      rw [h1] at c1
      exact (c1.back a).trans (h.sp j hj).2.symm)
    omega
  · exact h.prog j k' l hj hk' (by omega) a hl e
theorem RInv.move {A : Nat → Nat → Prop} {n : Nat} {φ0 φ : Nat → Nat} {i k : Nat} (h : RInv A n φ0 φ i k) (hi : i < n) (hk : k < n) (hlt : φ k < φ i) (ha : A i k) : RInv A n φ0 (updN φ i (φ k)) i (k + 1) := by
  have hc : Conn A (φ k) i := (h.sp k hk).2.back ha
  have hno : ∀ l, Least A l → φ i ≠ l := fun l hl e => by
    have := hl (φ k) (by rw [← e]; exact (h.sp i hi).2.trans hc.symm)
    omega
  refine ⟨fun j hj => ?_, fun j l hj hl e => ?_, fun j k' l hj hk' hjk a hl e => ?_⟩
  · unfold updN
    by_cases q : j = i
    · subst q
      rw [if_pos rfl]
      exact ⟨by have := (h.sp j hj).1; omega, hc⟩
    · rw [if_neg q]; exact h.sp j hj
  · have := h.mono j l hj hl e
    unfold updN
    by_cases q : j = i
    · subst q; exact absurd this (hno l hl)
    · rw [if_neg q]; exact this
  · unfold updN
    by_cases q : j = i
    · subst q
      rw [if_pos rfl]
      by_cases q2 : k' = k
      · subst q2; exact h.mono k' l hk' hl e
      · exact absurd (h.prog j k' l hj hk' (by omega) a hl e) (hno l hl)
    · rw [if_neg q]
      exact h.prog j k' l hj hk' (by omega) a hl e
theorem countP_mono_lt (p q : Nat → Bool) : ∀ n, (∀ j, j < n → p j = true → q j = true) → (List.range n).countP p ≤ (List.range n).countP q ∧ ((∃ j, j < n ∧ q j = true ∧ p j = false) → (List.range n).countP p < (List.range n).countP q)
  | 0, _ => ⟨by simp, fun ⟨j, h, _⟩ => by omega⟩
  | n + 1, h => by
    obtain ⟨h1, h2⟩ := countP_mono_lt p q n (fun j hj => h j (by omega))
    have h3 := h n (by omega)
    rw [List.range_succ, List.countP_append, List.countP_append]
    simp only [List.countP_cons, List.countP_nil, Nat.zero_add]
    constructor
    · by_cases e : p n = true
      · simp [e, h3 e]; exact h1
      · simp [e]; omega
    · rintro ⟨j, hj, hq, hp⟩
      by_cases e : j = n
      · subst e; simp [hq, hp]; omega
      · have := h2 ⟨j, by omega, hq, hp⟩
        by_cases e : p n = true
        · simp [e, h3 e]; exact this
        · simp [e]; omega
/-- After r rounds. -/
structure QInv (A : Nat → Nat → Prop) (n r : Nat) (φ : Nat → Nat) : Prop where
  sp : Sp A n φ
  many : ∀ l, l < n → Least A l → (∀ j, j < n → Conn A l j → φ j = l) ∨ r + 1 ≤ (List.range n).countP fun j => decide (φ j = l)
theorem QInv.start (A : Nat → Nat → Prop) (n : Nat) : QInv A n 0 (fun i => i) :=
  ⟨Sp.start A n, fun l hl _ => .inr (by
    have : 0 < (List.range n).countP fun j => decide (j = l) := List.countP_pos_iff.2 ⟨l, by simpa using hl, by simp⟩
    omega)⟩
theorem QInv.step {A : Nat → Nat → Prop} {n r : Nat} {φ0 φ : Nat → Nat} (hA : ∀ i j, A i j → i < n ∧ j < n) (hsym : ∀ i j, A i j → A j i) (h0 : QInv A n r φ0) (h : RInv A n φ0 φ n 0) : QInv A n (r + 1) φ := by
  refine ⟨h.sp, fun l hl hL => ?_⟩
  rcases h0.many l hl hL with hf | hc
  · exact .inl fun j hj c => h.mono j l hj hL (hf j hj c)
  · by_cases hnew : ∃ j, j < n ∧ φ j = l ∧ φ0 j ≠ l
    · right
      obtain ⟨j, hj, e1, e2⟩ := hnew
      have := (countP_mono_lt (fun j => decide (φ0 j = l)) (fun j => decide (φ j = l)) n fun j hj e => by simp at e ⊢; exact h.mono j l hj hL e).2 ⟨j, hj, by simpa using e1, by simpa using e2⟩
      omega
    · left
      have key : ∀ j, Conn A l j → φ0 j = l := by
        intro j c
        have gen : ∀ a b, Conn A a b → φ0 a = l → a < n → φ0 b = l := by
          intro a b c
          induction c with
          | refl => exact fun e _ => e
          | @step j k c s ih =>
            intro e ha
            have := ih e ha
            have hs := hA _ _ s
            have e2 := h.prog k j l hs.2 hs.1 (.inl hs.2) (hsym _ _ s) hL this
            exact Classical.not_not.1 fun q => hnew ⟨k, hs.2, e2, q⟩
          | @back j k c s ih =>
            intro e ha
            have := ih e ha
            have hs := hA _ _ s
            have e2 := h.prog k j l hs.1 hs.2 (.inl hs.1) s hL this
            exact Classical.not_not.1 fun q => hnew ⟨k, hs.1, e2, q⟩
        refine gen l j c ?_ hl
        have h1 := h0.sp l hl
        have h2 := hL _ h1.2.symm
        omega
      exact fun j hj c => h.mono j l hj hL (key j c)
/-- Each number is the same throughout its part. -/
structure Rep (A : Nat → Nat → Prop) (n : Nat) (φ : Nat → Nat) : Prop where
  sp : Sp A n φ
  eq : ∀ i j, i < n → j < n → Conn A i j → φ i = φ j
theorem QInv.done {A : Nat → Nat → Prop} {n : Nat} {φ : Nat → Nat} (h : QInv A n n φ) : Rep A n φ := by
  refine ⟨h.sp, fun i j hi hj c => ?_⟩
  obtain ⟨l, hl, hc⟩ := least_of A i
  have hln : l < n := by have := hl i hc; omega
  rcases h.many l hln hl with hf | hc'
  · rw [hf i hi hc, hf j hj (hc.trans c)]
  · have := List.countP_le_length (p := fun j => decide (φ j = l)) (l := List.range n)
    simp at this
    omega
/-- The first i are numbered, by c numbers. -/
structure NInv (φ : Nat → Nat) (i c : Nat) (M : Nat → Int) : Prop where
  rng : ∀ j, j < i → 0 ≤ M j ∧ M j < c
  iff : ∀ j k, j < i → k < i → (M j = M k ↔ φ j = φ k)
  rg : ∀ j, j < i → ∀ m, 0 ≤ m → m < M j → ∃ k, k < j ∧ M k = m
  occ : ∀ m : Int, 0 ≤ m → m < c → ∃ k, k < i ∧ M k = m
  le : c ≤ i
theorem NInv.start (φ : Nat → Nat) (M : Nat → Int) : NInv φ 0 0 M := ⟨fun _ h => by omega, fun _ _ h => by omega, fun _ h => by omega, fun _ h1 h2 => by omega, Nat.le_refl _⟩
theorem NInv.fresh {A : Nat → Nat → Prop} {n : Nat} {φ : Nat → Nat} {i c : Nat} {M : Nat → Int} (h : NInv φ i c M) (hφ : Rep A n φ) (hi : i < n) (e : φ i = i) : NInv φ (i + 1) (c + 1) (upd M i c) := by
  have hj : ∀ j, j < i → upd M i c j = M j := fun j hj => by simp [upd, show j ≠ i by omega]
  have hii : upd M i c i = c := by simp [upd]
  refine ⟨fun j hj' => ?_, fun j k hj' hk' => ?_, fun j hj' m h0 h1 => ?_, fun m h0 h1 => ?_, by have := h.le; omega⟩
  · by_cases q : j = i
    · subst q; rw [hii]; omega
    · rw [hj j (by omega)]; have := h.rng j (by omega); omega
  · have hne : ∀ j, j < i → φ j ≠ φ i ∧ M j ≠ c := fun j q => ⟨by have := (hφ.sp j (by omega)).1; omega, by have := h.rng j q; omega⟩
    by_cases q : j = i <;> by_cases q' : k = i
    · subst q; subst q'; simp
    · subst q
      rw [hii, hj k (by omega)]
      have := hne k (by omega)
      exact ⟨fun e => absurd e.symm this.2, fun e => absurd e.symm this.1⟩
    · subst q'
      rw [hii, hj j (by omega)]
      have := hne j (by omega)
      exact ⟨fun e => absurd e this.2, fun e => absurd e this.1⟩
    · rw [hj j (by omega), hj k (by omega)]; exact h.iff j k (by omega) (by omega)
  · by_cases q : j = i
    · subst q
      rw [hii] at h1
      obtain ⟨k, hk, e⟩ := h.occ m h0 (by omega)
      exact ⟨k, hk, by rw [hj k hk]; exact e⟩
    · rw [hj j (by omega)] at h1
      obtain ⟨k, hk, e⟩ := h.rg j (by omega) m h0 h1
      exact ⟨k, hk, by rw [hj k (by omega)]; exact e⟩
  · by_cases q : m = c
    · exact ⟨i, by omega, by rw [hii]; exact q.symm⟩
    · obtain ⟨k, hk, e⟩ := h.occ m h0 (by omega)
      exact ⟨k, by omega, by rw [hj k hk]; exact e⟩
theorem NInv.same {A : Nat → Nat → Prop} {n : Nat} {φ : Nat → Nat} {i c : Nat} {M : Nat → Int} (h : NInv φ i c M) (hφ : Rep A n φ) (hi : i < n) (e : φ i ≠ i) : φ i < i ∧ NInv φ (i + 1) c (upd M i (M (φ i))) := by
  have hlt : φ i < i := by have := (hφ.sp i hi).1; omega
  have hff : φ (φ i) = φ i := hφ.eq _ _ (by omega) hi (hφ.sp i hi).2
  have hj : ∀ j, j < i → upd M i (M (φ i)) j = M j := fun j hj => by simp [upd, show j ≠ i by omega]
  have hii : upd M i (M (φ i)) i = M (φ i) := by simp [upd]
  refine ⟨hlt, fun j hj' => ?_, fun j k hj' hk' => ?_, fun j hj' m h0 h1 => ?_, fun m h0 h1 => ?_, by have := h.le; omega⟩
  · by_cases q : j = i
    · subst q; rw [hii]; exact h.rng _ hlt
    · rw [hj j (by omega)]; exact h.rng j (by omega)
  · by_cases q : j = i <;> by_cases q' : k = i
    · subst q; subst q'; simp
    · subst q
      rw [hii, hj k (by omega), h.iff _ _ hlt (by omega), hff]
    · subst q'
      rw [hii, hj j (by omega), h.iff _ _ (by omega) hlt, hff]
    · rw [hj j (by omega), hj k (by omega)]; exact h.iff j k (by omega) (by omega)
  · by_cases q : j = i
    · subst q
      rw [hii] at h1
      obtain ⟨k, hk, e⟩ := h.rg _ hlt m h0 h1
      exact ⟨k, by omega, by rw [hj k (by omega)]; exact e⟩
    · rw [hj j (by omega)] at h1
      obtain ⟨k, hk, e⟩ := h.rg j (by omega) m h0 h1
      exact ⟨k, hk, by rw [hj k (by omega)]; exact e⟩
  · obtain ⟨k, hk, e⟩ := h.occ m h0 h1
    exact ⟨k, by omega, by rw [hj k hk]; exact e⟩
theorem NInv.done {A : Nat → Nat → Prop} {n : Nat} {φ : Nat → Nat} {c : Nat} {M : Nat → Int} (h : NInv φ n c M) (hφ : Rep A n φ) : IsShells A n M where
  nonneg i hi := (h.rng i hi).1
  clo i j hi hj a := (h.iff j i hj hi).2 (hφ.eq j i hj hi (.back (.refl _) a))
  con i j hi hj e := by
    have := (h.iff i j hi hj).1 e
    have h1 := (hφ.sp i hi).2
    rw [this] at h1
    exact h1.symm.trans (hφ.sp j hj).2
  rg := h.rg
end Go.Proofs.YtkjamheoihlekaaGreat

/- Plain laws, no program: the numbers of connected parts; a search that labels them one by one. -/
namespace Go.Proofs.YtkjamheoihlekaaGreat
set_option linter.unusedVariables false
set_option linter.unusedSimpArgs false
/-- Connected, by steps either way. -/
inductive Conn (A : Nat → Nat → Prop) : Nat → Nat → Prop
  | refl (i : Nat) : Conn A i i
  | step {i j k : Nat} : Conn A i j → A j k → Conn A i k
  | back {i j k : Nat} : Conn A i j → A k j → Conn A i k
theorem Conn.trans {A : Nat → Nat → Prop} {i j k : Nat} (h : Conn A i j) (g : Conn A j k) : Conn A i k := by
  induction g with
  | refl => exact h
  | step _ a ih => exact ih.step a
  | back _ a ih => exact ih.back a
theorem Conn.symm {A : Nat → Nat → Prop} {i j : Nat} (h : Conn A i j) : Conn A j i := by
  induction h with
  | refl => exact .refl _
  | step _ a ih => exact (Conn.back (.refl _) a).trans ih
  | back _ a ih => exact (Conn.step (.refl _) a).trans ih
/-- L are the numbers of the connected parts of 0 .. n - 1, by least members. -/
structure IsShells (A : Nat → Nat → Prop) (n : Nat) (L : Nat → Int) : Prop where
  nonneg : ∀ i, i < n → 0 ≤ L i
  clo : ∀ i j, i < n → j < n → A i j → L j = L i
  con : ∀ i j, i < n → j < n → L i = L j → Conn A i j
  rg : ∀ i, i < n → ∀ m, 0 ≤ m → m < L i → ∃ j, j < i ∧ L j = m
def upd (L : Nat → Int) (x : Nat) (v : Int) : Nat → Int := fun j => if j = x then v else L j
theorem set_map_range {α : Type} (n : Nat) (f g : Nat → α) (x : Nat) (v : α) (hg : ∀ j, g j = if j = x then v else f j) : ((List.range n).map f).set x v = (List.range n).map g := by
  apply List.ext_getElem (by simp)
  intro i h1 h2
  simp only [List.getElem_set, List.getElem_map, List.getElem_range, hg]
  by_cases h : x = i
  · subst h; simp
  · simp [h]; exact fun e => absurd e.symm h
/-- At the head of the outer loop: f triangles have been looked at, c numbers are given. -/
structure OInv (A : Nat → Nat → Prop) (n f : Nat) (c : Nat) (L : Nat → Int) : Prop where
  rng : ∀ i, i < n → L i = -1 ∨ 0 ≤ L i ∧ L i < c
  low : ∀ i, i < f → i < n → 0 ≤ L i
  clo : ∀ i j, i < n → j < n → A i j → 0 ≤ L i → L j = L i
  con : ∀ i j, i < n → j < n → 0 ≤ L i → L i = L j → Conn A i j
  rg : ∀ i, i < n → ∀ m, 0 ≤ m → m < L i → ∃ j, j < i ∧ L j = m
  occ : ∀ m : Int, 0 ≤ m → m < c → ∃ j, j < f ∧ L j = m
  cle : c ≤ f
theorem OInv.start (A : Nat → Nat → Prop) (n : Nat) : OInv A n 0 0 (fun _ => -1) where
  rng _ _ := .inl rfl
  low _ h _ := by omega
  clo _ _ _ _ _ h := by omega
  con _ _ _ _ h _ := by omega
  rg _ _ _ _ h := by omega
  occ _ _ h := by omega
  cle := Nat.le_refl _
theorem OInv.skip {A : Nat → Nat → Prop} {n f c : Nat} {L : Nat → Int} (h : OInv A n f c L) (hf : 0 ≤ L f) : OInv A n (f + 1) c L where
  rng := h.rng
  low i hi hn := by
    by_cases e : i = f
    · subst e; exact hf
    · exact h.low i (by omega) hn
  clo := h.clo
  con := h.con
  rg := h.rg
  occ m h0 h1 := by obtain ⟨j, hj, e⟩ := h.occ m h0 h1; exact ⟨j, by omega, e⟩
  cle := by have := h.cle; omega
theorem OInv.done {A : Nat → Nat → Prop} {n c : Nat} {L : Nat → Int} (h : OInv A n n c L) : IsShells A n L where
  nonneg i hi := h.low i hi hi
  clo i j hi hj a := h.clo i j hi hj a (h.low i hi hi)
  con i j hi hj e := h.con i j hi hj (h.low i hi hi) e
  rg := h.rg
/-- In the middle of the search from f: W has been reached. -/
structure BInv (A : Nat → Nat → Prop) (n f c : Nat) (L0 L : Nat → Int) (W : List Nat) : Prop where
  old : ∀ j, j < n → 0 ≤ L0 j → L j = L0 j
  new : ∀ j, j < n → L0 j < 0 → (j ∈ W ∧ L j = c) ∨ (j ∉ W ∧ L j = -1)
  wlt : ∀ x, x ∈ W → x < n ∧ L0 x < 0 ∧ Conn A f x
  nodup : W.Nodup
  fin : f ∈ W
theorem BInv.start {A : Nat → Nat → Prop} {n f c : Nat} {L : Nat → Int} (h : OInv A n f c L) (hn : f < n) (hf : ¬ 0 ≤ L f) : BInv A n f c L (upd L f c) [f] where
  old j hj h0 := by
    have : j ≠ f := fun e => hf (e ▸ h0)
    simp [upd, this]
  new j hj h0 := by
    by_cases e : j = f
    · subst e; exact .inl ⟨by simp, by simp [upd]⟩
    · refine .inr ⟨by simp [e], ?_⟩
      rcases h.rng j hj with h1 | h1
      · simp [upd, e, h1]
      · omega
  wlt x hx := by
    simp at hx; subst hx
    exact ⟨hn, by omega, .refl _⟩
  nodup := by simp
  fin := by simp
theorem nodup_length_le : ∀ (n : Nat) {W : List Nat}, W.Nodup → (∀ x, x ∈ W → x < n) → W.length ≤ n := by
  intro n
  induction n with
  | zero =>
    intro W _ hl
    cases W with
    | nil => simp
    | cons a l => exact absurd (hl a (by simp)) (by omega)
  | succ n ih =>
    intro W h hl
    have h1 := ih (W := W.erase n) (h.erase n) (fun x hx => by
      obtain ⟨a, b⟩ := h.mem_erase_iff.1 hx
      have := hl x b
      omega)
    by_cases hn : n ∈ W
    · rw [List.length_erase_of_mem hn] at h1; omega
    · rw [List.erase_of_not_mem hn] at h1; omega
theorem BInv.len {A : Nat → Nat → Prop} {n f c : Nat} {L0 L : Nat → Int} {W : List Nat} (h : BInv A n f c L0 L W) : W.length ≤ n :=
  nodup_length_le n h.nodup fun x hx => (h.wlt x hx).1
/-- One more is reached. -/
theorem BInv.push {A : Nat → Nat → Prop} {n f c : Nat} {L0 L : Nat → Int} {W : List Nat} (h : BInv A n f c L0 L W) {i j : Nat} (hi : i ∈ W) (hj : j < n) (ha : A i j) (hL : ¬ 0 ≤ L j) : BInv A n f c L0 (upd L j c) (W ++ [j]) := by
  have hj0 : L0 j < 0 := by
    by_cases h0 : 0 ≤ L0 j
    · rw [h.old j hj h0] at hL; exact absurd h0 hL
    · omega
  have hjW : j ∉ W := by
    rcases h.new j hj hj0 with ⟨_, e⟩ | ⟨a, _⟩
    · rw [e] at hL; omega
    · exact a
  refine ⟨fun k hk h0 => ?_, fun k hk h0 => ?_, fun x hx => ?_, ?_, by simp [h.fin]⟩
  · have : k ≠ j := fun e => by subst e; omega
    simp [upd, this, h.old k hk h0]
  · by_cases e : k = j
    · subst e; exact .inl ⟨by simp, by simp [upd]⟩
    · rcases h.new k hk h0 with ⟨a, b⟩ | ⟨a, b⟩
      · exact .inl ⟨by simp [a], by simp [upd, e, b]⟩
      · exact .inr ⟨by simp [a, e], by simp [upd, e, b]⟩
  · simp only [List.mem_append, List.mem_singleton] at hx
    rcases hx with hx | rfl
    · exact h.wlt x hx
    · exact ⟨hj, hj0, (h.wlt i hi).2.2.step ha⟩
  · rw [List.nodup_append]
    refine ⟨h.nodup, by simp, fun x hx b hb => ?_⟩
    simp only [List.mem_singleton] at hb
    subst hb
    exact fun e => hjW (e ▸ hx)
theorem BInv.kept {A : Nat → Nat → Prop} {n f c : Nat} {L0 L : Nat → Int} {W : List Nat} (h : BInv A n f c L0 L W) {j k : Nat} (hk : k < n) (h0 : 0 ≤ L k) : 0 ≤ upd L j c k := by
  unfold upd
  split
  · omega
  · exact h0
/-- All that was reached has been looked at: the outer loop's head again. -/
theorem BInv.stop {A : Nat → Nat → Prop} {n f c : Nat} {L0 L : Nat → Int} {W : List Nat} (h : BInv A n f c L0 L W) (h0 : OInv A n f c L0) (hf : f < n) (hsym : ∀ i j, i < n → j < n → A i j → A j i)
    (hall : ∀ x, x ∈ W → ∀ j, j < n → A x j → 0 ≤ L j) : OInv A n (f + 1) (c + 1) L := by
  have inW : ∀ j, j < n → ¬ 0 ≤ L0 j → 0 ≤ L j → j ∈ W ∧ L j = c := fun j hj a b => by
    rcases h.new j hj (by omega) with x | ⟨_, e⟩
    · exact x
    · omega
  have oldlt : ∀ j, j < n → 0 ≤ L0 j → L0 j < c := fun j hj a => by
    rcases h0.rng j hj with e | e
    · omega
    · exact e.2
  refine ⟨fun i hi => ?_, fun i hi hn => ?_, fun i j hi hj ha hL => ?_, fun i j hi hj hL e => ?_, fun i hi m hm hlt => ?_, fun m hm hlt => ?_, by have := h0.cle; omega⟩
  · by_cases a : 0 ≤ L0 i
    · rw [h.old i hi a]
      have := oldlt i hi a
      exact .inr ⟨a, by omega⟩
    · rcases h.new i hi (by omega) with ⟨_, e⟩ | ⟨_, e⟩
      · exact .inr (by omega)
      · exact .inl e
  · by_cases e : i = f
    · subst e
      have := (h.wlt i h.fin).2.1
      rcases h.new i hn this with ⟨_, e⟩ | ⟨a, _⟩
      · omega
      · exact absurd h.fin a
    · have := h0.low i (by omega) hn
      rw [h.old i hn this]; exact this
  · by_cases a : 0 ≤ L0 i
    · have e := h0.clo i j hi hj ha a
      rw [h.old i hi a, h.old j hj (by omega), e]
    · obtain ⟨iw, ie⟩ := inW i hi a hL
      have hj0 := hall i iw j hj ha
      by_cases b : 0 ≤ L0 j
      · have e := h0.clo j i hj hi (hsym i j hi hj ha) b
        omega
      · obtain ⟨_, je⟩ := inW j hj b hj0
        omega
  · by_cases a : 0 ≤ L0 i
    · by_cases b : 0 ≤ L0 j
      · exact h0.con i j hi hj a (by rw [h.old i hi a, h.old j hj b] at e; exact e)
      · obtain ⟨_, je⟩ := inW j hj b (by omega)
        rw [h.old i hi a, je] at e
        have := oldlt i hi a
        omega
    · obtain ⟨iw, ie⟩ := inW i hi a hL
      by_cases b : 0 ≤ L0 j
      · rw [h.old j hj b, ie] at e
        have := oldlt j hj b
        omega
      · obtain ⟨jw, je⟩ := inW j hj b (by omega)
        exact (h.wlt i iw).2.2.symm.trans (h.wlt j jw).2.2
  · by_cases a : 0 ≤ L0 i
    · rw [h.old i hi a] at hlt
      obtain ⟨j, hj, e⟩ := h0.rg i hi m hm hlt
      exact ⟨j, hj, by rw [h.old j (by omega) (by omega), e]⟩
    · obtain ⟨iw, ie⟩ := inW i hi a (by omega)
      rw [ie] at hlt
      obtain ⟨j, hj, e⟩ := h0.occ m hm hlt
      have hfi : f ≤ i := by
        rcases Nat.lt_or_ge i f with q | q
        · exact absurd (h0.low i q hi) a
        · exact q
      exact ⟨j, by omega, by rw [h.old j (by omega) (by omega), e]⟩
  · by_cases q : m < c
    · obtain ⟨j, hj, e⟩ := h0.occ m hm q
      exact ⟨j, by omega, by rw [h.old j (by omega) (by omega), e]⟩
    · refine ⟨f, by omega, ?_⟩
      have := (h.wlt f h.fin).2.1
      rcases h.new f hf this with ⟨_, e⟩ | ⟨a, _⟩
      · omega
      · exact absurd h.fin a
/-- The numbers are given by the steps alone. -/
theorem IsShells.unique {A B : Nat → Nat → Prop} {n : Nat} {L M : Nat → Int} (hL : IsShells A n L) (hM : IsShells B n M)
    (hAB : ∀ i j, i < n → j < n → (L i = L j ↔ M i = M j)) : ∀ i, i < n → L i = M i := by
  intro i
  induction i using Nat.strongRecOn with
  | _ i ih =>
    intro hi
    have key : ∀ {C D : Nat → Nat → Prop} {P Q : Nat → Int}, IsShells C n P → IsShells D n Q → (∀ i j, i < n → j < n → (P i = P j ↔ Q i = Q j)) → (∀ j, j < i → P j = Q j) → ¬ P i < Q i := by
      intro C D P Q hP hQ hPQ hlow hlt
      obtain ⟨j, hj, e⟩ := hQ.rg i hi (P i) (hP.nonneg i hi) hlt
      have e1 : P j = P i := by rw [hlow j hj, e]
      have e2 := (hPQ j i (by omega) hi).1 e1
      omega
    have h1 := key hL hM hAB (fun j hj => ih j hj (by omega))
    have h2 := key hM hL (fun i j hi hj => (hAB i j hi hj).symm) (fun j hj => (ih j hj (by omega)).symm)
    omega
/-- Steps that join the same, the same numbers. -/
theorem IsShells.same {A B : Nat → Nat → Prop} {n : Nat} {L M : Nat → Int} (hL : IsShells A n L) (hM : IsShells B n M)
    (h1 : ∀ i j, i < n → j < n → A i j → M j = M i) (h2 : ∀ i j, i < n → j < n → B i j → L j = L i)
    (hA : ∀ i j, i < n → A i j → j < n) (hA' : ∀ i j, j < n → A i j → i < n) (hB : ∀ i j, i < n → B i j → j < n) (hB' : ∀ i j, j < n → B i j → i < n) : ∀ i, i < n → L i = M i := by
  have key : ∀ {C : Nat → Nat → Prop} {P : Nat → Int}, (∀ i j, i < n → j < n → C i j → P j = P i) → (∀ i j, i < n → C i j → j < n) → (∀ i j, j < n → C i j → i < n) → ∀ {i j}, Conn C i j → i < n → j < n ∧ P i = P j := by
    intro C P h a b i j c hi
    induction c with
    | refl => exact ⟨hi, rfl⟩
    | step _ s ih =>
      obtain ⟨q, e⟩ := ih
      have hk := a _ _ q s
      exact ⟨hk, by rw [e, h _ _ q hk s]⟩
    | back _ s ih =>
      obtain ⟨q, e⟩ := ih
      have hk := b _ _ q s
      exact ⟨hk, by rw [e, h _ _ hk q s]⟩
  refine hL.unique hM fun i j hi hj => ⟨fun e => (key h1 hA hA' (hL.con i j hi hj e) hi).2, fun e => (key h2 hB hB' (hM.con i j hi hj e) hi).2⟩
end Go.Proofs.YtkjamheoihlekaaGreat

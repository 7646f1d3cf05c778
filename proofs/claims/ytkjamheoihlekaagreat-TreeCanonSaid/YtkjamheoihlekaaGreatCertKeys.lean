/- The keys of certify.twice and certify.mirrored: when all are apart; they are numbers that an int holds. Plain laws: of a surface all directed edges, and all sorted triples, are unlike. -/
import Derived.Test.YtkjamheoihlekaaGreatSurfDef
import Derived.Test.YtkjamheoihlekaaGreatMapLaw
import Derived.Test.YtkjamheoihlekaaGreatTogether
namespace Go.Proofs.YtkjamheoihlekaaGreat
set_option linter.unusedVariables false
set_option linter.unusedSimpArgs false
open Go.RowKit Go.Maps
/-- All keys of all triangles are unlike. -/
def KeysApart (T : List Tr) (f : Tr → List Ky) : Prop := ∀ (i i' p q : Nat) (a : Ky), i < T.length → i' < T.length → (f (T! T i))[p]? = some a → (f (T! T i'))[q]? = some a → i = i' ∧ p = q
theorem kcells_get : ∀ {L : List Ky} {p : Nat} {ky : Ky}, L[p]? = some ky → (kcells L)[p * 3]? = some (.int .i64 ky.1) ∧ (kcells L)[p * 3 + 1]? = some (.int .i64 ky.2.1) ∧ (kcells L)[p * 3 + 2]? = some (.int .i64 ky.2.2)
  | [], p, ky, h => by simp at h
  | t :: l, 0, ky, h => by
    simp at h; subst h
    exact ⟨rfl, rfl, rfl⟩
  | t :: l, p + 1, ky, h => by
    have ih := kcells_get (L := l) (p := p) (ky := ky) (by simpa using h)
    have e : ∀ j, (kcells (t :: l))[(p + 1) * 3 + j]? = (kcells l)[p * 3 + j]? := fun j => by
      have : (p + 1) * 3 + j = p * 3 + j + 3 := by omega
      rw [this]; rfl
    exact ⟨(e 0).trans ih.1, (e 1).trans ih.2.1, (e 2).trans ih.2.2⟩
theorem zero_ints : ∀ w, (zeroValue 28).run Tryz.prog w = .ok (.slice none 0 0) w := fun _ => by kernel_rfl
theorem keys3_in {t : Tr} (h : ∀ j, I64 (tg t j)) {k : Ky} (hk : k ∈ keys3 t) : I64 k.1 ∧ I64 k.2.1 ∧ I64 k.2.2 := by
  have h0 := h 0
  have h1 := h 1
  have h2 := h 2
  have z : I64 0 := ⟨by omega, by omega⟩
  simp only [tg] at h0 h1 h2
  simp only [keys3, List.mem_cons, List.not_mem_nil, or_false] at hk
  rcases hk with rfl | rfl | rfl
  · exact ⟨h0, h1, z⟩
  · exact ⟨h1, h2, z⟩
  · exact ⟨h2, h0, z⟩
theorem keys4_in {t : Tr} (h : ∀ j, I64 (tg t j)) {k : Ky} (hk : k ∈ keys4 t) : I64 k.1 ∧ I64 k.2.1 ∧ I64 k.2.2 := by
  have h0 := h 0
  have h1 := h 1
  have h2 := h 2
  simp only [tg] at h0 h1 h2
  simp only [keys4, List.mem_singleton] at hk
  subst hk
  have e := sort3_eq t
  have all : ∀ x, x ∈ [(sort3 t).1, (sort3 t).2.1, (sort3 t).2.2] → I64 x := fun x hx => by
    rw [← e, List.mem_mergeSort] at hx
    simp only [List.mem_cons, List.not_mem_nil, or_false] at hx
    rcases hx with rfl | rfl | rfl
    · exact h0
    · exact h1
    · exact h2
  exact ⟨all _ (by simp), all _ (by simp), all _ (by simp)⟩
theorem edgeB_iff {t : Tr} {a b : Int} : edgeB t a b = true ↔ ∃ p, p < 3 ∧ tg t p = a ∧ tg t ((p + 1) % 3) = b := by
  unfold edgeB
  simp only [Bool.or_eq_true, Bool.and_eq_true, beq_iff_eq]
  constructor
  · rintro ((h | h) | h)
    · exact ⟨0, by omega, h⟩
    · exact ⟨1, by omega, h⟩
    · exact ⟨2, by omega, h⟩
  · rintro ⟨p, hp, h⟩
    match p, hp with
    | 0, _ => exact .inl (.inl h)
    | 1, _ => exact .inl (.inr h)
    | 2, _ => exact .inr h
theorem twB_iff {t u : Tr} : twB t u = true ↔ ∃ p, p < 3 ∧ edgeB u (tg t p) (tg t ((p + 1) % 3)) = true := by
  unfold twB
  simp only [Bool.or_eq_true]
  constructor
  · rintro ((h | h) | h)
    · exact ⟨0, by omega, h⟩
    · exact ⟨1, by omega, h⟩
    · exact ⟨2, by omega, h⟩
  · rintro ⟨p, hp, h⟩
    match p, hp with
    | 0, _ => exact .inl (.inl h)
    | 1, _ => exact .inl (.inr h)
    | 2, _ => exact .inr h
theorem keys3_get {t : Tr} {p : Nat} {a : Ky} (h : (keys3 t)[p]? = some a) : p < 3 ∧ a.1 = tg t p ∧ a.2.1 = tg t ((p + 1) % 3) := by
  match p with
  | 0 => simp [keys3] at h; subst h; exact ⟨by omega, rfl, rfl⟩
  | 1 => simp [keys3] at h; subst h; exact ⟨by omega, rfl, rfl⟩
  | 2 => simp [keys3] at h; subst h; exact ⟨by omega, rfl, rfl⟩
  | p + 3 => simp [keys3] at h
theorem tg_ne {t : Tr} (h : loopB t = false) {l j : Nat} (hl : l < 3) (hj : j < 3) (e : tg t l = tg t j) : l = j := by
  unfold loopB at h
  simp only [Bool.or_eq_false_iff, beq_eq_false_iff_ne] at h
  obtain ⟨⟨h1, h2⟩, h3⟩ := h
  match l, j, hl, hj with
  | 0, 0, _, _ => rfl
  | 0, 1, _, _ => exact absurd e h1
  | 0, 2, _, _ => exact absurd e.symm h3
  | 1, 0, _, _ => exact absurd e.symm h1
  | 1, 1, _, _ => rfl
  | 1, 2, _, _ => exact absurd e h2
  | 2, 0, _, _ => exact absurd e h3
  | 2, 1, _, _ => exact absurd e.symm h2
  | 2, 2, _, _ => rfl
/-- A directed edge of a surface is in one triangle, at one place. -/
theorem Surf.edge_one {N : Int} {T : List Tr} (h : Surf N T) {i i' p q : Nat} (hi : i < T.length) (hi' : i' < T.length) (hp : p < 3) (hq : q < 3) (e1 : tg (T! T i) p = tg (T! T i') q)
    (e2 : tg (T! T i) ((p + 1) % 3) = tg (T! T i') ((q + 1) % 3)) : i = i' ∧ p = q := by
  have key : ∀ a b p q, a < b → b < T.length → p < 3 → q < 3 → tg (T! T a) p = tg (T! T b) q → tg (T! T a) ((p + 1) % 3) = tg (T! T b) ((q + 1) % 3) → False := by
    intro a b p q hab hb hp hq e1 e2
    have h1 := h.tw b a hb hab
    rw [twB_iff.2 ⟨p, hp, edgeB_iff.2 ⟨q, hq, e1.symm, e2.symm⟩⟩] at h1
    cases h1
  rcases Nat.lt_trichotomy i i' with hlt | rfl | hlt
  · exact (key i i' p q hlt hi' hp hq e1 e2).elim
  · exact ⟨rfl, tg_ne (h.noloop i hi) hp hq e1⟩
  · exact (key i' i q p hlt hi hq hp e1.symm e2.symm).elim
theorem Surf.keys3 {N : Int} {T : List Tr} (h : Surf N T) : KeysApart T keys3 := by
  intro i i' p q a hi hi' hp hq
  obtain ⟨h1, h2, h3⟩ := keys3_get hp
  obtain ⟨g1, g2, g3⟩ := keys3_get hq
  exact h.edge_one hi hi' h1 g1 (h2.symm.trans g2) (h3.symm.trans g3)
theorem Surf.keys4 {N : Int} {T : List Tr} (h : Surf N T) : KeysApart T keys4 := by
  intro i i' p q a hi hi' hp hq
  have hp0 : p = 0 ∧ sort3 (T! T i) = a := by
    match p, hp with
    | 0, hp => exact ⟨rfl, by simpa [Go.Proofs.YtkjamheoihlekaaGreat.keys4] using hp⟩
    | p + 1, hp => simp [Go.Proofs.YtkjamheoihlekaaGreat.keys4] at hp
  have hq0 : q = 0 ∧ sort3 (T! T i') = a := by
    match q, hq with
    | 0, hq => exact ⟨rfl, by simpa [Go.Proofs.YtkjamheoihlekaaGreat.keys4] using hq⟩
    | q + 1, hq => simp [Go.Proofs.YtkjamheoihlekaaGreat.keys4] at hq
  refine ⟨?_, by rw [hp0.1, hq0.1]⟩
  have hs : sort3 (T! T i) = sort3 (T! T i') := hp0.2.trans hq0.2.symm
  have mem : ∀ {t u : Tr}, sort3 t = sort3 u → mirB t u = true := by
    intro t u hs
    have e1 := sort3_eq t
    have e2 := sort3_eq u
    rw [hs] at e1
    have all : ∀ x, x ∈ [t.1, t.2.1, t.2.2] → hasB u x = true := fun x hx => by
      have : x ∈ [u.1, u.2.1, u.2.2] := by
        rw [← List.mem_mergeSort (le := fun x y => decide (x ≤ y)), e2, ← e1, List.mem_mergeSort]
        exact hx
      simp only [List.mem_cons, List.not_mem_nil, or_false] at this
      unfold hasB
      simp only [Bool.or_eq_true, beq_iff_eq]
      rcases this with h | h | h
      · exact .inl (.inl h.symm)
      · exact .inl (.inr h.symm)
      · exact .inr h.symm
    unfold mirB
    rw [all t.1 (by simp), all t.2.1 (by simp), all t.2.2 (by simp)]
    rfl
  rcases Nat.lt_trichotomy i i' with hlt | e | hlt
  · have h1 := h.mir i' i hi' hlt
    rw [mem hs] at h1
    cases h1
  · exact e
  · have h1 := h.mir i i' hi hlt
    rw [mem hs.symm] at h1
    cases h1
end Go.Proofs.YtkjamheoihlekaaGreat

/- Plain law: two surfaces side by side are a surface; its shells are those of both. -/
import Derived.Test.YtkggphfekeiejaaSub
namespace Go.Proofs.Ytkggphfekeiejaa
set_option linter.unusedVariables false
set_option linter.unusedSimpArgs false
open Go.RowKit
def sh (N : Int) (t : Tr) : Tr := (t.1 + N, t.2.1 + N, t.2.2 + N)
def side (T U : List Tr) (N : Int) : List Tr := T ++ U.map (sh N)
theorem side_length (T U : List Tr) (N : Int) : (side T U N).length = T.length + U.length := by simp [side]
theorem side_left {T : List Tr} (U : List Tr) (N : Int) {i : Nat} (h : i < T.length) : T! (side T U N) i = T! T i := by
  simp [T!, side, List.getD_eq_getElem?_getD, List.getElem?_append_left h]
theorem side_right (T : List Tr) {U : List Tr} (N : Int) {j : Nat} (h : j < U.length) : T! (side T U N) (T.length + j) = sh N (T! U j) := by
  simp [T!, side, List.getD_eq_getElem?_getD, h]
theorem tg_sh (N : Int) (t : Tr) (j : Nat) : tg (sh N t) j = tg t j + N := by
  match j with
  | 0 => rfl
  | 1 => rfl
  | _ + 2 => rfl
theorem hasB_sh (N : Int) (t : Tr) (v : Int) : hasB (sh N t) (v + N) = hasB t v := by
  rw [Bool.eq_iff_iff, hasB_iff, hasB_iff]
  constructor
  · rintro ⟨j, hj, e⟩; rw [tg_sh] at e; exact ⟨j, hj, by omega⟩
  · rintro ⟨j, hj, e⟩; exact ⟨j, hj, by rw [tg_sh]; omega⟩
theorem add_beq (N a b : Int) : ((a + N) == (b + N)) = (a == b) := by
  by_cases h : a = b
  · subst h; simp
  · rw [beq_eq_false_iff_ne.2 h, beq_eq_false_iff_ne.2 (by omega)]
theorem loopB_sh (N : Int) (t : Tr) : loopB (sh N t) = loopB t := by unfold loopB sh; simp only [add_beq]
theorem edgeB_sh (N : Int) (t : Tr) (a b : Int) : edgeB (sh N t) (a + N) (b + N) = edgeB t a b := by unfold edgeB sh; simp only [add_beq]
theorem twB_sh (N : Int) (t u : Tr) : twB (sh N t) (sh N u) = twB t u := by
  unfold twB
  show (edgeB (sh N u) (t.1 + N) (t.2.1 + N) || edgeB (sh N u) (t.2.1 + N) (t.2.2 + N) || edgeB (sh N u) (t.2.2 + N) (t.1 + N)) = _
  rw [edgeB_sh, edgeB_sh, edgeB_sh]
theorem mirB_sh (N : Int) (t u : Tr) : mirB (sh N t) (sh N u) = mirB t u := by
  unfold mirB
  show (hasB (sh N u) (t.1 + N) && hasB (sh N u) (t.2.1 + N) && hasB (sh N u) (t.2.2 + N)) = _
  rw [hasB_sh, hasB_sh, hasB_sh]
theorem nbB_sh (N : Int) (t u : Tr) : nbB (sh N t) (sh N u) = true ↔ nbB t u = true := by
  rw [nbB_iff, nbB_iff]
  constructor
  · rintro ⟨p, q, hp, hq, h1, h2⟩
    rw [tg_sh, tg_sh] at h1 h2
    exact ⟨p, q, hp, hq, by omega, by omega⟩
  · rintro ⟨p, q, hp, hq, h1, h2⟩
    exact ⟨p, q, hp, hq, by rw [tg_sh, tg_sh]; omega, by rw [tg_sh, tg_sh]; omega⟩
theorem edgeB_has {t : Tr} {a b : Int} (h : edgeB t a b = true) : hasB t a = true := by
  unfold edgeB at h
  unfold hasB
  simp only [Bool.or_eq_true, Bool.and_eq_true] at h
  rcases h with (h | h) | h <;> simp [h.1]
section
variable {N1 N2 : Int} {T U : List Tr}
theorem left_has (hs : Surf N1 T) {i : Nat} (hi : i < T.length) {v : Int} (h : hasB (T! T i) v = true) : v < N1 := by
  obtain ⟨j, e⟩ := hasB_tg h
  rw [← e]; exact (hs.vin i hi j).2
theorem right_has (hs : Surf N2 U) {j : Nat} (hj : j < U.length) {v : Int} (h : hasB (sh N1 (T! U j)) v = true) : N1 ≤ v := by
  obtain ⟨k, e⟩ := hasB_tg h
  rw [tg_sh] at e
  have := (hs.vin j hj k).1
  omega
theorem side_cases {i : Nat} (h : i < (side T U N1).length) : (i < T.length) ∨ ∃ j, i = T.length + j ∧ j < U.length := by
  rw [side_length] at h
  by_cases e : i < T.length
  · exact .inl e
  · exact .inr ⟨i - T.length, by omega, by omega⟩
/-- Two surfaces side by side. -/
theorem side_surf (h1 : Surf N1 T) (h2 : Surf N2 U) (hN : N1 + N2 ≤ 4096) (hT : T.length + U.length ≤ 8192) : Surf (N1 + N2) (side T U N1) := by
  have n1 := h1.n0
  have n2 := h2.n0
  refine ⟨by omega, hN, by rw [side_length]; exact hT, fun i hi j => ?_, fun i hi => ?_, fun b a hb hab => ?_, fun b a hb hab => ?_, fun v h0 hv => ?_, fun v h0 hv => ?_⟩
  · rcases side_cases hi with h | ⟨q, rfl, hq⟩
    · rw [side_left U N1 h]
      have := h1.vin i h j
      omega
    · rw [side_right T N1 hq, tg_sh]
      have := h2.vin q hq j
      omega
  · rcases side_cases hi with h | ⟨q, rfl, hq⟩
    · rw [side_left U N1 h]; exact h1.noloop i h
    · rw [side_right T N1 hq, loopB_sh]; exact h2.noloop q hq
  · rcases side_cases hb with h | ⟨q, rfl, hq⟩
    · rw [side_left U N1 h, side_left U N1 (show a < T.length by omega)]
      exact h1.tw b a h hab
    · rcases side_cases (N1 := N1) (U := U) (show a < (side T U N1).length by rw [side_length]; omega) with h | ⟨r, rfl, hr⟩
      · rw [side_right T N1 hq, side_left U N1 h]
        rw [← Bool.not_eq_true]
        intro ht
        unfold twB at ht
        simp only [Bool.or_eq_true] at ht
        have key : ∀ x y, hasB (T! T a) x = true → edgeB (sh N1 (T! U q)) x y = true → False := fun x y hx he => by
          have g1 := left_has h1 h hx
          have g2 := right_has (N1 := N1) h2 hq (edgeB_has he)
          omega
        rcases ht with (ht | ht) | ht
        · exact key _ _ (by simp [hasB]) ht
        · exact key _ _ (by simp [hasB]) ht
        · exact key _ _ (by simp [hasB]) ht
      · rw [side_right T N1 hq, side_right T N1 hr, twB_sh]
        exact h2.tw q r hq (by omega)
  · rcases side_cases hb with h | ⟨q, rfl, hq⟩
    · rw [side_left U N1 h, side_left U N1 (show a < T.length by omega)]
      exact h1.mir b a h hab
    · rcases side_cases (N1 := N1) (U := U) (show a < (side T U N1).length by rw [side_length]; omega) with h | ⟨r, rfl, hr⟩
      · rw [side_right T N1 hq, side_left U N1 h]
        rw [← Bool.not_eq_true]
        intro ht
        unfold mirB at ht
        simp only [Bool.and_eq_true] at ht
        have g1 := left_has h1 h (v := (T! T a).1) (by simp [hasB])
        have g2 := right_has (N1 := N1) h2 hq ht.1.1
        omega
      · rw [side_right T N1 hq, side_right T N1 hr, mirB_sh]
        exact h2.mir q r hq (by omega)
  · by_cases e : v < N1
    · obtain ⟨i, hi, hh⟩ := h1.used v h0 e
      exact ⟨i, by rw [side_length]; omega, by rw [side_left U N1 hi]; exact hh⟩
    · obtain ⟨j, hj, hh⟩ := h2.used (v - N1) (by omega) (by omega)
      refine ⟨T.length + j, by rw [side_length]; omega, ?_⟩
      rw [side_right T N1 hj, show v = (v - N1) + N1 by omega, hasB_sh]
      exact hh
  · intro i k hi hk g1 g2
    by_cases e : v < N1
    · have inl : ∀ i, i < (side T U N1).length → hasB (T! (side T U N1) i) v = true → i < T.length := fun i hi g => by
        rcases side_cases hi with h | ⟨q, rfl, hq⟩
        · exact h
        · rw [side_right T N1 hq] at g
          have := right_has (N1 := N1) h2 hq g
          omega
      have li := inl i hi g1
      have lk := inl k hk g2
      rw [side_left U N1 li] at g1
      rw [side_left U N1 lk] at g2
      have hc := h1.pin v h0 e i k li lk g1 g2
      have step : ∀ {a b : Nat}, PAdj T v a b → PAdj (side T U N1) v a b := fun {a b} h => by
        obtain ⟨ha, hb, q1, q2, j, hj, hne, q3⟩ := h
        refine ⟨by rw [side_length]; omega, by rw [side_length]; omega, by rw [side_left U N1 ha]; exact q1, by rw [side_left U N1 hb]; exact q2, j, hj, ?_, ?_⟩
        · rw [side_left U N1 ha]; exact hne
        · rw [side_left U N1 ha, side_left U N1 hb]; exact q3
      clear g1 g2 hi hk li lk
      induction hc with
      | refl => exact .refl _
      | step _ s ih => exact ih.step (step s)
      | back _ s ih => exact ih.back (step s)
    · have inr : ∀ i, i < (side T U N1).length → hasB (T! (side T U N1) i) v = true → ∃ q, i = T.length + q ∧ q < U.length ∧ hasB (T! U q) (v - N1) = true := fun i hi g => by
        rcases side_cases hi with h | ⟨q, rfl, hq⟩
        · rw [side_left U N1 h] at g
          have := left_has h1 h g
          omega
        · rw [side_right T N1 hq, show v = (v - N1) + N1 by omega, hasB_sh] at g
          exact ⟨q, rfl, hq, g⟩
      obtain ⟨p, rfl, hp, gp⟩ := inr i hi g1
      obtain ⟨q, rfl, hq, gq⟩ := inr k hk g2
      have hc := h2.pin (v - N1) (by omega) (by omega) p q hp hq gp gq
      have step : ∀ {a b : Nat}, PAdj U (v - N1) a b → PAdj (side T U N1) v (T.length + a) (T.length + b) := fun {a b} h => by
        obtain ⟨ha, hb, q1, q2, j, hj, hne, q3⟩ := h
        refine ⟨by rw [side_length]; omega, by rw [side_length]; omega, ?_, ?_, j, hj, ?_, ?_⟩
        · rw [side_right T N1 ha, show v = (v - N1) + N1 by omega, hasB_sh]; exact q1
        · rw [side_right T N1 hb, show v = (v - N1) + N1 by omega, hasB_sh]; exact q2
        · rw [side_right T N1 ha, tg_sh]; intro e; exact hne (by omega)
        · rw [side_right T N1 ha, side_right T N1 hb, tg_sh, hasB_sh]; exact q3
      have gen : ∀ a b, Conn (PAdj U (v - N1)) a b → Conn (PAdj (side T U N1) v) (T.length + a) (T.length + b) := by
        intro a b c
        induction c with
        | refl => exact .refl _
        | step _ s ih => exact ih.step (step s)
        | back _ s ih => exact ih.back (step s)
      exact gen p q hc
theorem IsShells.congr {A B : Nat → Nat → Prop} {n : Nat} {L : Nat → Int} (h : IsShells A n L) (hAB : ∀ i j, A i j ↔ B i j) : IsShells B n L := by
  have : A = B := by funext i j; exact propext (hAB i j)
  rw [← this]; exact h
theorem adj_iff {N : Int} {T : List Tr} (hs : Surf N T) (i j : Nat) : Adj T i j ↔ NbA T i j := ⟨hs.adj_nb, hs.nb_adj⟩
/-- The shells of both, the first one's first. -/
def sideL (L M : Nat → Int) (n : Nat) (c : Int) : Nat → Int := fun i => if i < n then L i else c + M (i - n)
theorem side_nb {i j : Nat} (h1 : Surf N1 T) (h2 : Surf N2 U) : NbA (side T U N1) i j ↔ (i < T.length ∧ j < T.length ∧ NbA T i j) ∨ ∃ p q, i = T.length + p ∧ j = T.length + q ∧ NbA U p q := by
  constructor
  · rintro ⟨hi, hj, h⟩
    rcases side_cases hi with a | ⟨p, rfl, hp⟩ <;> rcases side_cases hj with b | ⟨q, rfl, hq⟩
    · rw [side_left U N1 a, side_left U N1 b] at h
      exact .inl ⟨a, b, a, b, h⟩
    · exfalso
      rw [side_left U N1 a, side_right T N1 hq] at h
      obtain ⟨x, y, hx, hy, e1, _⟩ := nbB_iff.1 h
      rw [tg_sh] at e1
      have g1 := (h1.vin i a x).2
      have g2 := (h2.vin q hq ((y + 1) % 3)).1
      omega
    · exfalso
      rw [side_right T N1 hp, side_left U N1 b] at h
      obtain ⟨x, y, hx, hy, e1, _⟩ := nbB_iff.1 h
      rw [tg_sh] at e1
      have g1 := (h1.vin j b ((y + 1) % 3)).2
      have g2 := (h2.vin p hp x).1
      omega
    · rw [side_right T N1 hp, side_right T N1 hq, nbB_sh] at h
      exact .inr ⟨p, q, rfl, rfl, hp, hq, h⟩
  · rintro (⟨a, b, _, _, h⟩ | ⟨p, q, rfl, rfl, hp, hq, h⟩)
    · exact ⟨by rw [side_length]; omega, by rw [side_length]; omega, by rw [side_left U N1 a, side_left U N1 b]; exact h⟩
    · exact ⟨by rw [side_length]; omega, by rw [side_length]; omega, by rw [side_right T N1 hp, side_right T N1 hq, nbB_sh]; exact h⟩
theorem side_shells (h1 : Surf N1 T) (h2 : Surf N2 U) (hN : N1 + N2 ≤ 4096) (hT : T.length + U.length ≤ 8192) {L M : Nat → Int} (hL : IsShells (Adj T) T.length L) (hM : IsShells (Adj U) U.length M) :
    IsShells (Adj (side T U N1)) (side T U N1).length (sideL L M T.length (cnt L T.length)) := by
  have hs := side_surf h1 h2 hN hT
  refine IsShells.congr ?_ fun i j => (adj_iff hs i j).symm
  replace hL := hL.congr fun i j => adj_iff h1 i j
  replace hM := hM.congr fun i j => adj_iff h2 i j
  have c0 := cnt_nonneg L T.length
  have eL : ∀ i, i < T.length → sideL L M T.length (cnt L T.length) i = L i := fun i hi => by unfold sideL; rw [if_pos hi]
  have eM : ∀ j, sideL L M T.length (cnt L T.length) (T.length + j) = cnt L T.length + M j := fun j => by unfold sideL; rw [if_neg (by omega), show T.length + j - T.length = j by omega]
  refine ⟨fun i hi => ?_, fun i j hi hj h => ?_, fun i j hi hj h => ?_, fun i hi m h0 hm => ?_⟩
  · rcases side_cases hi with a | ⟨p, rfl, hp⟩
    · rw [eL i a]; exact hL.nonneg i a
    · rw [eM]; have := hM.nonneg p hp; omega
  · rcases (side_nb h1 h2).1 h with ⟨a, b, h⟩ | ⟨p, q, rfl, rfl, h'⟩
    · rw [eL i a, eL j b]; exact hL.clo i j a b h
    · rw [eM, eM, hM.clo p q h'.1 h'.2.1 h']
  · have genL : ∀ a b, Conn (NbA T) a b → Conn (NbA (side T U N1)) a b := by
      intro a b c
      induction c with
      | refl => exact .refl _
      | step _ s ih => exact ih.step ((side_nb h1 h2).2 (.inl ⟨s.1, s.2.1, s⟩))
      | back _ s ih => exact ih.back ((side_nb h1 h2).2 (.inl ⟨s.1, s.2.1, s⟩))
    have genM : ∀ a b, Conn (NbA U) a b → Conn (NbA (side T U N1)) (T.length + a) (T.length + b) := by
      intro a b c
      induction c with
      | refl => exact .refl _
      | step _ s ih => exact ih.step ((side_nb h1 h2).2 (.inr ⟨_, _, rfl, rfl, s⟩))
      | back _ s ih => exact ih.back ((side_nb h1 h2).2 (.inr ⟨_, _, rfl, rfl, s⟩))
    rcases side_cases hi with a | ⟨p, rfl, hp⟩ <;> rcases side_cases hj with b | ⟨q, rfl, hq⟩
    · rw [eL i a, eL j b] at h
      exact genL i j (hL.con i j a b h)
    · rw [eL i a, eM] at h
      have g1 := cnt_lt L T.length i a
      have g2 := hM.nonneg q hq
      omega
    · rw [eM, eL j b] at h
      have g1 := cnt_lt L T.length j b
      have g2 := hM.nonneg p hp
      omega
    · rw [eM, eM] at h
      exact genM p q (hM.con p q hp hq (by omega))
  · rcases side_cases hi with a | ⟨p, rfl, hp⟩
    · rw [eL i a] at hm
      obtain ⟨j, hj, e⟩ := hL.rg i a m h0 hm
      exact ⟨j, hj, by rw [eL j (by omega)]; exact e⟩
    · rw [eM] at hm
      by_cases e : m < cnt L T.length
      · obtain ⟨c, hc⟩ := Int.eq_ofNat_of_zero_le c0
        obtain ⟨k, rfl⟩ := Int.eq_ofNat_of_zero_le h0
        obtain ⟨j, hj, e'⟩ := has_shell (m := c) hL hc.symm (k := k) (by omega)
        exact ⟨j, by omega, by rw [eL j hj]; exact e'⟩
      · obtain ⟨j, hj, e'⟩ := hM.rg p hp (m - cnt L T.length) (by omega) (by omega)
        exact ⟨T.length + j, by omega, by rw [eM, e']; omega⟩
theorem side_cnt (L M : Nat → Int) (n k : Nat) : cnt (sideL L M n (cnt L n)) (n + k) = cnt L n + cnt M k := by
  induction k with
  | zero =>
    have : cnt (sideL L M n (cnt L n)) n = cnt L n := cnt_congr n fun i hi => by unfold sideL; rw [if_pos hi]
    simp only [Nat.add_zero, cnt]
    omega
  | succ k ih =>
    show max (cnt (sideL L M n (cnt L n)) (n + k)) (sideL L M n (cnt L n) (n + k) + 1) = cnt L n + max (cnt M k) (M k + 1)
    rw [ih]
    have : sideL L M n (cnt L n) (n + k) = cnt L n + M k := by unfold sideL; rw [if_neg (by omega), show n + k - n = k by omega]
    rw [this]
    omega
end
end Go.Proofs.Ytkggphfekeiejaa

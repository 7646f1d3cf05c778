/- Plain: the lesser of two numbers laid on both, pair by pair, round by round, till each is the least of its part. -/
import Derived.Test.YtknioobpoieohaaGreatSpread
import Derived.Test.YtknioobpoieohaaGreatFaceLaw
namespace Go.Proofs.YtknioobpoieohaaGreat
set_option linter.unusedVariables false
set_option linter.unusedSimpArgs false
/-- In the middle of a round that began at φ0: the pairs P have been joined. -/
structure JInv (A : Nat → Nat → Prop) (n : Nat) (φ0 φ : Nat → Nat) (P : Nat → Nat → Prop) : Prop where
  sp : Sp A n φ
  mono : ∀ j l, j < n → Least A l → φ0 j = l → φ j = l
  prog : ∀ i j l, P i j → i < n → j < n → Least A l → φ0 i = l → φ j = l
theorem JInv.start {A : Nat → Nat → Prop} {n : Nat} {φ : Nat → Nat} (h : Sp A n φ) : JInv A n φ φ fun _ _ => False := ⟨h, fun _ _ _ _ e => e, fun _ _ _ h => h.elim⟩
/-- The lesser of two stands in both places. -/
def joinF (φ : Nat → Nat) (a b : Nat) : Nat → Nat := updN (updN φ a (min (φ a) (φ b))) b (min (φ a) (φ b))
theorem JInv.join {A : Nat → Nat → Prop} {n : Nat} {φ0 φ : Nat → Nat} {P : Nat → Nat → Prop} (h : JInv A n φ0 φ P) {a b : Nat} (ha : a < n) (hb : b < n) (hab : A a b) (hsym : ∀ i j, A i j → A j i) :
    JInv A n φ0 (joinF φ a b) fun i j => P i j ∨ (i = a ∧ j = b) ∨ (i = b ∧ j = a) := by
  have sa := h.sp a ha
  have sb := h.sp b hb
  have ca : Conn A (φ a) b := sa.2.step hab
  have cb : Conn A (φ b) a := sb.2.back hab
  have keep : ∀ j l, Least A l → φ j = l → joinF φ a b j = l := by
    intro j l hl e
    unfold joinF updN
    by_cases e1 : j = b
    · rw [if_pos e1]
      have : l ≤ φ a := hl _ (by rw [← e, e1]; exact sb.2.trans ca.symm)
      rw [e1] at e
      omega
    · rw [if_neg e1]
      by_cases e2 : j = a
      · rw [if_pos e2]
        have : l ≤ φ b := hl _ (by rw [← e, e2]; exact sa.2.trans cb.symm)
        rw [e2] at e
        omega
      · rw [if_neg e2]; exact e
  have both : ∀ l, Least A l → φ a = l ∨ φ b = l → joinF φ a b a = l ∧ joinF φ a b b = l := by
    intro l hl e
    have hm : min (φ a) (φ b) = l := by
      rcases e with e | e
      · have : l ≤ φ b := hl _ (by rw [← e]; exact ca.trans sb.2.symm)
        omega
      · have : l ≤ φ a := hl _ (by rw [← e]; exact cb.trans sa.2.symm)
        omega
    unfold joinF updN
    constructor
    · by_cases e1 : a = b
      · rw [if_pos e1]; exact hm
      · rw [if_neg e1, if_pos rfl]; exact hm
    · rw [if_pos rfl]; exact hm
  refine ⟨fun j hj => ?_, fun j l hj hl e => keep j l hl (h.mono j l hj hl e), fun i j l hP hi hj hl e => ?_⟩
  · unfold joinF updN
    by_cases e1 : j = b
    · subst e1
      rw [if_pos rfl]
      rcases Nat.le_total (φ a) (φ j) with hle | hle
      · rw [Nat.min_eq_left hle]; exact ⟨by omega, ca⟩
      · rw [Nat.min_eq_right hle]; exact sb
    · rw [if_neg e1]
      by_cases e2 : j = a
      · subst e2
        rw [if_pos rfl]
        rcases Nat.le_total (φ j) (φ b) with hle | hle
        · rw [Nat.min_eq_left hle]; exact sa
        · rw [Nat.min_eq_right hle]; exact ⟨by omega, cb⟩
      · rw [if_neg e2]; exact h.sp j hj
  · rcases hP with hP | ⟨rfl, rfl⟩ | ⟨rfl, rfl⟩
    · exact keep j l hl (h.prog i j l hP hi hj hl e)
    · exact (both l hl (.inl (h.mono i l hi hl e))).2
    · exact (both l hl (.inr (h.mono i l hi hl e))).1
theorem JInv.more {A : Nat → Nat → Prop} {n : Nat} {φ0 φ : Nat → Nat} {P Q : Nat → Nat → Prop} (h : JInv A n φ0 φ P) (hq : ∀ i j, Q i j → P i j) : JInv A n φ0 φ Q := ⟨h.sp, h.mono, fun i j l hQ => h.prog i j l (hq i j hQ)⟩
/-- All pairs have been joined: a round is done. -/
theorem JInv.round {A : Nat → Nat → Prop} {n : Nat} {φ0 φ : Nat → Nat} {P : Nat → Nat → Prop} (h : JInv A n φ0 φ P) (hsym : ∀ i j, A i j → A j i) (hall : ∀ i j, A i j → P i j) : RInv A n φ0 φ n 0 :=
  ⟨h.sp, h.mono, fun j k' l hj hk _ a hl e => h.prog k' j l (hall _ _ (hsym _ _ a)) hk hj hl e⟩
theorem Rep.least {A : Nat → Nat → Prop} {n : Nat} {φ : Nat → Nat} (h : Rep A n φ) (hA : ∀ i j, A i j → i < n ∧ j < n) : IsLeast A n (fun i => (φ i : Int)) where
  nonneg i hi := by omega
  le i hi := by have := (h.sp i hi).1; omega
  clo i j hi hj a := by
    have := h.eq i j hi hj (.step (.refl _) a)
    omega
  con i hi := by simpa using (h.sp i hi).2
/-- The pairs that the first corners join. -/
def SideP (T : List Tr) (bay : Nat → Int) (k : Nat) (i j : Nat) : Prop :=
  ∃ c o : Nat, c < k ∧ c < 3 * T.length ∧ opp T (c : Int) = (o : Int) ∧ bay (o / 3) = bay (c / 3) ∧ ((i = nxn c ∧ j = pvn o) ∨ (i = pvn o ∧ j = nxn c) ∨ (i = pvn c ∧ j = nxn o) ∨ (i = nxn o ∧ j = pvn c))
theorem SideP.all {T : List Tr} {bay : Nat → Int} {i j : Nat} (h : SAdj T bay i j) : SideP T bay (3 * T.length) i j := by
  obtain ⟨hx, hy, hb, o, ⟨e, rfl⟩ | ⟨e, rfl⟩⟩ := h
  · refine ⟨nxn i, o, nxn_lt hx, nxn_lt hx, e, ?_, .inr (.inr (.inl ⟨(pvn_nxn i).symm, rfl⟩))⟩
    rw [nxn_div] at hb ⊢
    exact hb
  · refine ⟨pvn i, o, pvn_lt hx, pvn_lt hx, e, ?_, .inl ⟨(nxn_pvn i).symm, rfl⟩⟩
    rw [pvn_div] at hb ⊢
    exact hb
theorem side_one {N : Int} {T : List Tr} (hs : Surf N T) {bay : Nat → Int} {c o : Nat} (hc : c < 3 * T.length) (ho : opp T (c : Int) = (o : Int)) (hb : bay (o / 3) = bay (c / 3)) : o < 3 * T.length ∧ SAdj T bay (nxn c) (pvn o) ∧ SAdj T bay (pvn c) (nxn o) := by
  obtain ⟨o', e', hol, -, -, -⟩ := hs.opp_opp hc (by omega)
  obtain rfl : o' = o := by omega
  refine ⟨hol, ⟨nxn_lt hc, pvn_lt hol, by rw [pvn_div, nxn_div]; exact hb, o', .inr ⟨by rw [pvn_nxn]; exact ho, rfl⟩⟩, ⟨pvn_lt hc, nxn_lt hol, by rw [nxn_div, pvn_div]; exact hb, o', .inl ⟨by rw [nxn_pvn]; exact ho, rfl⟩⟩⟩
theorem SideP.step {T : List Tr} {bay : Nat → Int} {k i j : Nat} (h : SideP T bay (k + 1) i j) : SideP T bay k i j ∨ ∃ o : Nat, opp T (k : Int) = (o : Int) ∧ bay (o / 3) = bay (k / 3) ∧ ((i = nxn k ∧ j = pvn o) ∨ (i = pvn o ∧ j = nxn k) ∨ (i = pvn k ∧ j = nxn o) ∨ (i = nxn o ∧ j = pvn k)) := by
  obtain ⟨c, o, hc, hcl, ho, hb, hp⟩ := h
  by_cases e : c = k
  · subst e; exact .inr ⟨o, ho, hb, hp⟩
  · exact .inl ⟨c, o, by omega, hcl, ho, hb, hp⟩
end Go.Proofs.YtknioobpoieohaaGreat

/- Plain: the lesser of two numbers laid on both, pair by pair, round by round, till each is the least of its part. Plain: edges that one may go over, by values of corners; charts of triangles, sides of corners. -/
import Derived.Test.YtfbpjlfimmjieaaGreatSpread
import Derived.Test.YtfbpjlfimmjieaaGreatFaceLaw
import Derived.Test.YtfbpjlfimmjieaaGreatSideLaw
import Derived.Test.YtfbpjlfimmjieaaGreatRowl
import Derived.Test.YtfbpjlfimmjieaaGreatIntsDef
namespace Go.Proofs.YtfbpjlfimmjieaaGreat
set_option linter.unusedVariables false
set_option linter.unusedSimpArgs false
/-- In the middle of a round that began at φ0: the pairs P have been joined. -/
structure JInv (A : Nat → Nat → Prop) (n : Nat) (φ0 φ : Nat → Nat) (P : Nat → Nat → Prop) : Prop where
  sp : Sp A n φ
  mono : ∀ j l, j < n → Least A l → φ0 j = l → φ j = l
  prog : ∀ i j l, P i j → i < n → j < n → Least A l → φ0 i = l → φ j = l
theorem JInv.start {A : Nat → Nat → Prop} {n : Nat} {φ : Nat → Nat} (h : Sp A n φ) : JInv A n φ φ fun _ _ => False := ⟨h, fun _ _ _ _ e => e, fun _ _ _ h => h.elim⟩
/-- The lesser of two stands in both places. -/
def joinF (φ : Nat → Nat) (a b : Nat) : Nat → Nat := updN (updN φ a (min (φ a) (φ b))) b (min (φ a) (φ b))
theorem JInv.join {A : Nat → Nat → Prop} {n : Nat} {φ0 φ : Nat → Nat} {P : Nat → Nat → Prop} (h : JInv A n φ0 φ P) {a b : Nat} (ha : a < n) (hb : b < n) (hab : A a b) (hsym : ∀ i j, A i j → A j i) :
    JInv A n φ0 (joinF φ a b) fun i j => P i j ∨ (i = a ∧ j = b) ∨ (i = b ∧ j = a) := by
  have sa := h.sp a ha
  have sb := h.sp b hb
  have ca : Conn A (φ a) b := sa.2.step hab
  have cb : Conn A (φ b) a := sb.2.back hab
  have keep : ∀ j l, Least A l → φ j = l → joinF φ a b j = l := by
    intro j l hl e
    unfold joinF updN
    by_cases e1 : j = b
    · rw [if_pos e1]
      have : l ≤ φ a := hl _ (by rw [← e, e1]; exact sb.2.trans ca.symm)
      rw [e1] at e
      omega
    · rw [if_neg e1]
      by_cases e2 : j = a
      · rw [if_pos e2]
        have : l ≤ φ b := hl _ (by rw [← e, e2]; exact sa.2.trans cb.symm)
        rw [e2] at e
        omega
      · rw [if_neg e2]; exact e
  have both : ∀ l, Least A l → φ a = l ∨ φ b = l → joinF φ a b a = l ∧ joinF φ a b b = l := by
    intro l hl e
    have hm : min (φ a) (φ b) = l := by
      rcases e with e | e
      · have : l ≤ φ b := hl _ (by rw [← e]; exact ca.trans sb.2.symm)
        omega
      · have : l ≤ φ a := hl _ (by rw [← e]; exact cb.trans sa.2.symm)
        omega
    unfold joinF updN
    constructor
    · by_cases e1 : a = b
      · rw [if_pos e1]; exact hm
      · rw [if_neg e1, if_pos rfl]; exact hm
    · rw [if_pos rfl]; exact hm
  refine ⟨fun j hj => ?_, fun j l hj hl e => keep j l hl (h.mono j l hj hl e), fun i j l hP hi hj hl e => ?_⟩
  · unfold joinF updN
    by_cases e1 : j = b
    · subst e1
      rw [if_pos rfl]
      rcases Nat.le_total (φ a) (φ j) with hle | hle
      · rw [Nat.min_eq_left hle]; exact ⟨by omega, ca⟩
      · rw [Nat.min_eq_right hle]; exact sb
    · rw [if_neg e1]
      by_cases e2 : j = a
      · subst e2
        rw [if_pos rfl]
        rcases Nat.le_total (φ j) (φ b) with hle | hle
        · rw [Nat.min_eq_left hle]; exact sa
        · rw [Nat.min_eq_right hle]; exact ⟨by omega, cb⟩
      · rw [if_neg e2]; exact h.sp j hj
  · rcases hP with hP | ⟨rfl, rfl⟩ | ⟨rfl, rfl⟩
    · exact keep j l hl (h.prog i j l hP hi hj hl e)
    · exact (both l hl (.inl (h.mono i l hi hl e))).2
    · exact (both l hl (.inr (h.mono i l hi hl e))).1
theorem JInv.more {A : Nat → Nat → Prop} {n : Nat} {φ0 φ : Nat → Nat} {P Q : Nat → Nat → Prop} (h : JInv A n φ0 φ P) (hq : ∀ i j, Q i j → P i j) : JInv A n φ0 φ Q := ⟨h.sp, h.mono, fun i j l hQ => h.prog i j l (hq i j hQ)⟩
/-- All pairs have been joined: a round is done. -/
theorem JInv.round {A : Nat → Nat → Prop} {n : Nat} {φ0 φ : Nat → Nat} {P : Nat → Nat → Prop} (h : JInv A n φ0 φ P) (hsym : ∀ i j, A i j → A j i) (hall : ∀ i j, A i j → P i j) : RInv A n φ0 φ n 0 :=
  ⟨h.sp, h.mono, fun j k' l hj hk _ a hl e => h.prog k' j l (hall _ _ (hsym _ _ a)) hk hj hl e⟩
theorem Rep.least {A : Nat → Nat → Prop} {n : Nat} {φ : Nat → Nat} (h : Rep A n φ) (hA : ∀ i j, A i j → i < n ∧ j < n) : IsLeast A n (fun i => (φ i : Int)) where
  nonneg i hi := by omega
  le i hi := by have := (h.sp i hi).1; omega
  clo i j hi hj a := by
    have := h.eq i j hi hj (.step (.refl _) a)
    omega
  con i hi := by simpa using (h.sp i hi).2
/-- The pairs that the first corners join. -/
def SideP (T : List Tr) (bay : Nat → Int) (k : Nat) (i j : Nat) : Prop :=
  ∃ c o : Nat, c < k ∧ c < 3 * T.length ∧ opp T (c : Int) = (o : Int) ∧ bay (o / 3) = bay (c / 3) ∧ ((i = nxn c ∧ j = pvn o) ∨ (i = pvn o ∧ j = nxn c) ∨ (i = pvn c ∧ j = nxn o) ∨ (i = nxn o ∧ j = pvn c))
theorem SideP.all {T : List Tr} {bay : Nat → Int} {i j : Nat} (h : SAdj T bay i j) : SideP T bay (3 * T.length) i j := by
  obtain ⟨hx, hy, hb, o, ⟨e, rfl⟩ | ⟨e, rfl⟩⟩ := h
  · refine ⟨nxn i, o, nxn_lt hx, nxn_lt hx, e, ?_, .inr (.inr (.inl ⟨(pvn_nxn i).symm, rfl⟩))⟩
    rw [nxn_div] at hb ⊢
    exact hb
  · refine ⟨pvn i, o, pvn_lt hx, pvn_lt hx, e, ?_, .inl ⟨(nxn_pvn i).symm, rfl⟩⟩
    rw [pvn_div] at hb ⊢
    exact hb
theorem side_one {N : Int} {T : List Tr} (hs : Surf N T) {bay : Nat → Int} {c o : Nat} (hc : c < 3 * T.length) (ho : opp T (c : Int) = (o : Int)) (hb : bay (o / 3) = bay (c / 3)) : o < 3 * T.length ∧ SAdj T bay (nxn c) (pvn o) ∧ SAdj T bay (pvn c) (nxn o) := by
  obtain ⟨o', e', hol, -, -, -⟩ := hs.opp_opp hc (by omega)
  obtain rfl : o' = o := by omega
  refine ⟨hol, ⟨nxn_lt hc, pvn_lt hol, by rw [pvn_div, nxn_div]; exact hb, o', .inr ⟨by rw [pvn_nxn]; exact ho, rfl⟩⟩, ⟨pvn_lt hc, nxn_lt hol, by rw [nxn_div, pvn_div]; exact hb, o', .inl ⟨by rw [nxn_pvn]; exact ho, rfl⟩⟩⟩
theorem SideP.step {T : List Tr} {bay : Nat → Int} {k i j : Nat} (h : SideP T bay (k + 1) i j) : SideP T bay k i j ∨ ∃ o : Nat, opp T (k : Int) = (o : Int) ∧ bay (o / 3) = bay (k / 3) ∧ ((i = nxn k ∧ j = pvn o) ∨ (i = pvn o ∧ j = nxn k) ∨ (i = pvn k ∧ j = nxn o) ∨ (i = nxn o ∧ j = pvn k)) := by
  obtain ⟨c, o, hc, hcl, ho, hb, hp⟩ := h
  by_cases e : c = k
  · subst e; exact .inr ⟨o, ho, hb, hp⟩
  · exact .inl ⟨c, o, by omega, hcl, ho, hb, hp⟩
section
variable {N : Int} {T : List Tr} {K : List Int}
/-- One may go over the edge that corner c faces, and comes to o. -/
def OpenK (T : List Tr) (K : List Int) (c o : Nat) : Prop := opp T (c : Int) = (o : Int) ∧ I! K (nxn c) = I! K (pvn o) ∧ I! K (pvn c) = I! K (nxn o)
theorem OpenK.symm (hs : Surf N T) {c o : Nat} (hc : c < 3 * T.length) (h : OpenK T K c o) : o < 3 * T.length ∧ OpenK T K o c := by
  obtain ⟨h1, h2, h3⟩ := h
  obtain ⟨o', e, ho, hoo, -, -⟩ := hs.opp_opp hc (by omega)
  obtain rfl : o' = o := by omega
  exact ⟨ho, hoo, h3.symm, h2.symm⟩
/-- Triangles next to each other over such an edge. -/
def KAdj (T : List Tr) (K : List Int) (a b : Nat) : Prop := ∃ c o : Nat, c < 3 * T.length ∧ o < 3 * T.length ∧ OpenK T K c o ∧ a = c / 3 ∧ b = o / 3
/-- Corners next to each other at their vertex over such an edge. -/
def KSAdj (T : List Tr) (K : List Int) (x y : Nat) : Prop := x < 3 * T.length ∧ y < 3 * T.length ∧ ∃ o : Nat, (OpenK T K (nxn x) o ∧ y = nxn o) ∨ (OpenK T K (pvn x) o ∧ y = pvn o)
theorem kadj_in : ∀ i j, KAdj T K i j → i < T.length ∧ j < T.length := by
  rintro i j ⟨c, o, hc, ho, -, rfl, rfl⟩
  omega
theorem ksadj_in : ∀ i j, KSAdj T K i j → i < 3 * T.length ∧ j < 3 * T.length := fun _ _ h => ⟨h.1, h.2.1⟩
theorem kadj_symm (hs : Surf N T) : ∀ i j, KAdj T K i j → KAdj T K j i := by
  rintro i j ⟨c, o, hc, ho, h, rfl, rfl⟩
  exact ⟨o, c, ho, hc, (h.symm hs hc).2, rfl, rfl⟩
theorem ksadj_symm (hs : Surf N T) : ∀ x y, KSAdj T K x y → KSAdj T K y x := by
  rintro x y ⟨hx, hy, o, ⟨h, rfl⟩ | ⟨h, rfl⟩⟩
  · exact ⟨hy, hx, nxn x, .inr ⟨by rw [pvn_nxn]; exact (h.symm hs (nxn_lt hx)).2, (pvn_nxn x).symm⟩⟩
  · exact ⟨hy, hx, pvn x, .inl ⟨by rw [nxn_pvn]; exact (h.symm hs (pvn_lt hx)).2, (nxn_pvn x).symm⟩⟩
theorem ksadj_s {x y : Nat} (h : KSAdj T K x y) : SAdj T (fun _ => 0) x y := by
  obtain ⟨hx, hy, o, ⟨h, rfl⟩ | ⟨h, rfl⟩⟩ := h
  · exact ⟨hx, hy, rfl, o, .inl ⟨h.1, rfl⟩⟩
  · exact ⟨hx, hy, rfl, o, .inr ⟨h.1, rfl⟩⟩
theorem ksadj_vt (hs : Surf N T) {x y : Nat} (h : KSAdj T K x y) : vt T (y : Nat) = vt T (x : Nat) := hs.sadj_vt (ksadj_s h)
theorem ksadj_val {x y : Nat} (h : KSAdj T K x y) : I! K y = I! K x := by
  obtain ⟨hx, hy, o, ⟨h, rfl⟩ | ⟨h, rfl⟩⟩ := h
  · have := h.2.2
    rw [pvn_nxn] at this
    exact this.symm
  · have := h.2.1
    rw [nxn_pvn] at this
    exact this.symm
theorem ksadj_tri {x y : Nat} (h : KSAdj T K x y) : KAdj T K (x / 3) (y / 3) := by
  obtain ⟨hx, hy, o, ⟨h, rfl⟩ | ⟨h, rfl⟩⟩ := h
  · exact ⟨nxn x, o, nxn_lt hx, by unfold nxn at hy; omega, h, (nxn_div x).symm, by rw [nxn_div]⟩
  · exact ⟨pvn x, o, pvn_lt hx, by unfold pvn at hy; omega, h, (pvn_div x).symm, by rw [pvn_div]⟩
theorem kside_vt (hs : Surf N T) {x y : Nat} (h : Conn (KSAdj T K) x y) : vt T (y : Nat) = vt T (x : Nat) := by
  induction h with
  | refl => rfl
  | step _ s ih => rw [ksadj_vt hs s, ih]
  | back _ s ih => rw [← ih, ksadj_vt hs s]
theorem kside_val {x y : Nat} (h : Conn (KSAdj T K) x y) : I! K y = I! K x := by
  induction h with
  | refl => rfl
  | step _ s ih => rw [ksadj_val s, ih]
  | back _ s ih => rw [← ih, ksadj_val s]
theorem kside_tri {x y : Nat} (h : Conn (KSAdj T K) x y) : Conn (KAdj T K) (x / 3) (y / 3) := by
  induction h with
  | refl => exact .refl _
  | step _ s ih => exact ih.step (ksadj_tri s)
  | back _ s ih => exact ih.back (ksadj_tri s)
/-- The two ends of an edge that one may go over. -/
theorem open_sides (hs : Surf N T) {c o : Nat} (hc : c < 3 * T.length) (h : OpenK T K c o) : KSAdj T K (nxn c) (pvn o) ∧ KSAdj T K (pvn c) (nxn o) := by
  have ho := (h.symm hs hc).1
  exact ⟨⟨nxn_lt hc, pvn_lt ho, o, .inr ⟨by rw [pvn_nxn]; exact h, rfl⟩⟩, ⟨pvn_lt hc, nxn_lt ho, o, .inl ⟨by rw [nxn_pvn]; exact h, rfl⟩⟩⟩
/-- The pairs of triangles that the first corners join. -/
def TriP (T : List Tr) (K : List Int) (k : Nat) (i j : Nat) : Prop := ∃ c o : Nat, c < k ∧ c < 3 * T.length ∧ OpenK T K c o ∧ ((i = c / 3 ∧ j = o / 3) ∨ (i = o / 3 ∧ j = c / 3))
theorem TriP.all {i j : Nat} (h : KAdj T K i j) : TriP T K (3 * T.length) i j := by
  obtain ⟨c, o, hc, ho, h, rfl, rfl⟩ := h
  exact ⟨c, o, hc, hc, h, .inl ⟨rfl, rfl⟩⟩
theorem TriP.step {k i j : Nat} (h : TriP T K (k + 1) i j) : TriP T K k i j ∨ ∃ o : Nat, OpenK T K k o ∧ ((i = k / 3 ∧ j = o / 3) ∨ (i = o / 3 ∧ j = k / 3)) := by
  obtain ⟨c, o, hc, hcl, ho, hp⟩ := h
  by_cases e : c = k
  · subst e; exact .inr ⟨o, ho, hp⟩
  · exact .inl ⟨c, o, by omega, hcl, ho, hp⟩
/-- The pairs of corners that the first corners join. -/
def CorP (T : List Tr) (K : List Int) (k : Nat) (i j : Nat) : Prop :=
  ∃ c o : Nat, c < k ∧ c < 3 * T.length ∧ OpenK T K c o ∧ ((i = nxn c ∧ j = pvn o) ∨ (i = pvn o ∧ j = nxn c) ∨ (i = pvn c ∧ j = nxn o) ∨ (i = nxn o ∧ j = pvn c))
theorem CorP.all {i j : Nat} (h : KSAdj T K i j) : CorP T K (3 * T.length) i j := by
  obtain ⟨hx, hy, o, ⟨h, rfl⟩ | ⟨h, rfl⟩⟩ := h
  · exact ⟨nxn i, o, nxn_lt hx, nxn_lt hx, h, .inr (.inr (.inl ⟨(pvn_nxn i).symm, rfl⟩))⟩
  · exact ⟨pvn i, o, pvn_lt hx, pvn_lt hx, h, .inl ⟨(nxn_pvn i).symm, rfl⟩⟩
theorem CorP.step {k i j : Nat} (h : CorP T K (k + 1) i j) : CorP T K k i j ∨ ∃ o : Nat, OpenK T K k o ∧ ((i = nxn k ∧ j = pvn o) ∨ (i = pvn o ∧ j = nxn k) ∨ (i = pvn k ∧ j = nxn o) ∨ (i = nxn o ∧ j = pvn k)) := by
  obtain ⟨c, o, hc, hcl, ho, hp⟩ := h
  by_cases e : c = k
  · subst e; exact .inr ⟨o, ho, hp⟩
  · exact .inl ⟨c, o, by omega, hcl, ho, hp⟩
/-- Is the edge open? -/
def openB (T : List Tr) (K : List Int) (c : Nat) : Bool := decide (0 ≤ opp T (c : Int)) && (I! K (nxn c) == I! K (pvn (opp T (c : Int)).toNat) && I! K (pvn c) == I! K (nxn (opp T (c : Int)).toNat))
theorem openB_iff {c : Nat} : openB T K c = true ↔ ∃ o : Nat, OpenK T K c o := by
  unfold openB
  simp only [Bool.and_eq_true, decide_eq_true_eq, beq_iff_eq]
  constructor
  · rintro ⟨h0, h1, h2⟩
    exact ⟨(opp T (c : Int)).toNat, by omega, h1, h2⟩
  · rintro ⟨o, h0, h1, h2⟩
    rw [h0, Int.toNat_natCast]
    exact ⟨by omega, h1, h2⟩
/-- The triangles that one comes to from a triangle, and the corners from a corner. -/
def triN (T : List Tr) (K : List Int) (i k : Nat) : List Int := ((List.range k).filter fun j => openB T K (3 * i + j)).map fun j => opp T ((3 * i + j : Nat) : Int) / 3
theorem triN_succ (T : List Tr) (K : List Int) (i k : Nat) : triN T K i (k + 1) = if openB T K (3 * i + k) = true then triN T K i k ++ [opp T ((3 * i + k : Nat) : Int) / 3] else triN T K i k := by
  unfold triN
  rw [List.range_succ, List.filter_append, List.map_append]
  by_cases h : openB T K (3 * i + k) = true <;> simp [h]
def corN (T : List Tr) (K : List Int) (c : Nat) : List Int :=
  (if openB T K (nxn c) = true then [nx (opp T (nxn c : Nat))] else []) ++ (if openB T K (pvn c) = true then [pv (opp T (pvn c : Nat))] else [])
/-- What a function hands out of each of n: the neighbours, and no others. -/
def NbsOK (A : Nat → Nat → Prop) (n : Nat) (nb : Nat → List Int) : Prop := ∀ x, x < n → (nb x).length ≤ 3 ∧ (∀ y, y ∈ nb x → ∃ j : Nat, y = (j : Int) ∧ j < n ∧ A x j) ∧ ∀ j, j < n → A x j → (j : Int) ∈ nb x
theorem triN_ok (hs : Surf N T) : NbsOK (KAdj T K) T.length fun i => triN T K i 3 := by
  intro i hi
  refine ⟨?_, fun y hy => ?_, fun j hj h => ?_⟩
  · unfold triN
    rw [List.length_map]
    exact Nat.le_trans (List.length_filter_le _ _) (by simp)
  · unfold triN at hy
    obtain ⟨j, hj, rfl⟩ := List.mem_map.1 hy
    obtain ⟨hj3, hop⟩ := List.mem_filter.1 hj
    rw [List.mem_range] at hj3
    obtain ⟨o, ho⟩ := openB_iff.1 hop
    have hc : 3 * i + j < 3 * T.length := by omega
    have hol := (ho.symm hs hc).1
    refine ⟨o / 3, ?_, by omega, 3 * i + j, o, hc, hol, ho, by omega, rfl⟩
    try dsimp only
    rw [ho.1]; omega
  · obtain ⟨c, o, hc, ho, h, rfl, rfl⟩ := h
    unfold triN
    refine List.mem_map.2 ⟨c % 3, List.mem_filter.2 ⟨List.mem_range.2 (by omega), openB_iff.2 ⟨o, ?_⟩⟩, ?_⟩
    · rw [show 3 * (c / 3) + c % 3 = c by omega]; exact h
    · try dsimp only
      rw [show 3 * (c / 3) + c % 3 = c by omega, h.1]; omega
theorem corN_ok (hs : Surf N T) : NbsOK (KSAdj T K) (3 * T.length) (corN T K) := by
  intro x hx
  refine ⟨?_, fun y hy => ?_, fun j hj h => ?_⟩
  · unfold corN
    split <;> split <;> simp
  · unfold corN at hy
    rcases List.mem_append.1 hy with hy | hy
    · by_cases hop : openB T K (nxn x) = true
      · rw [if_pos hop, List.mem_singleton] at hy
        obtain ⟨o, ho⟩ := openB_iff.1 hop
        have hol := (ho.symm hs (nxn_lt hx)).1
        exact ⟨nxn o, by rw [hy, ho.1, nx_nat], nxn_lt hol, hx, nxn_lt hol, o, .inl ⟨ho, rfl⟩⟩
      · rw [if_neg hop] at hy; cases hy
    · by_cases hop : openB T K (pvn x) = true
      · rw [if_pos hop, List.mem_singleton] at hy
        obtain ⟨o, ho⟩ := openB_iff.1 hop
        have hol := (ho.symm hs (pvn_lt hx)).1
        exact ⟨pvn o, by rw [hy, ho.1, pv_nat], pvn_lt hol, hx, pvn_lt hol, o, .inr ⟨ho, rfl⟩⟩
      · rw [if_neg hop] at hy; cases hy
  · obtain ⟨-, -, o, ⟨h, rfl⟩ | ⟨h, rfl⟩⟩ := h
    · unfold corN
      refine List.mem_append_left _ ?_
      rw [if_pos (openB_iff.2 ⟨o, h⟩), List.mem_singleton, h.1, nx_nat]
    · unfold corN
      refine List.mem_append_right _ ?_
      rw [if_pos (openB_iff.2 ⟨o, h⟩), List.mem_singleton, h.1, pv_nat]
end
end Go.Proofs.YtfbpjlfimmjieaaGreat

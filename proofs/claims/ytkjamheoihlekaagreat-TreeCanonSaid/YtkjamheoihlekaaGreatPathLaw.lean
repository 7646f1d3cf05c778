/- Plain law: paths through vertices of degree 2. Plain law: which paths there are; each edge is on just one. Plain law: the list of all paths; each edge is on just one of them. Plain law: the document's way to all paths. -/
import Derived.Test.YtkjamheoihlekaaGreatPruneLaw
namespace Go.Proofs.YtkjamheoihlekaaGreat
set_option linter.unusedVariables false
set_option linter.unusedSimpArgs false
def flatE (u v : Int) : Int × Int := (min u v, max u v)
def nbE (E : List (Int × Int)) (v : Int) : List Int := E.flatMap fun e => (if e.1 = v then [e.2] else []) ++ (if e.2 = v then [e.1] else [])
structure RightE (E : List (Int × Int)) : Prop where
  lt : ∀ e, e ∈ E → e.1 < e.2
  nd : E.Nodup
theorem flatE_comm (u v : Int) : flatE u v = flatE v u := by unfold flatE; rw [Int.min_comm, Int.max_comm]
theorem flatE_lt {u v : Int} (h : u < v) : flatE u v = (u, v) := by unfold flatE; rw [Int.min_eq_left (by omega), Int.max_eq_right (by omega)]
theorem flatE_eq {a b c d : Int} (h : flatE a b = flatE c d) : (a = c ∧ b = d) ∨ (a = d ∧ b = c) := by
  unfold flatE at h
  simp only [Prod.mk.injEq] at h
  omega
theorem nbE_len (E : List (Int × Int)) (v : Int) : (nbE E v).length = degE E v := by
  unfold nbE degE
  induction E with
  | nil => rfl
  | cons e E ih =>
    rw [List.flatMap_cons, List.length_append, ih, List.countP_cons, List.countP_cons]
    by_cases h1 : e.1 = v <;> by_cases h2 : e.2 = v <;> simp [h1, h2] <;> omega
theorem RightE.tail {e : Int × Int} {E : List (Int × Int)} (h : RightE (e :: E)) : RightE E := ⟨fun x hx => h.lt x (List.mem_cons_of_mem _ hx), (List.nodup_cons.1 h.nd).2⟩
theorem nbE_mem {E : List (Int × Int)} (h : RightE E) {u v : Int} : u ∈ nbE E v ↔ flatE v u ∈ E := by
  unfold nbE
  rw [List.mem_flatMap]
  constructor
  · rintro ⟨e, he, hu⟩
    have hlt := h.lt e he
    obtain ⟨a, b⟩ := e
    simp only at hu hlt
    rcases List.mem_append.1 hu with hu | hu
    · by_cases h1 : a = v
      · rw [if_pos h1] at hu
        simp at hu
        rw [← h1, hu, flatE_lt hlt]; exact he
      · rw [if_neg h1] at hu; cases hu
    · by_cases h1 : b = v
      · rw [if_pos h1] at hu
        simp at hu
        rw [← h1, hu, flatE_comm, flatE_lt hlt]; exact he
      · rw [if_neg h1] at hu; cases hu
  · intro he
    refine ⟨_, he, ?_⟩
    have hlt := h.lt _ he
    unfold flatE at hlt ⊢
    simp only at hlt ⊢
    rcases Int.lt_or_le v u with hvu | hvu
    · rw [Int.min_eq_left (by omega), Int.max_eq_right (by omega), if_pos rfl]
      simp
    · rw [Int.min_eq_right (by omega), Int.max_eq_left (by omega)] at hlt ⊢
      rw [if_pos rfl]
      simp
theorem nbE_symm {E : List (Int × Int)} (h : RightE E) {u v : Int} (hu : u ∈ nbE E v) : v ∈ nbE E u := by
  rw [nbE_mem h] at hu ⊢
  rwa [flatE_comm]
theorem nbE_ne {E : List (Int × Int)} (h : RightE E) {u v : Int} (hu : u ∈ nbE E v) : u ≠ v := by
  rintro rfl
  have := h.lt _ ((nbE_mem h).1 hu)
  unfold flatE at this
  simp at this
theorem nbE_nodup {E : List (Int × Int)} (h : RightE E) (v : Int) : (nbE E v).Nodup := by
  induction E with
  | nil => exact List.nodup_nil
  | cons e E ih =>
    have ih := ih h.tail
    have hlt := h.lt e (List.mem_cons_self ..)
    have hni := (List.nodup_cons.1 h.nd).1
    have hm := fun u => nbE_mem h.tail (u := u) (v := v)
    have hc : nbE (e :: E) v = ((if e.1 = v then [e.2] else []) ++ (if e.2 = v then [e.1] else [])) ++ nbE E v := by unfold nbE; rw [List.flatMap_cons]
    rw [hc]
    obtain ⟨a, b⟩ := e
    simp only at hlt ⊢
    by_cases h1 : a = v
    · have h2 : ¬ b = v := by omega
      rw [if_pos h1, if_neg h2]
      simp only [List.append_nil, List.singleton_append, List.nodup_cons]
      refine ⟨?_, ih⟩
      rw [hm, ← h1, flatE_lt hlt]
      exact hni
    · by_cases h2 : b = v
      · rw [if_neg h1, if_pos h2]
        simp only [List.nil_append, List.singleton_append, List.nodup_cons]
        refine ⟨?_, ih⟩
        rw [hm, ← h2, flatE_comm, flatE_lt hlt]
        exact hni
      · rw [if_neg h1, if_neg h2]
        exact ih
/-- The other neighbour. -/
def oth (E : List (Int × Int)) (v u : Int) : Int := if (nbE E v).getD 0 0 = u then (nbE E v).getD 1 0 else (nbE E v).getD 0 0
theorem oth_spec {E : List (Int × Int)} (h : RightE E) {u v : Int} (h2 : degE E v = 2) (hu : u ∈ nbE E v) :
    oth E v u ∈ nbE E v ∧ oth E v u ≠ u ∧ oth E v (oth E v u) = u ∧ ∀ x, x ∈ nbE E v → x = u ∨ x = oth E v u := by
  have hl := nbE_len E v
  have hn := nbE_nodup h v
  unfold oth
  rw [h2] at hl
  match hE : nbE E v, hl with
  | [p, q], _ =>
    rw [hE] at hu hn
    simp at hu hn
    rcases hu with rfl | rfl
    · have : ¬ q = u := fun e => hn e.symm
      simp [hn, this]
    · simp [hn]
/-- One step on. -/
def sucE (E : List (Int × Int)) (d : Int × Int) : Int × Int := (d.2, oth E d.2 d.1)
def dartE (E : List (Int × Int)) (d : Int × Int) : Nat → Int × Int
  | 0 => d
  | k + 1 => sucE E (dartE E d k)
def IsD (E : List (Int × Int)) (d : Int × Int) : Prop := d.2 ∈ nbE E d.1
def revD (d : Int × Int) : Int × Int := (d.2, d.1)
theorem IsD.rev {E : List (Int × Int)} (h : RightE E) {d : Int × Int} (hd : IsD E d) : IsD E (revD d) := nbE_symm h hd
theorem IsD.suc {E : List (Int × Int)} (h : RightE E) {d : Int × Int} (hd : IsD E d) (h2 : degE E d.2 = 2) : IsD E (sucE E d) := (oth_spec h h2 (nbE_symm h hd)).1
theorem suc_inj {E : List (Int × Int)} (h : RightE E) {d e : Int × Int} (hd : IsD E d) (he : IsD E e) (h2 : degE E d.2 = 2) (hs : sucE E d = sucE E e) : d = e := by
  unfold sucE at hs
  simp only [Prod.mk.injEq] at hs
  obtain ⟨h1, h3⟩ := hs
  have a := (oth_spec h h2 (nbE_symm h hd)).2.2.1
  have b := (oth_spec h (h1 ▸ h2) (nbE_symm h he)).2.2.1
  rw [h3, h1, b] at a
  exact Prod.ext a.symm h1
theorem suc_rev {E : List (Int × Int)} (h : RightE E) {d : Int × Int} (hd : IsD E d) (h2 : degE E d.2 = 2) : sucE E (revD (sucE E d)) = revD d := by
  unfold sucE revD
  simp only [Prod.mk.injEq, true_and]
  exact (oth_spec h h2 (nbE_symm h hd)).2.2.1
/-- K steps through vertices of degree 2, never back at the first one. -/
structure Trail (E : List (Int × Int)) (d : Int × Int) (K : Nat) : Prop where
  isD : IsD E d
  thru : ∀ j, j < K → degE E (dartE E d j).2 = 2 ∧ (dartE E d j).2 ≠ d.1
def Stop18 (E : List (Int × Int)) (d : Int × Int) (K : Nat) : Prop := (dartE E d K).2 = d.1 ∨ degE E (dartE E d K).2 ≠ 2
theorem Trail.isDj {E : List (Int × Int)} (h : RightE E) {d : Int × Int} {K : Nat} (t : Trail E d K) : ∀ j, j ≤ K → IsD E (dartE E d j)
  | 0, _ => t.isD
  | j + 1, hj => (t.isDj h j (by omega)).suc h (t.thru j (by omega)).1
theorem Trail.more {E : List (Int × Int)} {d : Int × Int} {K : Nat} (t : Trail E d K) (hs : ¬ Stop18 E d K) : Trail E d (K + 1) := by
  unfold Stop18 at hs
  refine ⟨t.isD, fun j hj => ?_⟩
  by_cases e : j = K
  · subst e
    constructor
    · apply Classical.byContradiction; intro hh; exact hs (.inr hh)
    · intro hh; exact hs (.inl hh)
  · exact t.thru j (by omega)
theorem dart_fst (E : List (Int × Int)) (d : Int × Int) (j : Nat) : (dartE E d (j + 1)).1 = (dartE E d j).2 := rfl
theorem Trail.distinct {E : List (Int × Int)} (h : RightE E) {d : Int × Int} {K : Nat} (t : Trail E d K) : ∀ i j, i < j → j ≤ K → dartE E d i ≠ dartE E d j
  | 0, j + 1, _, hj, e => (t.thru j (by omega)).2 (by rw [← dart_fst, ← e]; rfl)
  | i + 1, j + 1, hij, hj, e => Trail.distinct h t i j (by omega) (by omega) (suc_inj h (t.isDj h i (by omega)) (t.isDj h j (by omega)) (t.thru i (by omega)).1 e)
def dartsL (E : List (Int × Int)) : List (Int × Int) := E ++ E.map revD
theorem IsD.mem {E : List (Int × Int)} (h : RightE E) {d : Int × Int} (hd : IsD E d) : d ∈ dartsL E := by
  have hm := (nbE_mem h).1 hd
  unfold dartsL
  obtain ⟨a, b⟩ := d
  simp only at hm
  rcases Int.lt_trichotomy a b with hab | hab | hab
  · rw [flatE_lt hab] at hm
    exact List.mem_append_left _ hm
  · exact absurd hab.symm (nbE_ne h hd)
  · rw [flatE_comm, flatE_lt hab] at hm
    exact List.mem_append_right _ (List.mem_map.2 ⟨_, hm, rfl⟩)
theorem Trail.bound {E : List (Int × Int)} (h : RightE E) {d : Int × Int} {K : Nat} (t : Trail E d K) : K + 1 ≤ 2 * E.length := by
  have hnd : ((List.range (K + 1)).map (dartE E d)).Nodup := by
    rw [List.nodup_iff_pairwise_ne, List.pairwise_map]
    refine List.Pairwise.imp_of_mem (fun {a b} ha hb hab => ?_) List.pairwise_lt_range
    exact t.distinct h a b hab (by simp at hb; omega)
  have hsub : ∀ x, x ∈ (List.range (K + 1)).map (dartE E d) → x ∈ dartsL E := by
    intro x hx
    obtain ⟨j, hj, rfl⟩ := List.mem_map.1 hx
    exact (t.isDj h j (by simp at hj; omega)).mem h
  have := sub_len18 _ _ hnd hsub
  simp [dartsL] at this
  omega
theorem trail_zero {E : List (Int × Int)} {d : Int × Int} (hd : IsD E d) : Trail E d 0 := ⟨hd, fun j hj => by omega⟩
theorem Trail.go {E : List (Int × Int)} (h : RightE E) {d : Int × Int} : ∀ (n K : Nat), 2 * E.length ≤ n + K → Trail E d K → ∃ L, K ≤ L ∧ Trail E d L ∧ Stop18 E d L
  | 0, K, hn, t => absurd (t.bound h) (by omega)
  | n + 1, K, hn, t => by
    by_cases hs : Stop18 E d K
    · exact ⟨K, Nat.le_refl _, t, hs⟩
    · obtain ⟨L, h1, h2, h3⟩ := Trail.go h n (K + 1) (by omega) (t.more hs)
      exact ⟨L, by omega, h2, h3⟩
/-- The way comes to an end. -/
theorem trail_end {E : List (Int × Int)} (h : RightE E) {d : Int × Int} (hd : IsD E d) : ∃ L, Trail E d L ∧ Stop18 E d L := by
  obtain ⟨L, -, h2, h3⟩ := Trail.go h (2 * E.length) 0 (by omega) (trail_zero hd)
  exact ⟨L, h2, h3⟩
theorem Trail.le {E : List (Int × Int)} {d : Int × Int} {K : Nat} (t : Trail E d K) {j : Nat} (hj : j ≤ K) : Trail E d j := ⟨t.isD, fun i hi => t.thru i (by omega)⟩
theorem trail_one {E : List (Int × Int)} {d : Int × Int} {K L : Nat} (t : Trail E d K) (hs : Stop18 E d K) (u : Trail E d L) (hu : Stop18 E d L) : K = L := by
  have key : ∀ {K L : Nat}, Stop18 E d K → Trail E d L → ¬ K < L := by
    intro K L hs u hlt
    obtain ⟨h1, h2⟩ := u.thru K hlt
    rcases hs with hs | hs
    · exact h2 hs
    · exact hs h1
  have a := key hs u
  have b := key hu t
  omega
/-- The vertices on the way. -/
def pathL (E : List (Int × Int)) (d : Int × Int) (K : Nat) : List Int := d.1 :: (List.range (K + 1)).map fun j => (dartE E d j).2
theorem pathL_len (E : List (Int × Int)) (d : Int × Int) (K : Nat) : (pathL E d K).length = K + 2 := by simp [pathL]
theorem pathL_succ (E : List (Int × Int)) (d : Int × Int) (K : Nat) : pathL E d (K + 1) = pathL E d K ++ [(dartE E d (K + 1)).2] := by
  simp [pathL, List.range_succ]
theorem pathL_get {E : List (Int × Int)} {d : Int × Int} {K j : Nat} (hj : j ≤ K) : (pathL E d K)[j]? = some (dartE E d j).1 ∧ (pathL E d K)[j + 1]? = some (dartE E d j).2 := by
  have h2 : ∀ j, j ≤ K → (pathL E d K)[j + 1]? = some (dartE E d j).2 := by
    intro j hj
    simp only [pathL, List.getElem?_cons_succ, List.getElem?_map]
    rw [List.getElem?_eq_getElem (by simp; omega)]
    simp
  refine ⟨?_, h2 j hj⟩
  cases j with
  | zero => rfl
  | succ j => rw [h2 j (by omega), dart_fst]
/-- A whole path: from end to end, or once round. -/
structure Whole18 (E : List (Int × Int)) (d : Int × Int) (K : Nat) : Prop where
  tr : Trail E d K
  ends : (degE E d.1 ≠ 2 ∧ degE E (dartE E d K).2 ≠ 2) ∨ (degE E d.1 = 2 ∧ (dartE E d K).2 = d.1)
theorem Whole18.stop {E : List (Int × Int)} {d : Int × Int} {K : Nat} (w : Whole18 E d K) : Stop18 E d K := by
  rcases w.ends with ⟨-, h⟩ | ⟨-, h⟩
  · exact .inr h
  · exact .inl h
theorem rev_rev (d : Int × Int) : revD (revD d) = d := rfl
/-- The way back. -/
theorem Trail.back {E : List (Int × Int)} (h : RightE E) {d : Int × Int} {K : Nat} (t : Trail E d K) : ∀ j, j ≤ K → dartE E (revD (dartE E d K)) j = revD (dartE E d (K - j))
  | 0, _ => rfl
  | j + 1, hj => by
    have ih := t.back h j (by omega)
    show sucE E (dartE E (revD (dartE E d K)) j) = _
    rw [ih, show K - j = (K - (j + 1)) + 1 by omega]
    exact suc_rev h (t.isDj h _ (by omega)) (t.thru _ (by omega)).1
theorem Whole18.rev {E : List (Int × Int)} (h : RightE E) {d : Int × Int} {K : Nat} (w : Whole18 E d K) : Whole18 E (revD (dartE E d K)) K ∧ revD (dartE E (revD (dartE E d K)) K) = d ∧ pathL E (revD (dartE E d K)) K = (pathL E d K).reverse := by
  have hb := w.tr.back h
  have hbK := hb K (Nat.le_refl _)
  rw [Nat.sub_self] at hbK
  have hl : dartE E d 0 = d := rfl
  rw [hl] at hbK
  refine ⟨⟨⟨(w.tr.isDj h K (Nat.le_refl _)).rev h, fun j hj => ?_⟩, ?_⟩, by rw [hbK]; rfl, ?_⟩
  · rw [hb j (by omega)]
    have e : K - j = (K - j - 1) + 1 := by omega
    have e2 : (revD (dartE E d (K - j))).2 = (dartE E d (K - j - 1)).2 := by rw [e]; rfl
    rw [e2]
    obtain ⟨h1, h2⟩ := w.tr.thru (K - j - 1) (by omega)
    refine ⟨h1, ?_⟩
    show _ ≠ (dartE E d K).2
    rcases w.ends with ⟨-, q⟩ | ⟨-, q⟩
    · intro e3; rw [e3] at h1; exact q h1
    · rw [q]; exact h2
  · rw [hbK]
    show (degE E (dartE E d K).2 ≠ 2 ∧ degE E d.1 ≠ 2) ∨ (degE E (dartE E d K).2 = 2 ∧ d.1 = (dartE E d K).2)
    rcases w.ends with ⟨p, q⟩ | ⟨p, q⟩
    · exact .inl ⟨q, p⟩
    · exact .inr ⟨by rw [q]; exact p, q.symm⟩
  · apply List.ext_getElem?
    intro i
    by_cases hi : i < K + 2
    · rw [List.getElem?_reverse (by rw [pathL_len]; exact hi), pathL_len]
      cases i with
      | zero =>
        rw [show K + 2 - 1 - 0 = K + 1 by omega, (pathL_get (Nat.le_refl K)).2]
        rfl
      | succ i =>
        rw [(pathL_get (E := E) (d := revD (dartE E d K)) (j := i) (K := K) (by omega)).2, hb i (by omega), show K + 2 - 1 - (i + 1) = K - i by omega, (pathL_get (E := E) (d := d) (j := K - i) (K := K) (by omega)).1]
        rfl
    · rw [List.getElem?_eq_none (by rw [pathL_len]; omega), List.getElem?_eq_none (by rw [List.length_reverse, pathL_len]; omega)]
theorem IsD.ne {E : List (Int × Int)} (h : RightE E) {d : Int × Int} (hd : IsD E d) : d.2 ≠ d.1 := nbE_ne h hd
/-- A way never comes back over an edge. -/
theorem Trail.no_back {E : List (Int × Int)} (h : RightE E) {d : Int × Int} {K : Nat} (t : Trail E d K) : ∀ (n i j : Nat), j - i ≤ n → i ≤ j → j ≤ K → dartE E d i ≠ revD (dartE E d j) := by
  intro n
  induction n with
  | zero =>
    intro i j hn hij hj e
    obtain rfl : i = j := by omega
    have := (t.isDj h i hj).ne h
    have e1 := congrArg Prod.fst e
    exact this e1.symm
  | succ n ih =>
    intro i j hn hij hj e
    by_cases hij' : i = j
    · subst hij'
      exact ih i i (by omega) (by omega) hj e
    · obtain ⟨j', rfl⟩ : ∃ j', j = j' + 1 := ⟨j - 1, by omega⟩
      have hs := suc_rev h (t.isDj h j' (by omega)) (t.thru j' (by omega)).1
      have e2 : dartE E d (i + 1) = revD (dartE E d j') := by
        show sucE E (dartE E d i) = _
        rw [e]
        exact hs
      by_cases hle : i + 1 ≤ j'
      · exact ih (i + 1) j' (by omega) hle (by omega) e2
      · obtain rfl : i = j' := by omega
        -- the step turns back at once
        have h1 := congrArg Prod.snd e2
        have h2 := (oth_spec h (t.thru i (by omega)).1 (nbE_symm h (t.isDj h i (by omega)))).2.1
        exact h2 h1
theorem Trail.no_rev {E : List (Int × Int)} (h : RightE E) {d : Int × Int} {K : Nat} (t : Trail E d K) {i j : Nat} (hi : i ≤ K) (hj : j ≤ K) : dartE E d i ≠ revD (dartE E d j) := by
  intro e
  rcases Nat.le_total i j with hij | hij
  · exact t.no_back h (j - i) i j (Nat.le_refl _) hij hj e
  · exact t.no_back h (i - j) j i (Nat.le_refl _) hij hi (by rw [e]; rfl)
theorem Whole18.deg {E : List (Int × Int)} {d : Int × Int} {K : Nat} (w : Whole18 E d K) (h2 : degE E d.1 = 2) : ∀ j, j ≤ K → degE E (dartE E d j).1 = 2 ∧ degE E (dartE E d j).2 = 2 := by
  have hs : ∀ j, j ≤ K → degE E (dartE E d j).2 = 2 := by
    intro j hj
    by_cases e : j = K
    · subst e
      rcases w.ends with ⟨q, -⟩ | ⟨-, q⟩
      · exact absurd h2 q
      · rw [q]; exact h2
    · exact (w.tr.thru j (by omega)).1
  intro j hj
  refine ⟨?_, hs j hj⟩
  cases j with
  | zero => exact h2
  | succ j => exact hs j (by omega)
/-- Once round: the next step is the first one. -/
theorem Whole18.close {E : List (Int × Int)} (h : RightE E) {d : Int × Int} {K : Nat} (w : Whole18 E d K) (h2 : degE E d.1 = 2) : sucE E (dartE E d K) = d := by
  have he : (dartE E d K).2 = d.1 := by
    rcases w.ends with ⟨q, -⟩ | ⟨-, q⟩
    · exact absurd h2 q
    · exact q
  have hD := w.tr.isDj h K (Nat.le_refl _)
  have hn := nbE_symm h hD
  rw [he] at hn
  have hsp := (oth_spec h h2 hn).2.2.2 d.2 w.tr.isD
  unfold sucE
  rw [he]
  rcases hsp with e | e
  · exfalso
    refine w.tr.no_rev h (i := K) (j := 0) (Nat.le_refl _) (by omega) ?_
    exact Prod.ext e.symm he
  · exact Prod.ext rfl e.symm
/-- Open ways that share a step are one. -/
theorem open_one {E : List (Int × Int)} (h : RightE E) {d d' : Int × Int} {K K' : Nat} (w : Whole18 E d K) (w' : Whole18 E d' K') (h2 : degE E d.1 ≠ 2) (h2' : degE E d'.1 ≠ 2) : ∀ (i j : Nat), i ≤ K → j ≤ K' → dartE E d i = dartE E d' j → d = d'
  | 0, 0, _, _, e => e
  | 0, j + 1, _, hj, e => by
    exfalso
    have : d.1 = (dartE E d' j).2 := by rw [← dart_fst, ← e]; rfl
    exact h2 (by rw [this]; exact (w'.tr.thru j (by omega)).1)
  | i + 1, 0, hi, _, e => by
    exfalso
    have : d'.1 = (dartE E d i).2 := by rw [← dart_fst, e]; rfl
    exact h2' (by rw [this]; exact (w.tr.thru i (by omega)).1)
  | i + 1, j + 1, hi, hj, e => open_one h w w' h2 h2' i j (by omega) (by omega) (suc_inj h (w.tr.isDj h i (by omega)) (w'.tr.isDj h j (by omega)) (w.tr.thru i (by omega)).1 e)
/-- An open way and a round share no step. -/
theorem open_round {E : List (Int × Int)} (h : RightE E) {d d' : Int × Int} {K K' : Nat} (w : Whole18 E d K) (w' : Whole18 E d' K') (h2 : degE E d.1 ≠ 2) (h2' : degE E d'.1 = 2) : ∀ (i j : Nat), i ≤ K → j ≤ K' → dartE E d i ≠ dartE E d' j
  | 0, j, _, hj, e => h2 (by rw [show d.1 = (dartE E d 0).1 from rfl, e]; exact (w'.deg h2' j hj).1)
  | i + 1, 0, hi, _, e => by
    have hc := w'.close h h2'
    exact open_round h w w' h2 h2' i K' (by omega) (Nat.le_refl _) (suc_inj h (w.tr.isDj h i (by omega)) (w'.tr.isDj h K' (Nat.le_refl _)) (w.tr.thru i (by omega)).1 (by rw [hc]; exact e))
  | i + 1, j + 1, hi, hj, e => open_round h w w' h2 h2' i j (by omega) (by omega) (suc_inj h (w.tr.isDj h i (by omega)) (w'.tr.isDj h j (by omega)) (w.tr.thru i (by omega)).1 e)
/-- Rounds that share a step go the same way. -/
theorem round_one {E : List (Int × Int)} (h : RightE E) {d d' : Int × Int} {K K' : Nat} (w : Whole18 E d K) (w' : Whole18 E d' K') (h2' : degE E d'.1 = 2) : ∀ (i j : Nat), i ≤ K → j ≤ K' → dartE E d i = dartE E d' j → ∃ j', j' ≤ K' ∧ d = dartE E d' j'
  | 0, j, _, hj, e => ⟨j, hj, e⟩
  | i + 1, 0, hi, _, e => by
    have hc := w'.close h h2'
    exact round_one h w w' h2' i K' (by omega) (Nat.le_refl _) (suc_inj h (w.tr.isDj h i (by omega)) (w'.tr.isDj h K' (Nat.le_refl _)) (w.tr.thru i (by omega)).1 (by rw [hc]; exact e))
  | i + 1, j + 1, hi, hj, e => round_one h w w' h2' i j (by omega) (by omega) (suc_inj h (w.tr.isDj h i (by omega)) (w'.tr.isDj h j (by omega)) (w.tr.thru i (by omega)).1 e)
/-- A round that starts at its least vertex. -/
def Least18 (E : List (Int × Int)) (d : Int × Int) (K : Nat) : Prop := degE E d.1 = 2 → ∀ j, j ≤ K → d.1 ≤ (dartE E d j).2
structure Path18 (E : List (Int × Int)) (d : Int × Int) (K : Nat) : Prop where
  w : Whole18 E d K
  l : Least18 E d K
theorem Path18.rev {E : List (Int × Int)} (h : RightE E) {d : Int × Int} {K : Nat} (p : Path18 E d K) : Path18 E (revD (dartE E d K)) K := by
  obtain ⟨h1, h2, h3⟩ := p.w.rev h
  refine ⟨h1, fun hd j hj => ?_⟩
  have he : (dartE E d K).2 = d.1 ∧ degE E d.1 = 2 := by
    rcases p.w.ends with ⟨-, q⟩ | ⟨q, q'⟩
    · exact absurd hd q
    · exact ⟨q', q⟩
  rw [p.w.tr.back h j hj]
  show (dartE E d K).2 ≤ (dartE E d (K - j)).1
  rw [he.1]
  by_cases e : K - j = 0
  · rw [e]; exact Int.le_refl _
  · obtain ⟨m, hm⟩ : ∃ m, K - j = m + 1 := ⟨K - j - 1, by omega⟩
    rw [hm, dart_fst]
    exact p.l he.2 m (by omega)
/-- Paths that share a step are one. -/
theorem path_one {E : List (Int × Int)} (h : RightE E) {d d' : Int × Int} {K K' : Nat} (p : Path18 E d K) (p' : Path18 E d' K') {i j : Nat} (hi : i ≤ K) (hj : j ≤ K') (e : dartE E d i = dartE E d' j) : d = d' ∧ K = K' := by
  have hd : d = d' := by
    by_cases a : degE E d.1 = 2
    · by_cases b : degE E d'.1 = 2
      · obtain ⟨j1, q1, q2⟩ := round_one h p.w p'.w b i j hi hj e
        obtain ⟨j2, q3, q4⟩ := round_one h p'.w p.w a j i hj hi e.symm
        have l1 : d'.1 ≤ d.1 := by
          rw [q2]
          cases j1 with
          | zero => exact Int.le_refl _
          | succ m => rw [dart_fst]; exact p'.l b m (by omega)
        have l2 : d.1 ≤ d'.1 := by
          rw [q4]
          cases j2 with
          | zero => exact Int.le_refl _
          | succ m => rw [dart_fst]; exact p.l a m (by omega)
        cases j1 with
        | zero => exact q2
        | succ m =>
          exfalso
          refine (p'.w.tr.thru m (by omega)).2 ?_
          rw [← dart_fst, ← q2]
          omega
      · exact absurd e.symm (open_round h p'.w p.w b a j i hj hi)
    · by_cases b : degE E d'.1 = 2
      · exact absurd e (open_round h p.w p'.w a b i j hi hj)
      · exact open_one h p.w p'.w a b i j hi hj e
  subst hd
  exact ⟨rfl, trail_one p.w.tr p.w.stop p'.w.tr p'.w.stop⟩
theorem flat_dart {d e : Int × Int} (h : flatE d.1 d.2 = flatE e.1 e.2) : d = e ∨ d = revD e := by
  rcases flatE_eq h with ⟨a, b⟩ | ⟨a, b⟩
  · exact .inl (Prod.ext a b)
  · exact .inr (Prod.ext a b)
/-- Paths that share an edge are one, or one is the other the other way round. -/
theorem path_edge {E : List (Int × Int)} (h : RightE E) {d d' : Int × Int} {K K' : Nat} (p : Path18 E d K) (p' : Path18 E d' K') {i j : Nat} (hi : i ≤ K) (hj : j ≤ K') (e : flatE (dartE E d i).1 (dartE E d i).2 = flatE (dartE E d' j).1 (dartE E d' j).2) : K = K' ∧ (d = d' ∨ d = revD (dartE E d' K')) := by
  rcases flat_dart e with e | e
  · obtain ⟨h1, h2⟩ := path_one h p p' hi hj e
    exact ⟨h2, .inl h1⟩
  · have hb := p'.w.tr.back h (K' - j) (by omega)
    rw [show K' - (K' - j) = j by omega] at hb
    obtain ⟨h1, h2⟩ := path_one h p (p'.rev h) hi (show K' - j ≤ K' by omega) (by rw [e, hb])
    exact ⟨h2, .inr h1⟩
/-- From any step on an end of degree other than 2 a whole way goes. -/
theorem open_whole {E : List (Int × Int)} (h : RightE E) {d : Int × Int} (hd : IsD E d) (h2 : degE E d.1 ≠ 2) : ∃ K, Path18 E d K := by
  obtain ⟨K, t, s⟩ := trail_end h hd
  refine ⟨K, ⟨t, .inl ⟨h2, ?_⟩⟩, fun q => absurd q h2⟩
  rcases s with s | s
  · rw [s]; exact h2
  · exact s
/-- A step from a vertex of degree 2 leads round, or is on an open way. -/
theorem round_or {E : List (Int × Int)} (h : RightE E) {d : Int × Int} (hd : IsD E d) (h2 : degE E d.1 = 2) : (∃ K, Whole18 E d K) ∨ ∃ e L j, Path18 E e L ∧ degE E e.1 ≠ 2 ∧ j ≤ L ∧ dartE E e j = revD d := by
  obtain ⟨K, t, s⟩ := trail_end h hd
  by_cases hs : (dartE E d K).2 = d.1
  · exact .inl ⟨K, t, .inr ⟨h2, hs⟩⟩
  · right
    have hk : degE E (dartE E d K).2 ≠ 2 := by
      rcases s with s | s
      · exact absurd s hs
      · exact s
    have hb := t.back h
    obtain ⟨L, p⟩ := open_whole h ((t.isDj h K (Nat.le_refl _)).rev h) (show degE E (revD (dartE E d K)).1 ≠ 2 from hk)
    refine ⟨_, L, K, p, hk, ?_, by rw [hb K (Nat.le_refl _), Nat.sub_self]; rfl⟩
    -- the way back does not stop before the first step
    apply Classical.byContradiction
    intro hlt
    have hL : L < K := by omega
    have hst := p.w.stop
    have e1 : (dartE E (revD (dartE E d K)) L).2 = (dartE E d (K - L - 1)).2 := by
      rw [hb L (by omega), show K - L = (K - L - 1) + 1 by omega]; rfl
    obtain ⟨q1, q2⟩ := t.thru (K - L - 1) (by omega)
    rcases hst with q | q
    · rw [e1] at q
      exact hk (by rw [show (dartE E d K).2 = (revD (dartE E d K)).1 from rfl, ← q]; exact q1)
    · rw [e1] at q
      exact q q1
/-- Rows by their first number that is unlike, then by their length. -/
def cmpR : List Int → List Int → Int
  | [], [] => 0
  | [], _ :: _ => -1
  | _ :: _, [] => 1
  | a :: l, b :: m => if a < b then -1 else if b < a then 1 else cmpR l m
theorem cmpR_refl : ∀ a, cmpR a a = 0
  | [] => rfl
  | a :: l => by simp [cmpR, cmpR_refl l]
theorem cmpR_eq : ∀ {a b : List Int}, cmpR a b = 0 → a = b
  | [], [], _ => rfl
  | [], _ :: _, h => by simp [cmpR] at h
  | _ :: _, [], h => by simp [cmpR] at h
  | a :: l, b :: m, h => by
    unfold cmpR at h
    by_cases h1 : a < b
    · rw [if_pos h1] at h; omega
    · rw [if_neg h1] at h
      by_cases h2 : b < a
      · rw [if_pos h2] at h; omega
      · rw [if_neg h2] at h
        rw [show a = b by omega, cmpR_eq h]
theorem cmpR_anti : ∀ a b : List Int, cmpR b a = -cmpR a b
  | [], [] => rfl
  | [], _ :: _ => rfl
  | _ :: _, [] => rfl
  | a :: l, b :: m => by
    unfold cmpR
    by_cases h1 : a < b
    · have : ¬ b < a := by omega
      simp [h1, this]
    · by_cases h2 : b < a
      · simp [h1, h2]
      · simp [h1, h2, cmpR_anti l m]
theorem cmpR_trans : ∀ {a b c : List Int}, cmpR a b < 0 → cmpR b c < 0 → cmpR a c < 0
  | [], b, [], h1, h2 => by
    cases b with
    | nil => simp [cmpR] at h1
    | cons => simp [cmpR] at h2
  | [], _, _ :: _, _, _ => by simp [cmpR]
  | _ :: _, [], _, h1, _ => by simp [cmpR] at h1
  | _ :: _, _ :: _, [], _, h2 => by simp [cmpR] at h2
  | a :: l, b :: m, c :: n, h1, h2 => by
    unfold cmpR at *
    by_cases p : a < b
    · by_cases q : b < c
      · rw [if_pos (by omega)]; omega
      · by_cases r : c < b
        · simp [q, r] at h2
        · rw [if_pos (by omega)]; omega
    · by_cases p' : b < a
      · simp [p, p'] at h1
      · by_cases q : b < c
        · rw [if_pos (by omega)]; omega
        · by_cases r : c < b
          · simp [q, r] at h2
          · rw [if_neg p, if_neg p'] at h1
            rw [if_neg q, if_neg r] at h2
            rw [if_neg (by omega), if_neg (by omega)]
            exact cmpR_trans h1 h2
/-- Rows that stand in order, each once, are told by their members. -/
theorem rows_one : ∀ {A B : List (List Int)}, A.Pairwise (fun x y => cmpR x y < 0) → B.Pairwise (fun x y => cmpR x y < 0) → (∀ x, x ∈ A ↔ x ∈ B) → A = B
  | [], [], _, _, _ => rfl
  | [], b :: B, _, _, h => by have := (h b).2 (by simp); cases this
  | a :: A, [], _, _, h => by have := (h a).1 (by simp); cases this
  | a :: A, b :: B, hA, hB, h => by
    obtain ⟨a1, a2⟩ := List.pairwise_cons.1 hA
    obtain ⟨b1, b2⟩ := List.pairwise_cons.1 hB
    have hab : a = b := by
      rcases List.mem_cons.1 ((h a).1 (by simp)) with e | e
      · exact e
      · rcases List.mem_cons.1 ((h b).2 (by simp)) with e' | e'
        · exact e'.symm
        · have x := b1 a e
          have y := a1 b e'
          rw [cmpR_anti] at x
          omega
    subst hab
    rw [rows_one a2 b2 fun x => ?_]
    constructor
    · intro hx
      rcases List.mem_cons.1 ((h x).1 (by simp [hx])) with e | e
      · subst e
        have := a1 x hx
        rw [cmpR_refl] at this
        omega
      · exact e
    · intro hx
      rcases List.mem_cons.1 ((h x).2 (by simp [hx])) with e | e
      · subst e
        have := b1 x hx
        rw [cmpR_refl] at this
        omega
      · exact e
/-- A row, from the end that makes it stand first. -/
def canonR (p : List Int) : List Int := if cmpR p.reverse p < 0 then p.reverse else p
theorem canonR_rev (p : List Int) : canonR p.reverse = canonR p := by
  unfold canonR
  rw [List.reverse_reverse, cmpR_anti]
  by_cases h : cmpR p.reverse p < 0
  · rw [if_pos h, if_neg (by omega)]
  · by_cases h0 : cmpR p.reverse p = 0
    · have := cmpR_eq h0
      rw [this]; simp
    · rw [if_neg h, if_pos (by omega)]
theorem canonR_or (p : List Int) : canonR p = p ∨ canonR p = p.reverse := by
  unfold canonR
  split
  · exact .inr rfl
  · exact .inl rfl
/-- The edges of a row of vertices. -/
def pedges (p : List Int) : List (Int × Int) := (List.range (p.length - 1)).map fun i => flatE (p.getD i 0) (p.getD (i + 1) 0)
theorem pedges_mem {p : List Int} {e : Int × Int} : e ∈ pedges p ↔ ∃ i, i + 1 < p.length ∧ e = flatE (p.getD i 0) (p.getD (i + 1) 0) := by
  unfold pedges
  simp only [List.mem_map, List.mem_range]
  constructor
  · rintro ⟨i, hi, rfl⟩; exact ⟨i, by omega, rfl⟩
  · rintro ⟨i, hi, rfl⟩; exact ⟨i, by omega, rfl⟩
theorem pedges_rev_le {p : List Int} {e : Int × Int} (h : e ∈ pedges p) : e ∈ pedges p.reverse := by
  obtain ⟨i, hi, rfl⟩ := pedges_mem.1 h
  refine pedges_mem.2 ⟨p.length - 2 - i, by rw [List.length_reverse]; omega, ?_⟩
  have g : ∀ j, j < p.length → p.reverse.getD j 0 = p.getD (p.length - 1 - j) 0 := by
    intro j hj
    rw [List.getD_eq_getElem?_getD, List.getElem?_reverse hj, ← List.getD_eq_getElem?_getD]
  rw [g _ (by omega), g _ (by omega), show p.length - 1 - (p.length - 2 - i) = i + 1 by omega, show p.length - 1 - (p.length - 2 - i + 1) = i by omega, flatE_comm]
theorem pedges_rev {p : List Int} {e : Int × Int} : e ∈ pedges p.reverse ↔ e ∈ pedges p := ⟨fun h => by have := pedges_rev_le h; rwa [List.reverse_reverse] at this, pedges_rev_le⟩
theorem pedges_canon {p : List Int} {e : Int × Int} : e ∈ pedges (canonR p) ↔ e ∈ pedges p := by
  rcases canonR_or p with h | h
  · rw [h]
  · rw [h]; exact pedges_rev
theorem pedges_path {E : List (Int × Int)} {d : Int × Int} {K : Nat} : pedges (pathL E d K) = (List.range (K + 1)).map fun j => flatE (dartE E d j).1 (dartE E d j).2 := by
  unfold pedges
  rw [pathL_len]
  apply List.map_congr_left
  intro j hj
  have hj' : j ≤ K := by simp at hj; omega
  obtain ⟨h1, h2⟩ := pathL_get (E := E) (d := d) hj'
  rw [List.getD_eq_getElem?_getD, List.getD_eq_getElem?_getD, h1, h2]
  rfl
theorem pedges_in {E : List (Int × Int)} (h : RightE E) {d : Int × Int} {K : Nat} (p : Path18 E d K) {e : Int × Int} (he : e ∈ pedges (pathL E d K)) : e ∈ E := by
  rw [pedges_path] at he
  obtain ⟨j, hj, rfl⟩ := List.mem_map.1 he
  exact (nbE_mem h).1 (p.w.tr.isDj h j (by simp at hj; omega))
/-- What has been found: paths, each once, and the edges on them. -/
structure PSt18 (E : List (Int × Int)) (O : List (List Int)) (G : Int × Int → Prop) : Prop where
  is : ∀ p, p ∈ O → ∃ d K, Path18 E d K ∧ p = canonR (pathL E d K)
  nd : O.Nodup
  g : ∀ e, G e ↔ ∃ p, p ∈ O ∧ e ∈ pedges p
theorem PSt18.init (E : List (Int × Int)) : PSt18 E [] (fun _ => False) := ⟨fun p h => (by cases h), List.nodup_nil, fun e => ⟨fun h => h.elim, fun ⟨p, h, _⟩ => (by cases h)⟩⟩
theorem PSt18.congr {E : List (Int × Int)} {O : List (List Int)} {G G' : Int × Int → Prop} (s : PSt18 E O G) (h : ∀ e, G' e ↔ G e) : PSt18 E O G' := ⟨s.is, s.nd, fun e => (h e).trans (s.g e)⟩
theorem flat_first {E : List (Int × Int)} {d : Int × Int} {K : Nat} : flatE d.1 d.2 ∈ pedges (pathL E d K) := by
  rw [pedges_path]
  exact List.mem_map.2 ⟨0, by simp, rfl⟩
theorem PSt18.add {E : List (Int × Int)} {O : List (List Int)} {G : Int × Int → Prop} (s : PSt18 E O G) {d : Int × Int} {K : Nat} (p : Path18 E d K) (hn : ¬ G (flatE d.1 d.2)) : PSt18 E (O ++ [canonR (pathL E d K)]) (fun e => G e ∨ e ∈ pedges (pathL E d K)) where
  is q hq := by
    rcases List.mem_append.1 hq with hq | hq
    · exact s.is q hq
    · simp at hq; exact ⟨d, K, p, hq⟩
  nd := by
    refine List.nodup_append.2 ⟨s.nd, by simp, ?_⟩
    intro a ha b hb e
    simp at hb
    exact hn ((s.g _).2 ⟨a, ha, by rw [e, hb, pedges_canon]; exact flat_first⟩)
  g e := by
    constructor
    · rintro (h | h)
      · obtain ⟨q, h1, h2⟩ := (s.g e).1 h
        exact ⟨q, List.mem_append_left _ h1, h2⟩
      · exact ⟨_, List.mem_append_right _ (by simp), pedges_canon.2 h⟩
    · rintro ⟨q, h1, h2⟩
      rcases List.mem_append.1 h1 with h1 | h1
      · exact .inl ((s.g e).2 ⟨q, h1, h2⟩)
      · simp at h1
        rw [h1] at h2
        exact .inr (pedges_canon.1 h2)
/-- Where one edge of a path is found all of it is. -/
theorem PSt18.whole {E : List (Int × Int)} (h : RightE E) {O : List (List Int)} {G : Int × Int → Prop} (s : PSt18 E O G) {d : Int × Int} {K : Nat} (p : Path18 E d K) {i : Nat} (hi : i ≤ K) (hg : G (flatE (dartE E d i).1 (dartE E d i).2)) : canonR (pathL E d K) ∈ O := by
  obtain ⟨q, h1, h2⟩ := (s.g _).1 hg
  obtain ⟨d', K', p', rfl⟩ := s.is q h1
  rw [pedges_canon, pedges_path] at h2
  obtain ⟨j, hj, he⟩ := List.mem_map.1 h2
  obtain ⟨rfl, hh⟩ := path_edge h p p' hi (show j ≤ K' by simp at hj; omega) he.symm
  rcases hh with rfl | rfl
  · exact h1
  · rw [(p'.w.rev h).2.2, canonR_rev]
    exact h1
theorem PSt18.all {E : List (Int × Int)} (h : RightE E) {O : List (List Int)} {G : Int × Int → Prop} (s : PSt18 E O G) {d : Int × Int} {K : Nat} (p : Path18 E d K) {i j : Nat} (hi : i ≤ K) (hj : j ≤ K) (hg : G (flatE (dartE E d i).1 (dartE E d i).2)) : G (flatE (dartE E d j).1 (dartE E d j).2) := by
  refine (s.g _).2 ⟨_, s.whole h p hi hg, ?_⟩
  rw [pedges_canon, pedges_path]
  exact List.mem_map.2 ⟨j, by simp; omega, rfl⟩
/-- The edges at the vertices of degree other than 2 have been found. -/
def Opens18 (E : List (Int × Int)) (G : Int × Int → Prop) : Prop := ∀ v x, degE E v ≠ 2 → x ∈ nbE E v → G (flatE v x)
theorem PSt18.round {E : List (Int × Int)} (h : RightE E) {O : List (List Int)} {G : Int × Int → Prop} (s : PSt18 E O G) (ho : Opens18 E G) {d : Int × Int} (hd : IsD E d) (h2 : degE E d.1 = 2) (hl : ∀ u x, u < d.1 → degE E u = 2 → x ∈ nbE E u → G (flatE u x)) (hn : ¬ G (flatE d.1 d.2)) : ∃ K, Path18 E d K := by
  rcases round_or h hd h2 with ⟨K, w⟩ | ⟨e, L, j, p, he, hj, hr⟩
  · refine ⟨K, w, fun _ j hj => ?_⟩
    apply Classical.byContradiction
    intro hlt
    have hu : degE E (dartE E d j).2 = 2 := (w.deg h2 j hj).2
    have hx := nbE_symm h (w.tr.isDj h j hj)
    have hg := hl (dartE E d j).2 (dartE E d j).1 (by omega) hu hx
    rw [flatE_comm] at hg
    obtain ⟨q, h1, h3⟩ := (s.g _).1 hg
    obtain ⟨d', K', p', rfl⟩ := s.is q h1
    rw [pedges_canon, pedges_path] at h3
    obtain ⟨i, hi, hee⟩ := List.mem_map.1 h3
    have hi' : i ≤ K' := by simp at hi; omega
    -- turned so that the two go the same way
    have key : ∀ {e' : Int × Int} {i : Nat}, i ≤ K' → Path18 E e' K' → (∀ y, y ∈ pedges (pathL E e' K') → G y) → dartE E d j = dartE E e' i → False := by
      intro e' i hi p' hG hji
      by_cases b : degE E e'.1 = 2
      · obtain ⟨j1, q1, q2⟩ := round_one h w p'.w b j i hj hi hji
        refine hn (hG _ ?_)
        rw [pedges_path]
        exact List.mem_map.2 ⟨j1, by simp; omega, by rw [← q2]⟩
      · exact open_round h p'.w w b h2 i j hi hj hji.symm
    have hG : ∀ y, y ∈ pedges (pathL E d' K') → G y := fun y hy => (s.g y).2 ⟨_, h1, pedges_canon.2 hy⟩
    rcases flat_dart hee with e1 | e1
    · exact key hi' p' hG e1.symm
    · have hb := p'.w.tr.back h (K' - i) (by omega)
      rw [show K' - (K' - i) = i by omega] at hb
      refine key (i := K' - i) (by omega) (p'.rev h) (fun y hy => ?_) (by rw [hb, e1]; rfl)
      rw [(p'.w.rev h).2.2, pedges_rev] at hy
      exact hG y hy
  · exfalso
    refine hn ?_
    have := s.all h p (i := 0) (j := j) (by omega) hj (ho e.1 e.2 he p.w.tr.isD)
    rw [hr, flatE_comm] at this
    exact this
/-- In the end. -/
structure PFin18 (E : List (Int × Int)) (O : List (List Int)) : Prop where
  mem : ∀ p, p ∈ O ↔ ∃ d K, Path18 E d K ∧ p = canonR (pathL E d K)
  nd : O.Nodup
  all : ∀ e, e ∈ E → ∃ p, p ∈ O ∧ e ∈ pedges p
theorem PSt18.fin {E : List (Int × Int)} (h : RightE E) {O : List (List Int)} {G : Int × Int → Prop} (s : PSt18 E O G) (ha : ∀ e, e ∈ E → G e) : PFin18 E O where
  mem p := ⟨s.is p, by
    rintro ⟨d, K, hp, rfl⟩
    exact s.whole h hp (i := 0) (by omega) (ha _ ((nbE_mem h).1 hp.w.tr.isD))⟩
  nd := s.nd
  all e he := (s.g e).1 (ha e he)
/-- Each edge is on one path, once. -/
theorem PFin18.once {E : List (Int × Int)} (h : RightE E) {O : List (List Int)} (s : PFin18 E O) : (O.flatMap pedges).Nodup ∧ ∀ e, e ∈ O.flatMap pedges ↔ e ∈ E := by
  have hpn : ∀ {d K}, Path18 E d K → (pedges (pathL E d K)).Nodup := by
    intro d K p
    rw [pedges_path, List.nodup_iff_pairwise_ne, List.pairwise_map]
    refine List.Pairwise.imp_of_mem (fun {a b} ha hb hab e => ?_) List.pairwise_lt_range
    simp at ha hb
    rcases flat_dart e with e | e
    · exact p.w.tr.distinct h a b hab (by omega) e
    · exact p.w.tr.no_rev h (by omega) (by omega) e
  constructor
  · rw [List.nodup_iff_pairwise_ne, List.pairwise_flatMap]
    constructor
    · intro q hq
      obtain ⟨d, K, p, rfl⟩ := (s.mem q).1 hq
      rw [← List.nodup_iff_pairwise_ne]
      rcases canonR_or (pathL E d K) with e | e
      · rw [e]; exact hpn p
      · rw [e, ← (p.w.rev h).2.2]; exact hpn (p.rev h)
    · refine List.Pairwise.imp_of_mem (fun {a b} ha hb hab => ?_) s.nd
      intro x hx y hy e
      subst e
      obtain ⟨d, K, p, rfl⟩ := (s.mem a).1 ha
      obtain ⟨d', K', p', rfl⟩ := (s.mem b).1 hb
      rw [pedges_canon, pedges_path] at hx hy
      obtain ⟨i, hi, ei⟩ := List.mem_map.1 hx
      obtain ⟨j, hj, ej⟩ := List.mem_map.1 hy
      simp at hi hj
      obtain ⟨rfl, hh⟩ := path_edge h p p' (i := i) (j := j) (by omega) (by omega) (ei.trans ej.symm)
      rcases hh with rfl | rfl
      · exact hab rfl
      · exact hab (by rw [(p'.w.rev h).2.2, canonR_rev])
  · intro e
    rw [List.mem_flatMap]
    constructor
    · rintro ⟨q, hq, he⟩
      obtain ⟨d, K, p, rfl⟩ := (s.mem q).1 hq
      exact pedges_in h p (pedges_canon.1 he)
    · intro he
      exact s.all e he
theorem nb_edge {E : List (Int × Int)} (h : RightE E) {e : Int × Int} (he : e ∈ E) {v : Int} (hv : e.1 = v ∨ e.2 = v) : ∃ x, x ∈ nbE E v ∧ e = flatE v x := by
  have hlt := h.lt e he
  rcases hv with rfl | rfl
  · exact ⟨e.2, (nbE_mem h).2 (by rw [flatE_lt hlt]; exact he), (flatE_lt hlt).symm⟩
  · exact ⟨e.1, (nbE_mem h).2 (by rw [flatE_comm, flatE_lt hlt]; exact he), by rw [flatE_comm, flatE_lt hlt]⟩
/-- The other edge at a vertex of degree 2 is the next one. -/
theorem next_edge {E : List (Int × Int)} (h : RightE E) {d e : Int × Int} (hd : IsD E d) (h2 : degE E d.2 = 2) (he : e ∈ E) (hv : e.1 = d.2 ∨ e.2 = d.2) (hne : e ≠ flatE d.1 d.2) : e = flatE (sucE E d).1 (sucE E d).2 := by
  obtain ⟨x, hx, rfl⟩ := nb_edge h he hv
  rcases (oth_spec h h2 (nbE_symm h hd)).2.2.2 x hx with e | e
  · exact absurd (by rw [e, flatE_comm]) hne
  · rw [e]; rfl
theorem next_is {E : List (Int × Int)} (h : RightE E) {d : Int × Int} (hd : IsD E d) (h2 : degE E d.2 = 2) : flatE (sucE E d).1 (sucE E d).2 ∈ E ∧ flatE (sucE E d).1 (sucE E d).2 ≠ flatE d.1 d.2 ∧ ((flatE (sucE E d).1 (sucE E d).2).1 = d.2 ∨ (flatE (sucE E d).1 (sucE E d).2).2 = d.2) := by
  have hs := hd.suc h h2
  refine ⟨(nbE_mem h).1 hs, fun q => ?_, ?_⟩
  · have hn := (oth_spec h h2 (nbE_symm h hd)).2.1
    rcases flatE_eq q with ⟨a, b⟩ | ⟨a, b⟩
    · have h1 : d.2 = d.1 := a
      exact hd.ne h h1
    · exact hn b
  · unfold flatE
    show min d.2 _ = d.2 ∨ max d.2 _ = d.2
    rcases Int.le_total d.2 (sucE E d).2 with q | q
    · exact .inl (Int.min_eq_left q)
    · exact .inr (Int.max_eq_left q)
/-- An open way and a round have no vertex in common. -/
theorem open_round_v {E : List (Int × Int)} (h : RightE E) {d e : Int × Int} {K L : Nat} (p : Path18 E e L) (he : degE E e.1 ≠ 2) (w : Whole18 E d K) (hd : degE E d.1 = 2) {i j : Nat} (hi : i ≤ K) (hj : j ≤ L) (hv : (dartE E d i).1 = (dartE E e j).1 ∨ (dartE E d i).1 = (dartE E e j).2) : False := by
  have hdv := (w.deg hd i hi).1
  -- the vertex is inside of the open way
  have key : ∀ m, m < L → (dartE E d i).1 ≠ (dartE E e m).2 := by
    intro m hm ev
    have hD := w.tr.isDj h i hi
    have hm2 := (p.w.tr.thru m hm).1
    have hin := nbE_symm h (p.w.tr.isDj h m (by omega))
    unfold IsD at hD
    rw [ev] at hD
    rcases (oth_spec h hm2 hin).2.2.2 _ hD with q | q
    · -- d goes back
      have hb := p.w.tr.back h (L - m) (by omega)
      rw [show L - (L - m) = m by omega] at hb
      obtain ⟨r1, r2, -⟩ := p.w.rev h
      have hre : degE E (revD (dartE E e L)).1 ≠ 2 := by
        rcases p.w.ends with ⟨-, q'⟩ | ⟨q', -⟩
        · exact q'
        · exact absurd q' he
      exact open_round h r1 w hre hd (L - m) i (by omega) hi (by rw [hb]; exact Prod.ext ev.symm q.symm)
    · exact open_round h p.w w he hd (m + 1) i (by omega) hi (by
        show sucE E (dartE E e m) = _
        exact Prod.ext ev.symm q.symm)
  have last : degE E (dartE E e L).2 ≠ 2 := by
    rcases p.w.ends with ⟨-, q⟩ | ⟨q, -⟩
    · exact q
    · exact absurd q he
  rcases hv with hv | hv
  · cases j with
    | zero =>
      rw [show (dartE E e 0).1 = e.1 from rfl] at hv
      exact he (hv ▸ hdv)
    | succ m => exact key m (by omega) (by rw [hv, dart_fst])
  · by_cases e1 : j = L
    · subst e1
      exact last (hv ▸ hdv)
    · exact key j (by omega) hv
/-- What the document has found: paths in order, each once; the paths of steps that have been looked at. -/
structure RSt18 (E : List (Int × Int)) (Dn : Int × Int → Prop) (O : List (List Int)) : Prop where
  st : O.Pairwise fun x y => cmpR x y < 0
  is : ∀ p, p ∈ O → ∃ d K, Path18 E d K ∧ p = canonR (pathL E d K)
  has : ∀ d K, Dn d → Path18 E d K → canonR (pathL E d K) ∈ O
theorem RSt18.init (E : List (Int × Int)) : RSt18 E (fun _ => False) [] := ⟨List.Pairwise.nil, fun p h => (by cases h), fun d K h => h.elim⟩
theorem RSt18.put {E : List (Int × Int)} {Dn : Int × Int → Prop} {O R : List (List Int)} (s : RSt18 E Dn O) {d : Int × Int} {K : Nat} (p : Path18 E d K) (hst : R.Pairwise fun x y => cmpR x y < 0) (hm : ∀ q, q ∈ R ↔ q = canonR (pathL E d K) ∨ q ∈ O) : RSt18 E (fun e => Dn e ∨ e = d) R where
  st := hst
  is q hq := by
    rcases (hm q).1 hq with h | h
    · exact ⟨d, K, p, h⟩
    · exact s.is q h
  has e L he pe := by
    rcases he with he | rfl
    · exact (hm _).2 (.inr (s.has e L he pe))
    · have := trail_one pe.w.tr pe.w.stop p.w.tr p.w.stop
      subst this
      exact (hm _).2 (.inl rfl)
theorem RSt18.more {E : List (Int × Int)} {Dn Dn' : Int × Int → Prop} {O : List (List Int)} (s : RSt18 E Dn O) (h : ∀ d K, Dn' d → Path18 E d K → Dn d) : RSt18 E Dn' O := ⟨s.st, s.is, fun d K hd p => s.has d K (h d K hd p) p⟩
/-- Both ways give the same list. -/
theorem paths_one {E : List (Int × Int)} (h : RightE E) {O S R : List (List Int)} (hO : PFin18 E O) (hp : S.Perm O) (hS : S.Pairwise fun x y => cmpR y x < 0 → False) {Dn : Int × Int → Prop} (hR : RSt18 E Dn R) (hop : ∀ d, IsD E d → degE E d.1 ≠ 2 → Dn d) (hro : ∀ d, d ∈ E → degE E d.1 = 2 → Dn d) : S = R := by
  have nd : S.Nodup := hp.nodup_iff.2 hO.nd
  have hS' : S.Pairwise fun x y => cmpR x y < 0 := by
    refine (hS.and (List.nodup_iff_pairwise_ne.1 nd)).imp fun {a b} hh => ?_
    obtain ⟨h1, h2⟩ := hh
    have ha := cmpR_anti a b
    apply Classical.byContradiction
    intro hn
    have : cmpR a b ≠ 0 := fun q => h2 (cmpR_eq q)
    exact h1 (by omega)
  refine rows_one hS' hR.st fun p => ?_
  rw [hp.mem_iff, hO.mem]
  constructor
  · rintro ⟨d, K, hp, rfl⟩
    by_cases hd : degE E d.1 = 2
    · refine hR.has d K (hro d ?_ hd) hp
      have hm := (nbE_mem h).1 hp.w.tr.isD
      have hle := hp.l hd 0 (by omega)
      have hne := hp.w.tr.isD.ne h
      have : d.1 < d.2 := by
        have e : (dartE E d 0).2 = d.2 := rfl
        omega
      rw [flatE_lt this] at hm
      exact hm
    · exact hR.has d K (hop d hp.w.tr.isD hd) hp
  · exact hR.is p
end Go.Proofs.YtkjamheoihlekaaGreat

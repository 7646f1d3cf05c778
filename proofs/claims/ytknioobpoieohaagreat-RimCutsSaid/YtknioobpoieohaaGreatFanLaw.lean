/- Plain laws: gypsumref15.Fan: the marking round a vertex, by pairs, round by round. -/
import Derived.Test.YtknioobpoieohaaGreatTogether
namespace Go.Proofs.YtknioobpoieohaaGreat
set_option linter.unusedVariables false
set_option linter.unusedSimpArgs false
open Go.RowKit
/-- How many of a triangle's first vertices are another's. -/
def cntH (t u : Tr) : Nat → Nat
  | 0 => 0
  | k + 1 => cntH t u k + if hasB u (tg t k) then 1 else 0
def besB (t u : Tr) : Bool := decide (2 ≤ cntH t u 3)
theorem cntH_le (t u : Tr) : ∀ k, cntH t u k ≤ k
  | 0 => by simp [cntH]
  | k + 1 => by have := cntH_le t u k; unfold cntH; split <;> omega
/-- Two triangles at v with two vertices in common. -/
def BAdj (T : List Tr) (v : Int) (i k : Nat) : Prop := i < T.length ∧ k < T.length ∧ hasB (T! T i) v = true ∧ hasB (T! T k) v = true ∧ besB (T! T i) (T! T k) = true
def ClosedTo (T : List Tr) (I : List Nat) (β : Nat → Bool) (i k : Nat) : Prop :=
  ∀ i' k', i' < I.length → k' < I.length → (i' < i ∨ i' = i ∧ k' < k) → β (I.getD i' 0) = true → besB (T! T (I.getD i' 0)) (T! T (I.getD k' 0)) = true → β (I.getD k' 0) = true
def nTrue (β : Nat → Bool) (n : Nat) : Nat := (List.range n).countP β
/-- In round r, ahead of the pair (i, k): β is marked, m are. -/
structure FInv (T : List Tr) (v : Int) (I : List Nat) (r i k : Nat) (β : Nat → Bool) (m : Nat) : Prop where
  sound : ∀ t, t < T.length → β t = true → t ∈ I ∧ Conn (BAdj T v) (I.getD 0 0) t
  root : β (I.getD 0 0) = true
  cnt : m = nTrue β T.length
  prog : ClosedTo T I β I.length 0 ∨ (r + 1 ≤ m ∧ ClosedTo T I β i k) ∨ r + 2 ≤ m
theorem nTrue_none (n : Nat) : nTrue (fun _ => false) n = 0 := by simp [nTrue]
theorem nTrue_set {β : Nat → Bool} {n x : Nat} (hx : x < n) (hb : β x = false) : nTrue (updB β x true) n = nTrue β n + 1 := by
  induction n with
  | zero => omega
  | succ n ih =>
    have e : ∀ γ : Nat → Bool, nTrue γ (n + 1) = nTrue γ n + if γ n then 1 else 0 := fun γ => by
      simp [nTrue, List.range_succ, List.countP_append, List.countP_cons]
    rw [e, e]
    by_cases q : x = n
    · subst q
      have : nTrue (updB β x true) x = nTrue β x := by
        unfold nTrue
        refine List.countP_congr fun y hy => ?_
        have := List.mem_range.1 hy
        unfold updB
        rw [if_neg (by omega)]
      rw [this, hb]
      simp [updB]
    · rw [ih (by omega)]
      have : updB β x true n = β n := by unfold updB; rw [if_neg (fun h => q h.symm)]
      rw [this]
      omega
theorem mem_getD {I : List Nat} {i : Nat} (h : i < I.length) : I.getD i 0 ∈ I := by
  rw [List.getD_eq_getElem?_getD, List.getElem?_eq_getElem h]
  exact List.getElem_mem h
theorem atV_get {T : List Tr} {v : Int} {i : Nat} (h : i < (atV T v T.length).length) : (atV T v T.length).getD i 0 < T.length ∧ hasB (T! T ((atV T v T.length).getD i 0)) v = true := atV_mem.1 (mem_getD h)
theorem nodup_filt (p : Nat → Bool) (n : Nat) : ((List.range n).filter p).Nodup := List.Pairwise.filter _ List.nodup_range
theorem atV_nodup (T : List Tr) (v : Int) (k : Nat) : (atV T v k).Nodup := nodup_filt _ _
theorem nTrue_le {β : Nat → Bool} {n : Nat} {I : List Nat} (h : ∀ t, t < n → β t = true → t ∈ I) : nTrue β n ≤ I.length := by
  unfold nTrue
  rw [List.countP_eq_length_filter]
  exact nodup_sub_length (nodup_filt _ _) fun x hx => by
    simp at hx
    exact h x hx.1 hx.2
theorem FInv.start {T : List Tr} {v : Int} (h0 : 0 < (atV T v T.length).length) : FInv T v (atV T v T.length) 0 0 0 (updB (fun _ => false) ((atV T v T.length).getD 0 0) true) 1 where
  sound t _ h := by
    unfold updB at h
    split at h
    · rename_i e
      rw [e]
      exact ⟨mem_getD h0, .refl _⟩
    · cases h
  root := by simp [updB]
  cnt := by rw [nTrue_set (atV_get h0).1 rfl, nTrue_none]
  prog := .inr (.inl ⟨by omega, fun i' k' _ _ h => by omega⟩)
theorem FInv.keep {T : List Tr} {v : Int} {I : List Nat} {r i k : Nat} {β : Nat → Bool} {m : Nat} (h : FInv T v I r i k β m) (hno : β (I.getD i 0) = true → besB (T! T (I.getD i 0)) (T! T (I.getD k 0)) = true → β (I.getD k 0) = true) : FInv T v I r i (k + 1) β m :=
  ⟨h.sound, h.root, h.cnt, by
    rcases h.prog with p | ⟨p, q⟩ | p
    · exact .inl p
    · refine .inr (.inl ⟨p, fun i' k' hi hk hlt hb hs => ?_⟩)
      by_cases e : i' = i ∧ k' = k
      · obtain ⟨rfl, rfl⟩ := e
        exact hno hb hs
      · exact q i' k' hi hk (by omega) hb hs
    · exact .inr (.inr p)⟩
theorem FInv.mark {T : List Tr} {v : Int} {r i k : Nat} {β : Nat → Bool} {m : Nat} (h : FInv T v (atV T v T.length) r i k β m) (hi : i < (atV T v T.length).length) (hk : k < (atV T v T.length).length)
    (hb : β ((atV T v T.length).getD i 0) = true) (hn : β ((atV T v T.length).getD k 0) = false) (hs : besB (T! T ((atV T v T.length).getD i 0)) (T! T ((atV T v T.length).getD k 0)) = true) :
    FInv T v (atV T v T.length) r i (k + 1) (updB β ((atV T v T.length).getD k 0) true) (m + 1) := by
  obtain ⟨ki, kv⟩ := atV_get hk
  obtain ⟨ii, iv'⟩ := atV_get hi
  refine ⟨fun t ht hbt => ?_, ?_, ?_, ?_⟩
  · unfold updB at hbt
    split at hbt
    · rename_i e
      rw [e]
      exact ⟨mem_getD hk, (h.sound _ ii hb).2.step ⟨ii, ki, iv', kv, hs⟩⟩
    · exact h.sound t ht hbt
  · unfold updB
    split
    · rfl
    · exact h.root
  · rw [nTrue_set ki hn, ← h.cnt]
  · rcases h.prog with p | ⟨p, _⟩ | p
    · have := p i k hi hk (.inl hi) hb hs
      rw [hn] at this
      cases this
    · exact .inr (.inr (by omega))
    · exact .inr (.inr (by omega))
theorem FInv.row {T : List Tr} {v : Int} {I : List Nat} {r i : Nat} {β : Nat → Bool} {m : Nat} (h : FInv T v I r i I.length β m) : FInv T v I r (i + 1) 0 β m :=
  ⟨h.sound, h.root, h.cnt, by
    rcases h.prog with p | ⟨p, q⟩ | p
    · exact .inl p
    · exact .inr (.inl ⟨p, fun i' k' hi hk hlt => q i' k' hi hk (by omega)⟩)
    · exact .inr (.inr p)⟩
theorem FInv.round {T : List Tr} {v : Int} {I : List Nat} {r : Nat} {β : Nat → Bool} {m : Nat} (h : FInv T v I r I.length 0 β m) : FInv T v I (r + 1) 0 0 β m :=
  ⟨h.sound, h.root, h.cnt, by
    rcases h.prog with p | ⟨_, q⟩ | p
    · exact .inl p
    · exact .inl q
    · exact .inr (.inl ⟨by omega, fun i' k' _ _ h => by omega⟩)⟩
/-- All rounds are done: all are marked just if all hang together. -/
theorem FInv.stop {T : List Tr} {v : Int} {β : Nat → Bool} {m : Nat} (hsym : ∀ a b, BAdj T v a b → BAdj T v b a) (h : FInv T v (atV T v T.length) (atV T v T.length).length 0 0 β m) :
    m ≤ (atV T v T.length).length ∧ (m = (atV T v T.length).length ↔ ∀ i k, i < T.length → k < T.length → hasB (T! T i) v = true → hasB (T! T k) v = true → Conn (BAdj T v) i k) := by
  obtain ⟨I, hI⟩ : ∃ I, I = atV T v T.length := ⟨_, rfl⟩
  rw [← hI] at h ⊢
  have hle : m ≤ I.length := by rw [h.cnt]; exact nTrue_le fun t ht hb => (h.sound t ht hb).1
  have hcl : ClosedTo T I β I.length 0 := by
    rcases h.prog with p | ⟨p, _⟩ | p
    · exact p
    · omega
    · omega
  have idx : ∀ x, x ∈ I → ∃ p, p < I.length ∧ I.getD p 0 = x := fun x hx => by
    obtain ⟨p, hp⟩ := List.mem_iff_getElem?.1 hx
    exact ⟨p, (List.getElem?_eq_some_iff.1 hp).1, by rw [List.getD_eq_getElem?_getD, hp]; rfl⟩
  have step : ∀ i k, BAdj T v i k → β i = true → β k = true := fun i k ⟨a, b, c, d, e⟩ hb => by
    obtain ⟨p, hp, rfl⟩ := idx i (by rw [hI]; exact atV_mem.2 ⟨a, c⟩)
    obtain ⟨q, hq, rfl⟩ := idx k (by rw [hI]; exact atV_mem.2 ⟨b, d⟩)
    exact hcl p q hp hq (.inl hp) hb e
  refine ⟨hle, fun e i k hi hk h1 h2 => ?_, fun hall => ?_⟩
  · -- all are marked
    have all : ∀ x, x ∈ I → β x = true := by
      have hsub : ∀ x, x ∈ (List.range T.length).filter β → x ∈ I := fun x hx => by
        simp at hx
        exact (h.sound x hx.1 hx.2).1
      have hlen : ((List.range T.length).filter β).length = I.length := by
        rw [← List.countP_eq_length_filter]
        have := h.cnt
        unfold nTrue at this
        omega
      intro x hx
      by_cases hb : β x = true
      · exact hb
      · have hsub' : ∀ y, y ∈ (List.range T.length).filter β → y ∈ I.erase x := fun y hy => by
          have hyb : β y = true := by simp at hy; exact hy.2
          exact (List.mem_erase_of_ne (fun e => hb (by rw [← e]; exact hyb))).2 (hsub y hy)
        have := nodup_sub_length (nodup_filt _ _) hsub'
        rw [List.length_erase_of_mem hx, hlen] at this
        have := List.length_pos_of_mem hx
        omega
    have a := (h.sound i hi (all i (by rw [hI]; exact atV_mem.2 ⟨hi, h1⟩))).2
    have b := (h.sound k hk (all k (by rw [hI]; exact atV_mem.2 ⟨hk, h2⟩))).2
    exact a.symm.trans b
  · have all : ∀ x, x ∈ I → β x = true := fun x hx => by
      have h0 : 0 < I.length := List.length_pos_of_mem hx
      have rt2 : I.getD 0 0 < T.length ∧ hasB (T! T (I.getD 0 0)) v = true := atV_mem.1 (hI ▸ mem_getD h0)
      have hx2 : x < T.length ∧ hasB (T! T x) v = true := atV_mem.1 (hI ▸ hx)
      have go : ∀ {i k}, Conn (BAdj T v) i k → β i = true → β k = true := fun c hb => by
        induction c with
        | refl => exact hb
        | step _ s ih => exact step _ _ s ih
        | back _ s ih => exact step _ _ (hsym _ _ s) ih
      exact go (hall _ _ rt2.1 hx2.1 rt2.2 hx2.2) h.root
    have : I.length ≤ m := by
      rw [h.cnt]
      unfold nTrue
      rw [List.countP_eq_length_filter]
      refine nodup_sub_length (hI ▸ atV_nodup T v T.length) fun x hx => ?_
      have hx2 : x < T.length ∧ hasB (T! T x) v = true := atV_mem.1 (hI ▸ hx)
      simp [hx2.1, all x hx]
    omega
theorem has2 (t u : Tr) : besB t u = true ↔ ∃ i j, i < j ∧ j < 3 ∧ hasB u (tg t i) = true ∧ hasB u (tg t j) = true := by
  unfold besB
  simp only [cntH, decide_eq_true_eq]
  constructor
  · intro h
    cases h0 : hasB u (tg t 0) <;> cases h1 : hasB u (tg t 1) <;> cases h2 : hasB u (tg t 2) <;> simp [h0, h1, h2] at h
    · exact ⟨1, 2, by omega, by omega, h1, h2⟩
    · exact ⟨0, 2, by omega, by omega, h0, h2⟩
    · exact ⟨0, 1, by omega, by omega, h0, h1⟩
    · exact ⟨0, 1, by omega, by omega, h0, h1⟩
  · rintro ⟨i, j, hij, hj, a, b⟩
    rcases (show (i = 0 ∧ j = 1) ∨ (i = 0 ∧ j = 2) ∨ (i = 1 ∧ j = 2) by omega) with ⟨rfl, rfl⟩ | ⟨rfl, rfl⟩ | ⟨rfl, rfl⟩ <;> simp [a, b] <;> omega
theorem tg_inj {t : Tr} (h : loopB t = false) {i j : Nat} (hi : i < 3) (hj : j < 3) (e : tg t i = tg t j) : i = j := by
  unfold loopB at h
  simp only [Bool.or_eq_false_iff, beq_eq_false_iff_ne] at h
  obtain ⟨⟨a, b⟩, c⟩ := h
  rcases (show i = 0 ∨ i = 1 ∨ i = 2 by omega) with rfl | rfl | rfl <;> rcases (show j = 0 ∨ j = 1 ∨ j = 2 by omega) with rfl | rfl | rfl <;> simp only [tg] at e <;> first | rfl | exact absurd e a | exact absurd e b | exact absurd e c | exact absurd e.symm a | exact absurd e.symm b | exact absurd e.symm c
theorem bes_symm {t u : Tr} (ht : loopB t = false) (h : besB t u = true) : besB u t = true := by
  obtain ⟨i, j, hij, hj, a, b⟩ := (has2 t u).1 h
  obtain ⟨p, hp, ep⟩ := hasB_iff.1 a
  obtain ⟨q, hq, eq'⟩ := hasB_iff.1 b
  have hpq : p ≠ q := fun e => by
    subst e
    have := tg_inj ht (by omega) hj (ep.symm.trans eq')
    omega
  have hi' : hasB t (tg u p) = true := hasB_iff.2 ⟨i, by omega, ep.symm⟩
  have hj' : hasB t (tg u q) = true := hasB_iff.2 ⟨j, hj, eq'.symm⟩
  rcases Nat.lt_or_ge p q with l | l
  · exact (has2 u t).2 ⟨p, q, l, hq, hi', hj'⟩
  · exact (has2 u t).2 ⟨q, p, by omega, hp, hj', hi'⟩
/-- At a vertex of both, of triangles without loops: two in common is another one in common. -/
theorem bes_padj {T : List Tr} {v : Int} {i k : Nat} (hl : loopB (T! T i) = false) (h : BAdj T v i k) : PAdj T v i k := by
  obtain ⟨a, b, c, d, e⟩ := h
  obtain ⟨p, q, hpq, hq, f, g⟩ := (has2 _ _).1 e
  refine ⟨a, b, c, d, ?_⟩
  by_cases hv : tg (T! T i) p = v
  · exact ⟨q, hq, fun e' => by have := tg_inj hl (by omega) hq (hv.trans e'.symm); omega, g⟩
  · exact ⟨p, by omega, hv, f⟩
theorem padj_bes {T : List Tr} {v : Int} {i k : Nat} (h : PAdj T v i k) : BAdj T v i k := by
  obtain ⟨a, b, c, d, j, hj, hne, hh⟩ := h
  refine ⟨a, b, c, d, ?_⟩
  obtain ⟨p, hp, ep⟩ := hasB_iff.1 c
  have hpj : p ≠ j := fun e => hne (by rw [← e]; exact ep)
  rcases Nat.lt_or_ge p j with l | l
  · exact (has2 _ _).2 ⟨p, j, l, hj, by rw [ep]; exact d, hh⟩
  · exact (has2 _ _).2 ⟨j, p, by omega, hp, hh, by rw [ep]; exact d⟩
/-- All hang together by two vertices in common, just if they aren't pinched. -/
theorem unpinched_iff {T : List Tr} {v : Int} (hl : ∀ i, i < T.length → loopB (T! T i) = false) :
    (∀ i k, i < T.length → k < T.length → hasB (T! T i) v = true → hasB (T! T k) v = true → Conn (BAdj T v) i k) ↔ Unpinched T v := by
  have mapC : ∀ {A B : Nat → Nat → Prop}, (∀ i k, A i k → B i k) → ∀ {i k}, Conn A i k → Conn B i k := by
    intro A B f i k c
    induction c with
    | refl => exact .refl _
    | step _ s ih => exact ih.step (f _ _ s)
    | back _ s ih => exact ih.back (f _ _ s)
  exact ⟨fun h i k a b c d => mapC (fun i k s => bes_padj (hl i s.1) s) (h i k a b c d), fun h i k a b c d => mapC (fun i k s => padj_bes s) (h i k a b c d)⟩
end Go.Proofs.YtknioobpoieohaaGreat

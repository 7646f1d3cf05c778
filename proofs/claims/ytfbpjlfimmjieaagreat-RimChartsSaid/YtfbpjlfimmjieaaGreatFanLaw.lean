/- Plain laws: gypsumref15.Fan: the marking round a vertex, by pairs, round by round. Plain laws: what gypsumref15.Is looks at, and surfaces. gypsumref15.Has, beside. -/
import Derived.Test.YtfbpjlfimmjieaaGreatTogether
import Derived.Test.YtfbpjlfimmjieaaGreatCertKeys
import Derived.Test.YtfbpjlfimmjieaaGreatCornerNew
import Derived.Deep.RegionHeld3
namespace Go.Proofs.YtfbpjlfimmjieaaGreat
set_option linter.unusedVariables false
set_option linter.unusedSimpArgs false
open Go.RowKit
/-- How many of a triangle's first vertices are another's. -/
def cntH (t u : Tr) : Nat → Nat
  | 0 => 0
  | k + 1 => cntH t u k + if hasB u (tg t k) then 1 else 0
def besB (t u : Tr) : Bool := decide (2 ≤ cntH t u 3)
theorem cntH_le (t u : Tr) : ∀ k, cntH t u k ≤ k
  | 0 => by simp [cntH]
  | k + 1 => by have := cntH_le t u k; unfold cntH; split <;> omega
/-- Two triangles at v with two vertices in common. -/
def BAdj (T : List Tr) (v : Int) (i k : Nat) : Prop := i < T.length ∧ k < T.length ∧ hasB (T! T i) v = true ∧ hasB (T! T k) v = true ∧ besB (T! T i) (T! T k) = true
def ClosedTo (T : List Tr) (I : List Nat) (β : Nat → Bool) (i k : Nat) : Prop :=
  ∀ i' k', i' < I.length → k' < I.length → (i' < i ∨ i' = i ∧ k' < k) → β (I.getD i' 0) = true → besB (T! T (I.getD i' 0)) (T! T (I.getD k' 0)) = true → β (I.getD k' 0) = true
def nTrue (β : Nat → Bool) (n : Nat) : Nat := (List.range n).countP β
/-- In round r, ahead of the pair (i, k): β is marked, m are. -/
structure FInv (T : List Tr) (v : Int) (I : List Nat) (r i k : Nat) (β : Nat → Bool) (m : Nat) : Prop where
  sound : ∀ t, t < T.length → β t = true → t ∈ I ∧ Conn (BAdj T v) (I.getD 0 0) t
  root : β (I.getD 0 0) = true
  cnt : m = nTrue β T.length
  prog : ClosedTo T I β I.length 0 ∨ (r + 1 ≤ m ∧ ClosedTo T I β i k) ∨ r + 2 ≤ m
theorem nTrue_none (n : Nat) : nTrue (fun _ => false) n = 0 := by simp [nTrue]
theorem nTrue_set {β : Nat → Bool} {n x : Nat} (hx : x < n) (hb : β x = false) : nTrue (updB β x true) n = nTrue β n + 1 := by
  induction n with
  | zero => omega
  | succ n ih =>
    have e : ∀ γ : Nat → Bool, nTrue γ (n + 1) = nTrue γ n + if γ n then 1 else 0 := fun γ => by
      simp [nTrue, List.range_succ, List.countP_append, List.countP_cons]
    rw [e, e]
    by_cases q : x = n
    · subst q
      have : nTrue (updB β x true) x = nTrue β x := by
        unfold nTrue
        refine List.countP_congr fun y hy => ?_
        have := List.mem_range.1 hy
        unfold updB
        rw [if_neg (by omega)]
      rw [this, hb]
      simp [updB]
    · rw [ih (by omega)]
      have : updB β x true n = β n := by unfold updB; rw [if_neg (fun h => q h.symm)]
      rw [this]
      omega
theorem mem_getD {I : List Nat} {i : Nat} (h : i < I.length) : I.getD i 0 ∈ I := by
  rw [List.getD_eq_getElem?_getD, List.getElem?_eq_getElem h]
  exact List.getElem_mem h
theorem atV_get {T : List Tr} {v : Int} {i : Nat} (h : i < (atV T v T.length).length) : (atV T v T.length).getD i 0 < T.length ∧ hasB (T! T ((atV T v T.length).getD i 0)) v = true := atV_mem.1 (mem_getD h)
theorem nodup_filt (p : Nat → Bool) (n : Nat) : ((List.range n).filter p).Nodup := List.Pairwise.filter _ List.nodup_range
theorem atV_nodup (T : List Tr) (v : Int) (k : Nat) : (atV T v k).Nodup := nodup_filt _ _
theorem nTrue_le {β : Nat → Bool} {n : Nat} {I : List Nat} (h : ∀ t, t < n → β t = true → t ∈ I) : nTrue β n ≤ I.length := by
  unfold nTrue
  rw [List.countP_eq_length_filter]
  exact nodup_sub_length (nodup_filt _ _) fun x hx => by
    simp at hx
    exact h x hx.1 hx.2
theorem FInv.start {T : List Tr} {v : Int} (h0 : 0 < (atV T v T.length).length) : FInv T v (atV T v T.length) 0 0 0 (updB (fun _ => false) ((atV T v T.length).getD 0 0) true) 1 where
  sound t _ h := by
    unfold updB at h
    split at h
    · rename_i e
      rw [e]
      exact ⟨mem_getD h0, .refl _⟩
    · cases h
  root := by simp [updB]
  cnt := by rw [nTrue_set (atV_get h0).1 rfl, nTrue_none]
  prog := .inr (.inl ⟨by omega, fun i' k' _ _ h => by omega⟩)
theorem FInv.keep {T : List Tr} {v : Int} {I : List Nat} {r i k : Nat} {β : Nat → Bool} {m : Nat} (h : FInv T v I r i k β m) (hno : β (I.getD i 0) = true → besB (T! T (I.getD i 0)) (T! T (I.getD k 0)) = true → β (I.getD k 0) = true) : FInv T v I r i (k + 1) β m :=
  ⟨h.sound, h.root, h.cnt, by
    rcases h.prog with p | ⟨p, q⟩ | p
    · exact .inl p
    · refine .inr (.inl ⟨p, fun i' k' hi hk hlt hb hs => ?_⟩)
      by_cases e : i' = i ∧ k' = k
      · obtain ⟨rfl, rfl⟩ := e
        exact hno hb hs
      · exact q i' k' hi hk (by omega) hb hs
    · exact .inr (.inr p)⟩
theorem FInv.mark {T : List Tr} {v : Int} {r i k : Nat} {β : Nat → Bool} {m : Nat} (h : FInv T v (atV T v T.length) r i k β m) (hi : i < (atV T v T.length).length) (hk : k < (atV T v T.length).length)
    (hb : β ((atV T v T.length).getD i 0) = true) (hn : β ((atV T v T.length).getD k 0) = false) (hs : besB (T! T ((atV T v T.length).getD i 0)) (T! T ((atV T v T.length).getD k 0)) = true) :
    FInv T v (atV T v T.length) r i (k + 1) (updB β ((atV T v T.length).getD k 0) true) (m + 1) := by
  obtain ⟨ki, kv⟩ := atV_get hk
  obtain ⟨ii, iv'⟩ := atV_get hi
  refine ⟨fun t ht hbt => ?_, ?_, ?_, ?_⟩
  · unfold updB at hbt
    split at hbt
    · rename_i e
      rw [e]
      exact ⟨mem_getD hk, (h.sound _ ii hb).2.step ⟨ii, ki, iv', kv, hs⟩⟩
    · exact h.sound t ht hbt
  · unfold updB
    split
    · rfl
    · exact h.root
  · rw [nTrue_set ki hn, ← h.cnt]
  · rcases h.prog with p | ⟨p, _⟩ | p
    · have := p i k hi hk (.inl hi) hb hs
      rw [hn] at this
      cases this
    · exact .inr (.inr (by omega))
    · exact .inr (.inr (by omega))
theorem FInv.row {T : List Tr} {v : Int} {I : List Nat} {r i : Nat} {β : Nat → Bool} {m : Nat} (h : FInv T v I r i I.length β m) : FInv T v I r (i + 1) 0 β m :=
  ⟨h.sound, h.root, h.cnt, by
    rcases h.prog with p | ⟨p, q⟩ | p
    · exact .inl p
    · exact .inr (.inl ⟨p, fun i' k' hi hk hlt => q i' k' hi hk (by omega)⟩)
    · exact .inr (.inr p)⟩
theorem FInv.round {T : List Tr} {v : Int} {I : List Nat} {r : Nat} {β : Nat → Bool} {m : Nat} (h : FInv T v I r I.length 0 β m) : FInv T v I (r + 1) 0 0 β m :=
  ⟨h.sound, h.root, h.cnt, by
    rcases h.prog with p | ⟨_, q⟩ | p
    · exact .inl p
    · exact .inl q
    · exact .inr (.inl ⟨by omega, fun i' k' _ _ h => by omega⟩)⟩
/-- All rounds are done: all are marked just if all hang together. -/
theorem FInv.stop {T : List Tr} {v : Int} {β : Nat → Bool} {m : Nat} (hsym : ∀ a b, BAdj T v a b → BAdj T v b a) (h : FInv T v (atV T v T.length) (atV T v T.length).length 0 0 β m) :
    m ≤ (atV T v T.length).length ∧ (m = (atV T v T.length).length ↔ ∀ i k, i < T.length → k < T.length → hasB (T! T i) v = true → hasB (T! T k) v = true → Conn (BAdj T v) i k) := by
  obtain ⟨I, hI⟩ : ∃ I, I = atV T v T.length := ⟨_, rfl⟩
  rw [← hI] at h ⊢
  have hle : m ≤ I.length := by rw [h.cnt]; exact nTrue_le fun t ht hb => (h.sound t ht hb).1
  have hcl : ClosedTo T I β I.length 0 := by
    rcases h.prog with p | ⟨p, _⟩ | p
    · exact p
    · omega
    · omega
  have idx : ∀ x, x ∈ I → ∃ p, p < I.length ∧ I.getD p 0 = x := fun x hx => by
    obtain ⟨p, hp⟩ := List.mem_iff_getElem?.1 hx
    exact ⟨p, (List.getElem?_eq_some_iff.1 hp).1, by rw [List.getD_eq_getElem?_getD, hp]; rfl⟩
  have step : ∀ i k, BAdj T v i k → β i = true → β k = true := fun i k ⟨a, b, c, d, e⟩ hb => by
    obtain ⟨p, hp, rfl⟩ := idx i (by rw [hI]; exact atV_mem.2 ⟨a, c⟩)
    obtain ⟨q, hq, rfl⟩ := idx k (by rw [hI]; exact atV_mem.2 ⟨b, d⟩)
    exact hcl p q hp hq (.inl hp) hb e
  refine ⟨hle, fun e i k hi hk h1 h2 => ?_, fun hall => ?_⟩
  · -- all are marked
    have all : ∀ x, x ∈ I → β x = true := by
      have hsub : ∀ x, x ∈ (List.range T.length).filter β → x ∈ I := fun x hx => by
        simp at hx
        exact (h.sound x hx.1 hx.2).1
      have hlen : ((List.range T.length).filter β).length = I.length := by
        rw [← List.countP_eq_length_filter]
        have := h.cnt
        unfold nTrue at this
        omega
      intro x hx
      by_cases hb : β x = true
      · exact hb
      · have hsub' : ∀ y, y ∈ (List.range T.length).filter β → y ∈ I.erase x := fun y hy => by
          have hyb : β y = true := by simp at hy; exact hy.2
          exact (List.mem_erase_of_ne (fun e => hb (by rw [← e]; exact hyb))).2 (hsub y hy)
        have := nodup_sub_length (nodup_filt _ _) hsub'
        rw [List.length_erase_of_mem hx, hlen] at this
        have := List.length_pos_of_mem hx
        omega
    have a := (h.sound i hi (all i (by rw [hI]; exact atV_mem.2 ⟨hi, h1⟩))).2
    have b := (h.sound k hk (all k (by rw [hI]; exact atV_mem.2 ⟨hk, h2⟩))).2
    exact a.symm.trans b
  · have all : ∀ x, x ∈ I → β x = true := fun x hx => by
      have h0 : 0 < I.length := List.length_pos_of_mem hx
      have rt2 : I.getD 0 0 < T.length ∧ hasB (T! T (I.getD 0 0)) v = true := atV_mem.1 (hI ▸ mem_getD h0)
      have hx2 : x < T.length ∧ hasB (T! T x) v = true := atV_mem.1 (hI ▸ hx)
      have go : ∀ {i k}, Conn (BAdj T v) i k → β i = true → β k = true := fun c hb => by
        induction c with
        | refl => exact hb
        | step _ s ih => exact step _ _ s ih
        | back _ s ih => exact step _ _ (hsym _ _ s) ih
      exact go (hall _ _ rt2.1 hx2.1 rt2.2 hx2.2) h.root
    have : I.length ≤ m := by
      rw [h.cnt]
      unfold nTrue
      rw [List.countP_eq_length_filter]
      refine nodup_sub_length (hI ▸ atV_nodup T v T.length) fun x hx => ?_
      have hx2 : x < T.length ∧ hasB (T! T x) v = true := atV_mem.1 (hI ▸ hx)
      simp [hx2.1, all x hx]
    omega
theorem has2 (t u : Tr) : besB t u = true ↔ ∃ i j, i < j ∧ j < 3 ∧ hasB u (tg t i) = true ∧ hasB u (tg t j) = true := by
  unfold besB
  simp only [cntH, decide_eq_true_eq]
  constructor
  · intro h
    cases h0 : hasB u (tg t 0) <;> cases h1 : hasB u (tg t 1) <;> cases h2 : hasB u (tg t 2) <;> simp [h0, h1, h2] at h
    · exact ⟨1, 2, by omega, by omega, h1, h2⟩
    · exact ⟨0, 2, by omega, by omega, h0, h2⟩
    · exact ⟨0, 1, by omega, by omega, h0, h1⟩
    · exact ⟨0, 1, by omega, by omega, h0, h1⟩
  · rintro ⟨i, j, hij, hj, a, b⟩
    rcases (show (i = 0 ∧ j = 1) ∨ (i = 0 ∧ j = 2) ∨ (i = 1 ∧ j = 2) by omega) with ⟨rfl, rfl⟩ | ⟨rfl, rfl⟩ | ⟨rfl, rfl⟩ <;> simp [a, b] <;> omega
theorem tg_inj {t : Tr} (h : loopB t = false) {i j : Nat} (hi : i < 3) (hj : j < 3) (e : tg t i = tg t j) : i = j := by
  unfold loopB at h
  simp only [Bool.or_eq_false_iff, beq_eq_false_iff_ne] at h
  obtain ⟨⟨a, b⟩, c⟩ := h
  rcases (show i = 0 ∨ i = 1 ∨ i = 2 by omega) with rfl | rfl | rfl <;> rcases (show j = 0 ∨ j = 1 ∨ j = 2 by omega) with rfl | rfl | rfl <;> simp only [tg] at e <;> first | rfl | exact absurd e a | exact absurd e b | exact absurd e c | exact absurd e.symm a | exact absurd e.symm b | exact absurd e.symm c
theorem bes_symm {t u : Tr} (ht : loopB t = false) (h : besB t u = true) : besB u t = true := by
  obtain ⟨i, j, hij, hj, a, b⟩ := (has2 t u).1 h
  obtain ⟨p, hp, ep⟩ := hasB_iff.1 a
  obtain ⟨q, hq, eq'⟩ := hasB_iff.1 b
  have hpq : p ≠ q := fun e => by
    subst e
    have := tg_inj ht (by omega) hj (ep.symm.trans eq')
    omega
  have hi' : hasB t (tg u p) = true := hasB_iff.2 ⟨i, by omega, ep.symm⟩
  have hj' : hasB t (tg u q) = true := hasB_iff.2 ⟨j, hj, eq'.symm⟩
  rcases Nat.lt_or_ge p q with l | l
  · exact (has2 u t).2 ⟨p, q, l, hq, hi', hj'⟩
  · exact (has2 u t).2 ⟨q, p, by omega, hp, hj', hi'⟩
/-- At a vertex of both, of triangles without loops: two in common is another one in common. -/
theorem bes_padj {T : List Tr} {v : Int} {i k : Nat} (hl : loopB (T! T i) = false) (h : BAdj T v i k) : PAdj T v i k := by
  obtain ⟨a, b, c, d, e⟩ := h
  obtain ⟨p, q, hpq, hq, f, g⟩ := (has2 _ _).1 e
  refine ⟨a, b, c, d, ?_⟩
  by_cases hv : tg (T! T i) p = v
  · exact ⟨q, hq, fun e' => by have := tg_inj hl (by omega) hq (hv.trans e'.symm); omega, g⟩
  · exact ⟨p, by omega, hv, f⟩
theorem padj_bes {T : List Tr} {v : Int} {i k : Nat} (h : PAdj T v i k) : BAdj T v i k := by
  obtain ⟨a, b, c, d, j, hj, hne, hh⟩ := h
  refine ⟨a, b, c, d, ?_⟩
  obtain ⟨p, hp, ep⟩ := hasB_iff.1 c
  have hpj : p ≠ j := fun e => hne (by rw [← e]; exact ep)
  rcases Nat.lt_or_ge p j with l | l
  · exact (has2 _ _).2 ⟨p, j, l, hj, by rw [ep]; exact d, hh⟩
  · exact (has2 _ _).2 ⟨j, p, by omega, hp, hh, by rw [ep]; exact d⟩
/-- All hang together by two vertices in common, just if they aren't pinched. -/
theorem unpinched_iff {T : List Tr} {v : Int} (hl : ∀ i, i < T.length → loopB (T! T i) = false) :
    (∀ i k, i < T.length → k < T.length → hasB (T! T i) v = true → hasB (T! T k) v = true → Conn (BAdj T v) i k) ↔ Unpinched T v := by
  have mapC : ∀ {A B : Nat → Nat → Prop}, (∀ i k, A i k → B i k) → ∀ {i k}, Conn A i k → Conn B i k := by
    intro A B f i k c
    induction c with
    | refl => exact .refl _
    | step _ s ih => exact ih.step (f _ _ s)
    | back _ s ih => exact ih.back (f _ _ s)
  exact ⟨fun h i k a b c d => mapC (fun i k s => bes_padj (hl i s.1) s) (h i k a b c d), fun h i k a b c d => mapC (fun i k s => padj_bes s) (h i k a b c d)⟩
def dirB (t u : Tr) (x y : Nat) : Bool := tg t x == tg u y && tg t ((x + 1) % 3) == tg u ((y + 1) % 3)
/-- A corner's vertex is in, and isn't the next one's. -/
def vxOK (N : Int) (t : Tr) (k : Nat) : Prop := 0 ≤ tg t k ∧ tg t k < N ∧ tg t k ≠ tg t ((k + 1) % 3)
/-- Two triangles have no directed edge in common, and not all vertices. -/
def twoOK (t u : Tr) : Prop := (∀ x y, x < 3 → y < 3 → dirB t u x y = false) ∧ cntH t u 3 ≠ 3
theorem dir_tw {t u : Tr} : twB u t = true ↔ ∃ x y, x < 3 ∧ y < 3 ∧ dirB t u x y = true := by
  rw [twB_iff]
  constructor
  · rintro ⟨p, hp, h⟩
    obtain ⟨q, hq, e1, e2⟩ := edgeB_iff.1 h
    exact ⟨q, p, hq, hp, by simp [dirB, e1, e2]⟩
  · rintro ⟨x, y, hx, hy, h⟩
    simp only [dirB, Bool.and_eq_true, beq_iff_eq] at h
    exact ⟨y, hy, edgeB_iff.2 ⟨x, hx, h.1, h.2⟩⟩
theorem cnt3 (t u : Tr) : cntH t u 3 = 3 ↔ mirB t u = true := by
  unfold mirB
  simp only [cntH, tg]
  cases hasB u t.1 <;> cases hasB u t.2.1 <;> cases hasB u t.2.2 <;> simp
theorem mir_iff {t u : Tr} : mirB t u = true ↔ ∀ j, j < 3 → hasB u (tg t j) = true := by
  unfold mirB
  simp only [Bool.and_eq_true]
  constructor
  · rintro ⟨⟨a, b⟩, c⟩ j hj
    match j, hj with
    | 0, _ => exact a
    | 1, _ => exact b
    | 2, _ => exact c
  · intro h
    exact ⟨⟨h 0 (by omega), h 1 (by omega)⟩, h 2 (by omega)⟩
theorem mir_symm {t u : Tr} (ht : loopB t = false) (h : mirB t u = true) : mirB u t = true := by
  have h' := mir_iff.1 h
  obtain ⟨a, ha, ea⟩ := hasB_iff.1 (h' 0 (by omega))
  obtain ⟨b, hb, eb⟩ := hasB_iff.1 (h' 1 (by omega))
  obtain ⟨c, hc, ec⟩ := hasB_iff.1 (h' 2 (by omega))
  have hab : a ≠ b := fun e => by subst e; have := tg_inj ht (i := 0) (j := 1) (by omega) (by omega) (ea.symm.trans eb); omega
  have hbc : b ≠ c := fun e => by subst e; have := tg_inj ht (i := 1) (j := 2) (by omega) (by omega) (eb.symm.trans ec); omega
  have hac : a ≠ c := fun e => by subst e; have := tg_inj ht (i := 0) (j := 2) (by omega) (by omega) (ea.symm.trans ec); omega
  refine mir_iff.2 fun j hj => ?_
  rcases (show j = a ∨ j = b ∨ j = c by omega) with rfl | rfl | rfl
  · exact hasB_iff.2 ⟨0, by omega, ea.symm⟩
  · exact hasB_iff.2 ⟨1, by omega, eb.symm⟩
  · exact hasB_iff.2 ⟨2, by omega, ec.symm⟩
theorem loop_iff {N : Int} {t : Tr} (h : ∀ k, k < 3 → vxOK N t k) : loopB t = false := by
  have h0 := (h 0 (by omega)).2.2
  have h1 := (h 1 (by omega)).2.2
  have h2 := (h 2 (by omega)).2.2
  simp only [tg] at h0 h1 h2
  simp [loopB, h0, h1]
  exact h2
theorem Surf.vx {N : Int} {T : List Tr} (hs : Surf N T) {i k : Nat} (hi : i < T.length) (hk : k < 3) : vxOK N (T! T i) k :=
  ⟨(hs.vin i hi k).1, (hs.vin i hi k).2, fun e => by
    have := tg_inj (hs.noloop i hi) hk (j := (k + 1) % 3) (by omega) e
    omega⟩
theorem Surf.two {N : Int} {T : List Tr} (hs : Surf N T) {i k : Nat} (hi : i < T.length) (hk : k < i) : twoOK (T! T i) (T! T k) := by
  refine ⟨fun x y hx hy => ?_, fun h => ?_⟩
  · have := hs.tw i k hi hk
    cases q : dirB (T! T i) (T! T k) x y
    · rfl
    · rw [dir_tw.2 ⟨x, y, hx, hy, q⟩] at this
      cases this
  · have := hs.mir i k hi hk
    rw [mir_symm (hs.noloop i hi) ((cnt3 _ _).1 h)] at this
    cases this
theorem Surf.fan {N : Int} {T : List Tr} (hs : Surf N T) {v : Int} (h0 : 0 ≤ v) (h1 : v < N) : 0 < (atV T v T.length).length ∧ ∀ i k, i < T.length → k < T.length → hasB (T! T i) v = true → hasB (T! T k) v = true → Conn (BAdj T v) i k := by
  obtain ⟨i, hi, hb⟩ := hs.used v h0 h1
  exact ⟨List.length_pos_of_mem (atV_mem.2 ⟨hi, hb⟩), (unpinched_iff hs.noloop).2 (hs.pin v h0 h1)⟩
/-- What the reference looks at is what makes a surface. -/
theorem Surf.of_is {N : Int} {T : List Tr} (n0 : 0 ≤ N) (n1 : N ≤ 4096) (t1 : T.length ≤ 8192) (hv : ∀ i k, i < T.length → k < 3 → vxOK N (T! T i) k) (h2 : ∀ i k, i < T.length → k < i → twoOK (T! T i) (T! T k))
    (hf : ∀ v : Nat, (v : Int) < N → 0 < (atV T v T.length).length ∧ ∀ i k, i < T.length → k < T.length → hasB (T! T i) v = true → hasB (T! T k) v = true → Conn (BAdj T v) i k) : Surf N T := by
  have nl : ∀ i, i < T.length → loopB (T! T i) = false := fun i hi => loop_iff fun k hk => hv i k hi hk
  refine ⟨n0, n1, t1, VIn.of_three fun i hi j hj => ⟨(hv i j hi hj).1, (hv i j hi hj).2.1⟩, nl, fun b a hb hab => ?_, fun b a hb hab => ?_, fun v v0 v1 => ?_, fun v v0 v1 => ?_⟩
  · cases q : twB (T! T a) (T! T b)
    · rfl
    · obtain ⟨x, y, hx, hy, e⟩ := dir_tw.1 q
      rw [(h2 b a hb hab).1 x y hx hy] at e
      cases e
  · cases q : mirB (T! T a) (T! T b)
    · rfl
    · exact absurd ((cnt3 _ _).2 (mir_symm (nl a (by omega)) q)) (h2 b a hb hab).2
  · obtain ⟨n, rfl⟩ := Int.eq_ofNat_of_zero_le v0
    obtain ⟨i, hi⟩ := List.exists_mem_of_length_pos (hf n v1).1
    obtain ⟨a, b⟩ := atV_mem.1 hi
    exact ⟨i, a, b⟩
  · obtain ⟨n, rfl⟩ := Int.eq_ofNat_of_zero_le v0
    exact (unpinched_iff nl).1 (hf n v1).2
def tcc (t : Tr) : List Value := [.int .i64 t.1, .int .i64 t.2.1, .int .i64 t.2.2]
theorem tcc_get (t : Tr) {j : Nat} (hj : j < 3) : (tcc t)[j]? = some (.int .i64 (tg t j)) := by
  match j, hj with
  | 0, _ => rfl
  | 1, _ => rfl
  | 2, _ => rfl
set_option maxHeartbeats 400000 in
theorem has15 (x y z v : Int) (w : World) :
    Calls Tryz.prog 46 #[.agg #[.int .i64 x, .int .i64 y, .int .i64 z], .int .i64 v] w fun e w' => e = .returned (.bool (hasB (x, y, z) v)) ∧ Below w.heap.size w w' := by
  obtain ⟨r, hr⟩ : ∃ r, r = hasB (x, y, z) v := ⟨_, rfl⟩
  rw [← hr]
  unfold hasB at hr
  simp only at hr
  cases h1 : x == v <;> cases h2 : y == v <;> cases h3 : z == v <;> simp only [h1, h2, h3, Bool.or_false, Bool.or_true] at hr <;> subst hr
  all_goals
    go_enter Tryz.func46, Tryz.ntmps46
    go_wp2
    go_ret
    exact ⟨rfl, (Below.refl _ _).alloc (Nat.le_refl _) _⟩
set_option maxRecDepth 100000 in
set_option maxHeartbeats 1000000 in
theorem bes15 (t u : Tr) (w : World) :
    Calls Tryz.prog 84 #[.agg #[.int .i64 t.1, .int .i64 t.2.1, .int .i64 t.2.2], .agg #[.int .i64 u.1, .int .i64 u.2.1, .int .i64 u.2.2]] w fun e w' => e = .returned (.bool (besB t u)) ∧ Below w.heap.size w w' := by
  obtain ⟨r, hr⟩ : ∃ r, r = besB t u := ⟨_, rfl⟩
  rw [← hr]
  have HR := Lib.hid hr
  have H1 := Lib.hid ((RowIs.made w 49 (tcc t)).alloc (.cells #[.int .i64 u.1, .int .i64 u.2.1, .int .i64 u.2.2] 49))
  have H2 := Lib.hid (show RowIs ((w.alloc (.cells #[.int .i64 t.1, .int .i64 t.2.1, .int .i64 t.2.2] 49)).alloc (.cells #[.int .i64 u.1, .int .i64 u.2.1, .int .i64 u.2.2] 49)) (w.heap.size + 1) 49 (tcc u) from RowIs.made' _ _ (tcc u) _ (by simp))
  have HC := Lib.hid (fun (v : Int) (W : World) => has15 u.1 u.2.1 u.2.2 v W)
  clear hr
  go_enter Tryz.func84, Tryz.ntmps84
  go_wp2
  go_loopw [6, 5] (fun v n ws => ∃ i : Nat, i ≤ 3 ∧ v = .int .i64 i ∧ n = .int .i64 (cntH t u i : Nat) ∧ RowIs ws w.heap.size 49 (tcc t) ∧ RowIs ws (w.heap.size + 1) 49 (tcc u) ∧ Below w.heap.size w ws) (fun v _ _ => 3 - (intOf v).toNat)
  case atStart => exact ⟨0, by omega, rfl, rfl, H1.out, H2.out, ((Below.refl _ _).alloc (Nat.le_refl _) _).alloc (by simp) _⟩
  case round =>
    clear H1 H2
    obtain ⟨i, hi, rfl, rfl, h1, h2, hb⟩ := hrel
    obtain ⟨W1, rfl⟩ : ∃ W1 : World, W1 = wr := ⟨_, rfl⟩
    have hle := cntH_le t u i
    by_cases hi3 : i < 3
    · have HK := Lib.hid (show ∀ w', Hid (Below W1.heap.size W1 w') → w'.cell? ⟨w.heap.size, i, none⟩ = some (.int .i64 (tg t i)) ∧ w'.cell? ⟨w.heap.size + 1, 0, none⟩ = some (.int .i64 u.1) ∧ w'.cell? ⟨w.heap.size + 1, 1, none⟩ = some (.int .i64 u.2.1) ∧ w'.cell? ⟨w.heap.size + 1, 2, none⟩ = some (.int .i64 u.2.2) from fun w' hb' =>
        ⟨(h1.below hb'.out h1.lt).cell (tcc_get t hi3), (h2.below hb'.out h2.lt).cell rfl, (h2.below hb'.out h2.lt).cell rfl, (h2.below hb'.out h2.lt).cell rfl⟩)
      have HF := Lib.hid (show ∀ w', Below W1.heap.size W1 w' → RowIs w' w.heap.size 49 (tcc t) ∧ RowIs w' (w.heap.size + 1) 49 (tcc u) ∧ Below w.heap.size w w' from fun w' hb' => ⟨h1.below hb' h1.lt, h2.below hb' h2.lt, below_more hb hb' hb.size⟩)
      have HD := Lib.hid (show Below W1.heap.size W1 W1.drew from ⟨rfl, rfl, rfl, Nat.le_refl _, fun _ _ => rfl⟩)
      have hcs : cntH t u (i + 1) = cntH t u i + if hasB u (tg t i) then 1 else 0 := rfl
      obtain ⟨x, hx⟩ : ∃ x, Hid (tg t i = x) := ⟨_, rfl⟩
      obtain ⟨a, b, c⟩ := u
      obtain ⟨m, hm⟩ : ∃ m, m = cntH t (a, b, c) i := ⟨_, rfl⟩
      obtain ⟨m', hm'⟩ : ∃ m, m = cntH t (a, b, c) (i + 1) := ⟨_, rfl⟩
      rw [← hm, ← hm', hx.out] at hcs
      rw [← hm] at hle
      rw [hx.out] at HK
      rw [← hm]
      have HM := Lib.hid hm'
      simp only at HK HC HF
      cases hh : hasB (a, b, c) x
      · have HCC := Lib.hid (show ∀ w', Hid (Below W1.heap.size W1 w') → Calls Tryz.prog 46 #[.agg #[.int .i64 a, .int .i64 b, .int .i64 c], .int .i64 x] w' fun e w'' => e = .returned (.bool false) ∧ Hid (Below W1.heap.size W1 w'') from fun w' hb' => by
          have := HC.out x w'
          rw [hh] at this
          exact this.mono fun e w'' ⟨q1, q2⟩ => ⟨q1, below_more hb'.out q2 hb'.out.size⟩)
        rw [hh] at hcs
        have e2 : m' = m := by simpa using hcs
        subst e2
        clear hh hcs h1 h2 hb HC hm hm'
        go_upto_region 5 with fail
        go_region_held3 (fun w' => w'.cell? ⟨w.heap.size, i, none⟩ = some (.int .i64 x) ∧ w'.cell? ⟨w.heap.size + 1, 0, none⟩ = some (.int .i64 a) ∧ w'.cell? ⟨w.heap.size + 1, 1, none⟩ = some (.int .i64 b) ∧ w'.cell? ⟨w.heap.size + 1, 2, none⟩ = some (.int .i64 c)) (exact HK.out _ (by assumption))
          (first | (go_at_call 46; (with_reducible refine (HCC.out _ (by assumption)).mono ?_); rintro e wA ⟨rfl, hhA⟩))
        all_goals
          go_wp2
          go_roundw
          case rel => exact ⟨i + 1, by omega, by go_num, by rw [← HM.out], HF.out _ hhA.out⟩
          case measure => simp [intOf]; omega
      · have HCC := Lib.hid (show ∀ w', Hid (Below W1.heap.size W1 w') → Calls Tryz.prog 46 #[.agg #[.int .i64 a, .int .i64 b, .int .i64 c], .int .i64 x] w' fun e w'' => e = .returned (.bool true) ∧ Hid (Below W1.heap.size W1 w'') from fun w' hb' => by
          have := HC.out x w'
          rw [hh] at this
          exact this.mono fun e w'' ⟨q1, q2⟩ => ⟨q1, below_more hb'.out q2 hb'.out.size⟩)
        rw [hh] at hcs
        have e2 : m' = m + 1 := by simpa using hcs
        have E2 := Lib.hid e2
        clear hh hcs h1 h2 hb HC hm hm' e2
        go_upto_region 5 with fail
        go_region_held3 (fun w' => w'.cell? ⟨w.heap.size, i, none⟩ = some (.int .i64 x) ∧ w'.cell? ⟨w.heap.size + 1, 0, none⟩ = some (.int .i64 a) ∧ w'.cell? ⟨w.heap.size + 1, 1, none⟩ = some (.int .i64 b) ∧ w'.cell? ⟨w.heap.size + 1, 2, none⟩ = some (.int .i64 c)) (exact HK.out _ (by assumption))
          (first | (go_at_call 46; (with_reducible refine (HCC.out _ (by assumption)).mono ?_); rintro e wA ⟨rfl, hhA⟩))
        all_goals
          go_wp2
          go_roundw
          case rel => exact ⟨i + 1, by omega, by go_num, by rw [← HM.out, E2.out]; go_num, HF.out _ hhA.out⟩
          case measure => simp [intOf]; omega
    · obtain rfl : i = 3 := by omega
      have HF := Lib.hid (show r = decide (2 ≤ cntH t u 3) from HR.out)
      obtain ⟨m, hm⟩ : ∃ m, m = cntH t u 3 := ⟨_, rfl⟩
      rw [← hm] at hle HF ⊢
      have HB := Lib.hid hb
      clear h1 h2 hb hm
      by_cases h2 : 2 ≤ m
      · have hd : decide (((m : Nat) : Int) ≥ 2) = true := by simp; omega
        have hd2 : decide (m ≥ 2) = true := by simp; omega
        have HG := Lib.hid (show r = true from by rw [HF.out]; simp [h2])
        go_wp2
        exact bodyPost_ret (v := .bool true) (by simp [results, Tryz.results84, go_sem]) rfl ⟨by rw [HG.out], HB.out⟩
      · have hd : decide (((m : Nat) : Int) ≥ 2) = false := by simp; omega
        have hd2 : decide (m ≥ 2) = false := by simp; omega
        have HG := Lib.hid (show r = false from by rw [HF.out]; simp [h2])
        go_wp2
        exact bodyPost_ret (v := .bool false) (by simp [results, Tryz.results84, go_sem]) rfl ⟨by rw [HG.out], HB.out⟩
end Go.Proofs.YtfbpjlfimmjieaaGreat

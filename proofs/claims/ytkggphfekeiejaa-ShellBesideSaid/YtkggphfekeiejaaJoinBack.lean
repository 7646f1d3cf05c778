/- Plain law: the parts of a surface, put together, are the surface. -/
import Derived.Test.YtkggphfekeiejaaJoinSpec
import Derived.Test.YtkggphfekeiejaaSurfAdj
namespace Go.Proofs.Ytkggphfekeiejaa
set_option linter.unusedVariables false
set_option linter.unusedSimpArgs false
open Go.RowKit
theorem nodup_gather {X : Nat → List Int} {m : Nat} (h1 : ∀ k, k < m → (X k).Nodup) (h2 : ∀ j k x, j < m → k < m → x ∈ X j → x ∈ X k → j = k) : (gather X m).Nodup := by
  induction m with
  | zero => exact List.nodup_nil
  | succ m ih =>
    rw [gather_succ, List.nodup_append]
    refine ⟨ih (fun k hk => h1 k (by omega)) (fun j k x hj hk => h2 j k x (by omega) (by omega)), h1 m (by omega), fun x hx y hy e => ?_⟩
    subst e
    obtain ⟨j, hj, hxj⟩ := gather_mem.1 hx
    have := h2 j m x (by omega) (by omega) hxj hy
    omega
theorem range_length {L : List Int} {n : Nat} (h1 : L.Nodup) (h2 : ∀ x, x ∈ L ↔ 0 ≤ x ∧ x < (n : Int)) : L.length = n := by
  have hp : L.Perm ((List.range n).map fun (v : Nat) => (v : Int)) := by
    refine (List.perm_ext_iff_of_nodup h1 ?_).2 fun x => ?_
    · rw [List.nodup_iff_pairwise_ne, List.pairwise_map]
      exact List.nodup_range.imp fun h e => h (by exact_mod_cast e)
    · rw [h2]
      simp only [List.mem_map, List.mem_range]
      constructor
      · rintro ⟨h3, h4⟩
        exact ⟨x.toNat, by omega, by omega⟩
      · rintro ⟨v, hv, rfl⟩
        omega
  simpa using hp.length_eq
theorem jpart_val {P : PartV} {f : Nat → Tr} {x : Nat} : ∀ i, (∀ j, j < i → (I! P.T j).toNat ≠ x) → jpart P f i x = f x := by
  intro i
  induction i with
  | zero => exact fun _ => rfl
  | succ i ih =>
    intro h
    show updT _ _ _ x = _
    unfold updT
    rw [if_neg (fun e => h i (by omega) e.symm)]
    exact ih fun j hj => h j (by omega)
/-- If each triangle is laid as it was, and all are, it is the surface. -/
theorem jall_law {P : Nat → PartV} {T : List Tr} {m : Nat} (hin : ∀ k, k < m → ∀ i, i < (P k).T.length → mapped (P k) i = T! T (I! (P k).T i).toNat) :
    ∀ x, (∃ k, k < m ∧ ∃ i, i < (P k).T.length ∧ (I! (P k).T i).toNat = x) → jall P m x = T! T x := by
  have part : ∀ k, k < m → ∀ (f : Nat → Tr) x, f x = T! T x → ∀ i, i ≤ (P k).T.length → jpart (P k) f i x = T! T x := by
    intro k hk f x hf i
    induction i with
    | zero => exact fun _ => hf
    | succ i ih =>
      intro hi
      show updT _ _ _ x = _
      unfold updT
      by_cases e : x = (I! (P k).T i).toNat
      · rw [if_pos e, hin k hk i (by omega), ← e]
      · rw [if_neg e]; exact ih (by omega)
  have part2 : ∀ k, k < m → ∀ (f : Nat → Tr) x, ∀ i, i ≤ (P k).T.length → (∃ j, j < i ∧ (I! (P k).T j).toNat = x) → jpart (P k) f i x = T! T x := by
    intro k hk f x i
    induction i with
    | zero => rintro _ ⟨j, hj, _⟩; omega
    | succ i ih =>
      rintro hi ⟨j, hj, e⟩
      show updT _ _ _ x = _
      unfold updT
      by_cases e1 : x = (I! (P k).T i).toNat
      · rw [if_pos e1, hin k hk i (by omega), ← e1]
      · rw [if_neg e1]
        refine ih (by omega) ⟨j, ?_, e⟩
        by_cases e2 : j = i
        · subst e2; exact absurd e.symm e1
        · omega
  intro x
  induction m with
  | zero => rintro ⟨k, hk, _⟩; omega
  | succ m ih =>
    rintro ⟨k, hk, i, hi, e⟩
    show jpart (P m) (jall P m) (P m).T.length x = _
    by_cases e1 : k = m
    · subst e1
      exact part2 k (by omega) _ x _ (Nat.le_refl _) ⟨i, hi, e⟩
    · refine part m (by omega) _ x ?_ _ (Nat.le_refl _)
      exact ih (fun k hk => hin k (by omega)) (fun k hk => part k (by omega)) (fun k hk => part2 k (by omega)) ⟨k, by omega, i, hi, e⟩
theorem verts_mem {T : List Tr} {E : List Nat} {v : Int} : v ∈ vertsOf T E ↔ ∃ i, i ∈ E ∧ hasB (T! T i) v = true := by
  unfold vertsOf
  rw [uniq_mem]
  simp only [List.mem_flatMap]
  constructor
  · rintro ⟨i, hi, h⟩
    refine ⟨i, hi, ?_⟩
    simp only [corners3, List.mem_cons, List.not_mem_nil, or_false] at h
    unfold hasB
    rcases h with h | h | h <;> simp [h]
  · rintro ⟨i, hi, h⟩
    refine ⟨i, hi, ?_⟩
    unfold hasB at h
    simp only [Bool.or_eq_true, beq_iff_eq] at h
    simp only [corners3, List.mem_cons, List.not_mem_nil, or_false]
    rcases h with (h | h) | h <;> simp [h]
/-- The place of a number in a rising list is how many are less. -/
theorem rank_at : ∀ {V : List Int}, V.Pairwise (· < ·) → ∀ {x : Int}, x ∈ V → rank V x < V.length ∧ I! V (rank V x).toNat = x := by
  intro V hV
  induction V with
  | nil => intro x hx; cases hx
  | cons a V ih =>
    intro x hx
    rw [List.pairwise_cons] at hV
    rcases List.mem_cons.1 hx with rfl | hx
    · have h0 : (x :: V).countP (· < x) = 0 := by
        rw [List.countP_eq_zero]
        intro y hy
        rcases List.mem_cons.1 hy with rfl | hy
        · simp
        · have := hV.1 y hy; simp; omega
      have hr : rank (x :: V) x = 0 := by unfold rank; rw [h0]; rfl
      rw [hr]
      exact ⟨by simp, rfl⟩
    · have hax := hV.1 x hx
      have hr : rank (a :: V) x = rank V x + 1 := by
        unfold rank
        rw [List.countP_cons]
        simp [hax]
      obtain ⟨h1, h2⟩ := ih hV.2 hx
      have h3 : 0 ≤ rank V x := by unfold rank; omega
      refine ⟨by rw [hr]; simp; omega, ?_⟩
      rw [hr, show (rank V x + 1).toNat = (rank V x).toNat + 1 by omega]
      exact h2
theorem rank_nonneg (V : List Int) (x : Int) : 0 ≤ rank V x := by unfold rank; omega
section
variable {N : Int} {T : List Tr} {L : Nat → Int} {m : Nat}
theorem mem_ofShell {n k i : Nat} : i ∈ ofShell L n k ↔ i < n ∧ L i = k := by
  simp only [ofShell, List.mem_filter, List.mem_range, decide_eq_true_eq]
theorem shell_of (hL : IsShells (Adj T) T.length L) (hm : (m : Int) = cnt L T.length) {i : Nat} (hi : i < T.length) : ∃ k, k < m ∧ L i = (k : Int) := by
  have h1 := cnt_lt L T.length i hi
  have h2 := hL.nonneg i hi
  exact ⟨(L i).toNat, by omega, by omega⟩
theorem part_T (k i : Nat) (hi : i < (ofShell L T.length k).length) : I! (partOf T L T.length k).T i = ((ofShell L T.length k)[i] : Int) := by
  show I! ((ofShell L T.length k).map fun (i : Nat) => (i : Int)) i = _
  simp [I!, List.getD_eq_getElem?_getD, hi]
theorem part_mapped {k i : Nat} (hi : i < (ofShell L T.length k).length) : mapped (partOf T L T.length k) i = T! T (ofShell L T.length k)[i] ∧
    (∀ j, 0 ≤ tg (T! (partOf T L T.length k).S i) j ∧ tg (T! (partOf T L T.length k).S i) j < (partOf T L T.length k).N) := by
  obtain ⟨n, hn⟩ : ∃ n, n = (ofShell L T.length k)[i] := ⟨_, rfl⟩
  have hmem : n ∈ ofShell L T.length k := by rw [hn]; exact List.getElem_mem hi
  have hS : T! (partOf T L T.length k).S i = ranked (vertsOf T (ofShell L T.length k)) (T! T n) := by
    show T! ((ofShell L T.length k).map _) i = _
    simp [T!, List.getD_eq_getElem?_getD, hi, hn]
  have hv : ∀ j, tg (T! T n) j ∈ vertsOf T (ofShell L T.length k) := fun j => verts_mem.2 ⟨n, hmem, by
    unfold hasB tg
    match j with
    | 0 => simp
    | 1 => simp
    | _ + 2 => simp⟩
  have hr : ∀ j, tg (ranked (vertsOf T (ofShell L T.length k)) (T! T n)) j = rank (vertsOf T (ofShell L T.length k)) (tg (T! T n) j) := fun j => by
    match j with
    | 0 => rfl
    | 1 => rfl
    | _ + 2 => rfl
  have hlt := uniq_lt ((ofShell L T.length k).flatMap fun i => corners3 (T! T i))
  rw [← hn]
  constructor
  · unfold mapped
    rw [hS]
    have q : ∀ j, I! (vertsOf T (ofShell L T.length k)) (rank (vertsOf T (ofShell L T.length k)) (tg (T! T n) j)).toNat = tg (T! T n) j := fun j => (rank_at hlt (hv j)).2
    exact Prod.ext (q 0) (Prod.ext (q 1) (q 2))
  · intro j
    rw [hS, hr]
    exact ⟨rank_nonneg _ _, (rank_at hlt (hv j)).1⟩
theorem allT_mem (hL : IsShells (Adj T) T.length L) (hm : (m : Int) = cnt L T.length) (x : Int) : x ∈ allT (partOf T L T.length) m ↔ 0 ≤ x ∧ x < (T.length : Int) := by
  unfold allT
  rw [gather_mem]
  constructor
  · rintro ⟨k, hk, hx⟩
    simp only [partOf, List.mem_map] at hx
    obtain ⟨i, hi, rfl⟩ := hx
    have := (mem_ofShell.1 hi).1
    omega
  · rintro ⟨h0, h1⟩
    obtain ⟨k, hk, e⟩ := shell_of hL hm (i := x.toNat) (by omega)
    refine ⟨k, hk, ?_⟩
    simp only [partOf, List.mem_map]
    exact ⟨x.toNat, mem_ofShell.2 ⟨by omega, e⟩, by omega⟩
theorem allT_nodup : (allT (partOf T L T.length) m).Nodup := by
  refine nodup_gather (fun k _ => ?_) fun j k x _ _ h1 h2 => ?_
  · show ((ofShell L T.length k).map fun (i : Nat) => (i : Int)).Nodup
    rw [List.nodup_iff_pairwise_ne, List.pairwise_map]
    exact (List.nodup_range.filter _).imp fun h e => h (by exact_mod_cast e)
  · simp only [partOf, List.mem_map] at h1 h2
    obtain ⟨i, hi, rfl⟩ := h1
    obtain ⟨i', hi', e⟩ := h2
    obtain rfl : i' = i := by omega
    have q1 := (mem_ofShell.1 hi).2
    have q2 := (mem_ofShell.1 hi').2
    omega
theorem allV_mem (hs : Surf N T) (hL : IsShells (Adj T) T.length L) (hm : (m : Int) = cnt L T.length) (x : Int) : x ∈ allV (partOf T L T.length) m ↔ 0 ≤ x ∧ x < N := by
  unfold allV
  rw [gather_mem]
  constructor
  · rintro ⟨k, hk, hx⟩
    obtain ⟨i, hi, hh⟩ := verts_mem.1 hx
    obtain ⟨j, e⟩ := hasB_tg hh
    rw [← e]
    exact hs.vin i (mem_ofShell.1 hi).1 j
  · rintro ⟨h0, h1⟩
    obtain ⟨i, hi, hh⟩ := hs.used x h0 h1
    obtain ⟨k, hk, e⟩ := shell_of hL hm hi
    exact ⟨k, hk, verts_mem.2 ⟨i, mem_ofShell.2 ⟨hi, e⟩, hh⟩⟩
theorem allV_nodup (hs : Surf N T) (hL : IsShells (Adj T) T.length L) : (allV (partOf T L T.length) m).Nodup := by
  refine nodup_gather (fun k _ => ?_) fun j k x _ _ h1 h2 => ?_
  · exact (uniq_lt _).imp fun h e => by subst e; omega
  · obtain ⟨i, hi, hh⟩ := verts_mem.1 h1
    obtain ⟨i', hi', hh'⟩ := verts_mem.1 h2
    have q1 := mem_ofShell.1 hi
    have q2 := mem_ofShell.1 hi'
    have := hs.at_vertex hL q1.1 q2.1 hh hh'
    omega
/-- Taken apart and put together. -/
theorem join_back (hs : Surf N T) (hL : IsShells (Adj T) T.length L) (hm : (m : Int) = cnt L T.length) : jcode (partOf T L T.length) m = 0 ∧ ∀ N' T', JRes (partOf T L T.length) m N' T' → N' = N ∧ T' = T := by
  obtain ⟨M, rfl⟩ := Int.eq_ofNat_of_zero_le hs.n0
  have lT : (allT (partOf T L T.length) m).length = T.length := range_length allT_nodup (allT_mem hL hm)
  have lV : (allV (partOf T L T.length) m).length = M := range_length (allV_nodup hs hL) (allV_mem hs hL hm)
  constructor
  · unfold jcode
    rw [if_pos, if_pos, if_pos]
    · exact ⟨allT_nodup, allV_nodup hs hL⟩
    · refine ⟨fun x hx => ?_, fun x hx => ?_⟩
      · rw [lT]; exact (allT_mem hL hm x).1 hx
      · rw [lV]; exact (allV_mem hs hL hm x).1 hx
    · intro k hk
      refine ⟨by simp [partOf], rfl, fun i hi j _ => ?_⟩
      exact (part_mapped (by simpa [partOf] using hi)).2 j
  · rintro N' T' ⟨rfl, rfl⟩
    refine ⟨by rw [lV], ?_⟩
    rw [lT]
    apply List.ext_getElem
    · simp
    · intro x h1 h2
      simp only [List.getElem_map, List.getElem_range]
      have e : T! T x = T[x] := by simp [T!, List.getD_eq_getElem?_getD, List.getElem?_eq_getElem h2]
      rw [← e]
      refine jall_law (fun k _ i hi => ?_) x ?_
      · have hi' : i < (ofShell L T.length k).length := by simpa [partOf] using hi
        rw [part_T k i hi', (part_mapped hi').1]
        simp
      · obtain ⟨k, hk, e1⟩ := shell_of hL hm h2
        obtain ⟨i, hi, e2⟩ := List.getElem_of_mem (mem_ofShell.2 ⟨h2, e1⟩)
        exact ⟨k, hk, i, by simpa [partOf] using hi, by rw [part_T k i hi, e2]; simp⟩
end
end Go.Proofs.Ytkggphfekeiejaa

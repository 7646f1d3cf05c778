/- Plain law: the shells' numbers together. -/
import Derived.Test.YtkjamheoihlekaaGreatLoopsW
import Derived.Test.YtkjamheoihlekaaGreatFaceLaw
namespace Go.Proofs.YtkjamheoihlekaaGreat
set_option linter.unusedVariables false
set_option linter.unusedSimpArgs false
open Go.RowKit
def sumN (f : Nat → Nat) : Nat → Nat
  | 0 => 0
  | k + 1 => sumN f k + f k
theorem sumN_add (f g : Nat → Nat) : ∀ m, sumN (fun k => f k + g k) m = sumN f m + sumN g m
  | 0 => rfl
  | m + 1 => by
    show sumN _ m + (f m + g m) = sumN f m + f m + (sumN g m + g m)
    rw [sumN_add f g m]; omega
theorem sumN_zero : ∀ m, sumN (fun _ => 0) m = 0
  | 0 => rfl
  | m + 1 => by show sumN _ m + 0 = 0; rw [sumN_zero m]
theorem sumN_congr {f g : Nat → Nat} : ∀ {m}, (∀ k, k < m → f k = g k) → sumN f m = sumN g m
  | 0, _ => rfl
  | m + 1, h => by show sumN f m + f m = sumN g m + g m; rw [sumN_congr fun k hk => h k (by omega), h m (by omega)]
theorem sumN_ind {x : Int} : ∀ {m : Nat}, (0 ≤ x ∧ x < m) → sumN (fun k => if x = (k : Int) then 1 else 0) m = 1
  | 0, h => by omega
  | m + 1, h => by
    show sumN _ m + (if x = (m : Int) then 1 else 0) = 1
    by_cases e : x = (m : Int)
    · rw [if_pos e, sumN_congr (g := fun _ => 0) fun k hk => if_neg (by omega), sumN_zero]
    · rw [if_neg e, sumN_ind (by omega)]
/-- All keys in range: together as many as there are. -/
theorem sumN_cntK {key : Nat → Int} {m : Nat} : ∀ {i : Nat}, (∀ j, j < i → 0 ≤ key j ∧ key j < m) → sumN (cntK key i) m = i
  | 0, _ => by
    rw [sumN_congr (g := fun _ => 0) fun k _ => cntK_zero key k, sumN_zero]
  | i + 1, h => by
    rw [sumN_congr (g := fun k => cntK key i k + if key i = (k : Int) then 1 else 0) fun k _ => cntK_succ key i k, sumN_add, sumN_cntK fun j hj => h j (by omega), sumN_ind (h i (by omega))]
theorem sumF_sumN {Φ : Nat → Int} {f : Nat → Nat} {j : Nat} : ∀ {m : Nat}, (∀ k, k < m → Φ (k * 6 + j) = (f k : Int)) → sumF Φ m j = (sumN f m : Int)
  | 0, _ => rfl
  | m + 1, h => by
    show sumF Φ m j + Φ (6 * m + j) = ((sumN f m + f m : Nat) : Int)
    rw [sumF_sumN fun k hk => h k (by omega), show 6 * m + j = m * 6 + j by omega, h m (by omega)]
    omega
/-- The edges, each once. -/
def eAll (T : List Tr) : Nat := ((List.range (3 * T.length)).filter fun x : Nat => decide (opp T (x : Nat) < (x : Nat))).length
section
variable {n : Nat} {T : List Tr} {L : Nat → Int} {m : Nat}
theorem lab_range (hL : IsShells (Adj T) T.length L) (hm : (m : Int) = cnt L T.length) {i : Nat} (hi : i < T.length) : 0 ≤ L i ∧ L i < m := ⟨hL.nonneg i hi, by rw [hm]; exact cnt_lt L T.length i hi⟩
theorem sum_V (hs : Surf n T) (hL : IsShells (Adj T) T.length L) (hm : (m : Int) = cnt L T.length) : sumF (genF T L n) m 0 = (n : Int) := by
  rw [sumF_sumN (f := nV T L n) fun k _ => gen0 T L n k]
  congr 1
  refine sumN_cntK fun v hv => ?_
  obtain ⟨c, c1, -, c3⟩ := shV_corner (L := L) hs hv
  rw [c3]
  exact lab_range hL hm (by omega)
theorem sum_F (hL : IsShells (Adj T) T.length L) (hm : (m : Int) = cnt L T.length) : sumF (genF T L n) m 2 = (T.length : Int) := by
  rw [sumF_sumN (f := nF T L) fun k _ => gen2 T L n k]
  congr 1
  exact sumN_cntK fun i hi => lab_range hL hm hi
theorem sum_B (hs : Surf n T) (hL : IsShells (Adj T) T.length L) (hm : (m : Int) = cnt L T.length) : sumF (genF T L n) m 3 = ((loopsL (bordE T (3 * T.length)) n).length : Int) := by
  rw [sumF_sumN (f := nB T L n) fun k _ => gen3 T L n k, loopsL_heads, List.length_map]
  congr 1
  refine sumN_cntK fun j hj => ?_
  have hmem : (headsB (bordE T (3 * T.length)) n).getD j 0 ∈ headsB (bordE T (3 * T.length)) n := by
    have : (headsB (bordE T (3 * T.length)) n).getD j 0 = (headsB (bordE T (3 * T.length)) n)[j] := by simp [hj]
    rw [this]; exact List.getElem_mem hj
  obtain ⟨c, c1, -, c3⟩ := shV_corner (L := L) hs (headsB_mem.1 hmem).1
  unfold keyB
  rw [c3]
  exact lab_range hL hm (by omega)
theorem ecP_sum (hL : IsShells (Adj T) T.length L) (hm : (m : Int) = cnt L T.length) : ∀ i, i ≤ 3 * T.length → sumN (ecP T L i) m = ((List.range i).filter fun x : Nat => decide (opp T (x : Nat) < (x : Nat))).length
  | 0, _ => by
    rw [show ecP T L 0 = fun _ => 0 from rfl, sumN_zero]; rfl
  | i + 1, h => by
    rw [sumN_congr (g := fun k => ecP T L i k + if L (i / 3) = (k : Int) ∧ opp T (i : Nat) < (i : Int) then 1 else 0) fun k _ => ecP_succ T L i k, sumN_add, ecP_sum hL hm i (by omega), List.range_succ, List.filter_append, List.length_append]
    congr 1
    by_cases e : opp T (i : Nat) < (i : Int)
    · rw [sumN_congr (g := fun k => if L (i / 3) = (k : Int) then 1 else 0) fun k _ => by simp [e], sumN_ind (lab_range hL hm (by omega))]
      simp [e]
    · rw [sumN_congr (g := fun _ => 0) fun k _ => by simp [e], sumN_zero]
      simp [e]
theorem sum_E (hs : Surf n T) (hL : IsShells (Adj T) T.length L) (hm : (m : Int) = cnt L T.length) : sumF (genF T L n) m 1 = (eAll T : Int) := by
  rw [sumF_sumN (f := fun k => nT T L k / 2) fun k _ => gen1 T L n k, sumN_congr (g := ecP T L (3 * T.length)) fun k _ => (edge_count hs hL k).symm, ecP_sum hL hm _ (Nat.le_refl _)]
  rfl
/-- Each triangle has three edges, each edge two triangles, but those of the border. -/
theorem edges_tris (hs : Surf n T) : 3 * T.length + (bordE T (3 * T.length)).length = 2 * eAll T := by
  have e1 := filt_split (fun x : Nat => decide (opp T (x : Nat) < (x : Nat))) (List.range (3 * T.length))
  have e2 := filt_len3 (p := fun x : Nat => decide (opp T (x : Nat) < (x : Nat))) (q := fun x : Nat => decide (opp T (x : Nat) < 0)) (List.range (3 * T.length))
  have e3 : ((List.range (3 * T.length)).filter fun x : Nat => decide (opp T (x : Nat) < (x : Nat)) && decide (opp T (x : Nat) < 0)).length = (bordE T (3 * T.length)).length := by
    unfold bordE
    rw [List.length_map]
    congr 1
    refine List.filter_congr fun x _ => ?_
    by_cases h2 : opp T (x : Nat) < 0
    · simp [h2]; omega
    · simp [h2]
  rw [List.length_range] at e1
  obtain ⟨A, hA⟩ : ∃ A, A = (List.range (3 * T.length)).filter fun x : Nat => decide (opp T (x : Nat) < (x : Nat)) && !decide (opp T (x : Nat) < 0) := ⟨_, rfl⟩
  obtain ⟨B, hB⟩ : ∃ B, B = (List.range (3 * T.length)).filter fun x : Nat => !decide (opp T (x : Nat) < (x : Nat)) := ⟨_, rfl⟩
  rw [← hA] at e2
  rw [← hB] at e1
  have mA : ∀ x, x ∈ A ↔ x < 3 * T.length ∧ opp T (x : Nat) < (x : Nat) ∧ 0 ≤ opp T (x : Nat) := fun x => by rw [hA]; simp
  have mB : ∀ x, x ∈ B ↔ x < 3 * T.length ∧ (x : Int) ≤ opp T (x : Nat) := fun x => by rw [hB]; simp
  have nA : A.Nodup := by rw [hA]; exact nodup_rf _ _
  have nBd : B.Nodup := by rw [hB]; exact nodup_rf _ _
  have hinj : ∀ a, a < 3 * T.length → 0 ≤ opp T (a : Nat) → ∀ b, b < 3 * T.length → 0 ≤ opp T (b : Nat) → (opp T (a : Nat)).toNat = (opp T (b : Nat)).toNat → a = b := fun a ha h0 b hb h1 e => by
    obtain ⟨o, o1, o2, o3, -, -⟩ := hs.opp_opp ha h0
    obtain ⟨o', p1, p2, p3, -, -⟩ := hs.opp_opp hb h1
    rw [o1, p1] at e
    have : o = o' := by simpa using e
    subst this
    rw [o3] at p3
    omega
  have l1 := sub_len (A.map fun x : Nat => (opp T (x : Nat)).toNat) B (nodup_on (fun a ha b hb e => hinj a ((mA a).1 ha).1 ((mA a).1 ha).2.2 b ((mA b).1 hb).1 ((mA b).1 hb).2.2 e) nA) (fun y hy => by
    obtain ⟨x, hx, rfl⟩ := List.mem_map.1 hy
    obtain ⟨x1, x3, x4⟩ := (mA x).1 hx
    obtain ⟨o, o1, o2, o3, -, -⟩ := hs.opp_opp x1 x4
    try dsimp only
    rw [o1, Int.toNat_natCast]
    exact (mB o).2 ⟨o2, by omega⟩)
  have l2 := sub_len (B.map fun x : Nat => (opp T (x : Nat)).toNat) A (nodup_on (fun a ha b hb e => hinj a ((mB a).1 ha).1 (by have := ((mB a).1 ha).2; omega) b ((mB b).1 hb).1 (by have := ((mB b).1 hb).2; omega) e) nBd) (fun y hy => by
    obtain ⟨x, hx, rfl⟩ := List.mem_map.1 hy
    obtain ⟨x1, x3⟩ := (mB x).1 hx
    obtain ⟨o, o1, o2, o3, o4, o5⟩ := hs.opp_opp x1 (by omega)
    have hne : o ≠ x := fun e => by
      subst e
      exact ends_ne hs x1 o4
    try dsimp only
    rw [o1, Int.toNat_natCast]
    exact (mA o).2 ⟨o2, by omega, by omega⟩)
  rw [List.length_map] at l1 l2
  have he : eAll T = ((List.range (3 * T.length)).filter fun x : Nat => decide (opp T (x : Nat) < (x : Nat))).length := rfl
  omega
theorem ukey_same (hs : Surf n T) {c d : Nat} (hc : c < 3 * T.length) (hd : d < 3 * T.length) (e : ukey T c = ukey T d) : c = d ∨ opp T (c : Nat) = (d : Int) := by
  unfold ukey at e
  simp only [Prod.mk.injEq] at e
  have h : (vt T (nxn c : Nat) = vt T (nxn d : Nat) ∧ vt T (pvn c : Nat) = vt T (pvn d : Nat)) ∨ (vt T (nxn c : Nat) = vt T (pvn d : Nat) ∧ vt T (pvn c : Nat) = vt T (nxn d : Nat)) := by omega
  rcases h with h | h
  · exact .inl (hs.edge_c hc hd (by rw [edgeAt_nat, edgeAt_nat, h.1, h.2]))
  · right
    have h0 : 0 ≤ opp T (c : Nat) := by
      rw [opp_nat]
      exact facing_of hd (by rw [edgeAt_nat, h.1, h.2])
    obtain ⟨o, o1, o2, -, o4, o5⟩ := hs.opp_opp hc h0
    rw [o1]
    have := hs.edge_c o2 hd (by rw [edgeAt_nat, edgeAt_nat, o4, o5, h.1, h.2])
    omega
/-- A list of all edges, each once, is as long. -/
theorem keys_len (hs : Surf n T) {D : List (Int × Int)} (hn : D.Nodup) (hD : ∀ e, e ∈ D ↔ ∃ c, c < 3 * T.length ∧ e = ukey T c) : D.length = eAll T := by
  obtain ⟨A, hA⟩ : ∃ A, A = (List.range (3 * T.length)).filter fun x : Nat => decide (opp T (x : Nat) < (x : Nat)) := ⟨_, rfl⟩
  have mA : ∀ x, x ∈ A ↔ x < 3 * T.length ∧ opp T (x : Nat) < (x : Nat) := fun x => by rw [hA]; simp
  have he : eAll T = A.length := by rw [hA]; rfl
  have nA : A.Nodup := by rw [hA]; exact nodup_rf _ _
  have l1 := sub_len (A.map (ukey T)) D (nodup_on (fun a ha b hb e => by
    obtain ⟨a1, a2⟩ := (mA a).1 ha
    obtain ⟨b1, b2⟩ := (mA b).1 hb
    rcases ukey_same hs a1 b1 e with h | h
    · exact h
    · have := ukey_same hs b1 a1 e.symm
      rcases this with h' | h'
      · exact h'.symm
      · omega) nA) (fun e he => by
    obtain ⟨c, hc, rfl⟩ := List.mem_map.1 he
    exact (hD _).2 ⟨c, ((mA c).1 hc).1, rfl⟩)
  have l2 := sub_len D (A.map (ukey T)) hn (fun e he => by
    obtain ⟨c, hc, rfl⟩ := (hD e).1 he
    by_cases h : opp T (c : Nat) < (c : Nat)
    · exact List.mem_map.2 ⟨c, (mA c).2 ⟨hc, h⟩, rfl⟩
    · obtain ⟨o, o1, o2, o3, o4, o5⟩ := hs.opp_opp hc (by omega)
      have hne : o ≠ c := fun e => by
        subst e
        exact ends_ne hs hc o4
      refine List.mem_map.2 ⟨o, (mA o).2 ⟨o2, by omega⟩, ?_⟩
      unfold ukey
      rw [o4, o5]
      simp only [Prod.mk.injEq]
      omega)
  rw [List.length_map] at l1 l2
  omega
end
end Go.Proofs.YtkjamheoihlekaaGreat

/- Sort, Compact and Clone of an owned row of numbers; the numbers that are there, rising. What the parts of a surface are, in plain words. Parts of a surface, surfaces side by side: plain Lean (lines of PartRef, JoinSpec, JoinBack, Sub, Beside). -/
import Derived.Test.YtbeefabboabfgaaGreatRowFam
import Derived.Test.YtbeefabboabfgaaGreatSurfDef
import Derived.Test.YtbeefabboabfgaaGreatButLaw
import Derived.Test.YtbeefabboabfgaaGreatShellG
import Derived.Test.YtbeefabboabfgaaGreatTogether
namespace Go.Proofs.YtbeefabboabfgaaGreat
set_option linter.unusedVariables false
set_option linter.unusedSimpArgs false
open Go.RowKit Go.Sort
open Go.RowKit
theorem upto_law (zs : List Int) (hs : zs.Pairwise (· ≤ ·)) : ∀ m, m ≤ zs.length →
    (Lib.compactUpTo zs.toArray m).Pairwise (· < ·) ∧ ∀ x, x ∈ Lib.compactUpTo zs.toArray m ↔ ∃ j, ∃ h : j < zs.length, j < m ∧ zs[j] = x := by
  have hle : ∀ i j (hi : i < zs.length) (hj : j < zs.length), i ≤ j → zs[i] ≤ zs[j] := fun i j hi hj h => by
    by_cases e : i = j
    · subst e; exact Int.le_refl _
    · exact List.pairwise_iff_getElem.1 hs i j hi hj (by omega)
  intro m
  induction m with
  | zero => intro _; exact ⟨by simp [Lib.compactUpTo], fun x => ⟨fun h => by simp [Lib.compactUpTo] at h, fun ⟨j, _, h, _⟩ => by omega⟩⟩
  | succ m ih =>
    intro hm
    obtain ⟨h1, h2⟩ := ih (by omega)
    have hml : m < zs.length := by omega
    have hd : zs.toArray[m]! = zs[m] := by simp [getElem!_pos, hml]
    rw [Lib.compactUpTo_succ]
    cases hk : Lib.keeps zs.toArray m with
    | true =>
      simp only [if_true, hd]
      have hlt : ∀ x ∈ Lib.compactUpTo zs.toArray m, x < zs[m] := by
        intro x hx
        obtain ⟨j, hj, hjm, rfl⟩ := (h2 x).1 hx
        have hm0 : 0 < m := by omega
        have hne : zs[m] ≠ zs[m - 1] := by
          intro e
          have := hk
          simp [Lib.keeps, getElem!_pos, hml, show m - 1 < zs.length by omega, e] at this
          omega
        have q1 := hle j (m - 1) hj (by omega) (by omega)
        have q2 := hle (m - 1) m (by omega) hml (by omega)
        omega
      refine ⟨List.pairwise_append.2 ⟨h1, by simp, fun a ha b hb => by simp at hb; subst hb; exact hlt a ha⟩, fun x => ?_⟩
      rw [List.mem_append, h2]
      constructor
      · rintro (⟨j, hj, hjm, e⟩ | hx)
        · exact ⟨j, hj, by omega, e⟩
        · simp at hx; exact ⟨m, hml, by omega, hx.symm⟩
      · rintro ⟨j, hj, hjm, e⟩
        by_cases q : j = m
        · subst q; right; simp [e]
        · exact .inl ⟨j, hj, by omega, e⟩
    | false =>
      simp only [Bool.false_eq_true, if_false, List.append_nil]
      refine ⟨h1, fun x => ?_⟩
      rw [h2]
      constructor
      · rintro ⟨j, hj, hjm, e⟩; exact ⟨j, hj, by omega, e⟩
      · rintro ⟨j, hj, hjm, e⟩
        by_cases q : j = m
        · subst q
          have h := hk
          have hj0 : j ≠ 0 := by rintro rfl; simp [Lib.keeps] at h
          refine ⟨j - 1, by omega, by omega, ?_⟩
          simp [Lib.keeps, getElem!_pos, hj, show j - 1 < zs.length by omega] at h
          first | exact h.2.symm.trans e | (rw [← e]; first | exact h.2 | exact h.2.symm | omega)
        · exact ⟨j, hj, by omega, e⟩
/-- The numbers that are there, rising, each once. -/
def uniq (zs : List Int) : List Int := Lib.compact (zs.mergeSort fun x y => decide (x ≤ y))
theorem sorted_le (zs : List Int) : (zs.mergeSort fun x y => decide (x ≤ y)).Pairwise (· ≤ ·) := by
  have := List.pairwise_mergeSort (le := fun x y : Int => decide (x ≤ y)) (fun a b c => by simp; omega) (fun a b => by simp; omega) zs
  simpa using this
theorem uniq_lt (zs : List Int) : (uniq zs).Pairwise (· < ·) := (upto_law _ (sorted_le zs) _ (Nat.le_refl _)).1
theorem uniq_mem (zs : List Int) (x : Int) : x ∈ uniq zs ↔ x ∈ zs := by
  unfold uniq Lib.compact
  rw [(upto_law _ (sorted_le zs) _ (Nat.le_refl _)).2]
  constructor
  · rintro ⟨j, hj, _, rfl⟩
    exact (List.mergeSort_perm zs _).subset (List.getElem_mem hj)
  · intro h
    obtain ⟨j, hj, e⟩ := List.getElem_of_mem ((List.mergeSort_perm zs fun x y => decide (x ≤ y)).symm.subset h)
    exact ⟨j, hj, hj, e⟩
theorem uniq_length (zs : List Int) : (uniq zs).length ≤ zs.length := by
  have := Lib.compact_length_le (zs.mergeSort fun x y => decide (x ≤ y))
  rwa [List.length_mergeSort] at this
theorem grown_trans {a b c : World} {row : Option Nat} (h : a.grownBy b row) (k : b.grownBy c row) : a.grownBy c row :=
  ⟨k.os.trans h.os, k.tape.trans h.tape, k.output.trans h.output, Nat.le_trans h.size k.size, fun i hi hne => (k.block i (Nat.lt_of_lt_of_le hi h.size) hne).trans (h.block i hi hne)⟩
theorem grown_setCells (b : Nat) : ∀ (vs : List Value) (o : Nat) (w : World), w.grownBy (w.setCells b o vs) (some b)
  | [], _, w => ⟨rfl, rfl, rfl, Nat.le_refl _, fun _ _ _ => rfl⟩
  | v :: vs, o, w => grown_trans (grown_set w b o v) (grown_setCells b vs (o + 1) _)
/-- slices.Sort of an owned row. -/
theorem sort_own {w : World} {base n : Nat} {v : Value} {zs : List Int} (h : w.ownsRow base 3 1 v n (zs.map (Value.int .i64))) (hn : n = zs.length) (h0 : 0 < n) (hl : n ≤ 100000) :
    Calls Tryz.prog 58 #[v] w fun r w' => r = .returned (.tuple #[]) ∧ w'.ownsRow base 3 1 v n ((zs.mergeSort fun x y => decide (x ≤ y)).map (Value.int .i64)) ∧ w.grownBy w' v.ownBlock := by
  obtain ⟨h1, h2⟩ := h
  rcases h2 with ⟨_, h2⟩ | ⟨g, cap, cur, rfl, hg, hh, hc, hm, hs, ht⟩
  · omega
  · subst hn
    rw [Nat.mul_one] at ht
    refine (Tryz.slices_Sort_int g 0 cap zs w (holds_of_blockI hh ht) (Array.getElem?_eq_some_iff.1 hh).1 (by first | omega | (simp; omega) | (simp at hl ⊢; omega))).mono ?_
    rintro r w' ⟨rfl, q, os, rfl⟩
    refine ⟨rfl, ⟨by simp [List.length_mergeSort], .inr ⟨g, cap, _, rfl, hg, heap_sortedI _ hh, hc, hm, ?_, ?_⟩⟩, grownBy_sortedI _⟩
    · simpa [putCells, Array.size_mapIdx] using hs
    · have h3 := take_putCellsI cur (zs.mergeSort fun x y => decide (x ≤ y)) (by rw [List.length_mergeSort]; omega)
      rw [List.length_mergeSort] at h3
      rw [Nat.mul_one]
      exact h3
/-- slices.Compact of an owned row. -/
theorem compact_own {w : World} {base n : Nat} {v : Value} {zs : List Int} (h : w.ownsRow base 3 1 v n (zs.map (Value.int .i64))) (hn : n = zs.length) (h0 : 0 < n) :
    Calls Tryz.prog 60 #[v] w fun r w' => ∃ g cap, r = .returned (.slice (some ⟨g, 0, none⟩) (Lib.compact zs).length cap) ∧ (∀ j, j < (Lib.compact zs).length → w'.cell? ⟨g, 0 + j, none⟩ = some (.int .i64 ((Lib.compact zs).getD j 0))) ∧ w.grownBy w' v.ownBlock := by
  obtain ⟨g, cap, rfl, hg, hlt, hc, hm, hcell, hfr⟩ := owns_block h h0
  subst hn
  refine (Tryz.slices_Compact_int_cells g 0 zs.length cap zs w (Nat.le_refl _) (by unfold maxLen at hm; omega) hc ?_ fun j _ => hfr _).mono ?_
  · intro j hj
    rw [Nat.zero_add]
    refine hcell j _ ?_
    simp [List.getD_eq_getElem?_getD, List.getElem?_eq_getElem hj, hj]
  · rintro r w' ⟨rfl, q, rfl⟩
    have hle := Lib.compact_length_le zs
    rw [List.take_length]
    refine ⟨g, cap, rfl, fun j hj => ?_, ?_⟩
    · rw [World.cell?_setCells_in g _ 0 (w.drewN q) (fun t ht => ?_) j (by simp; omega)]
      · simp [List.getElem_append_left, hj, List.getD_eq_getElem?_getD]
      · simp at ht
        have ht' : t < zs.length := by omega
        have := hcell t (.int .i64 zs[t]) (by simp [ht'])
        rw [Nat.zero_add]
        show (w.cell? ⟨g, t, none⟩).isSome = true
        rw [this]; rfl
    · exact grown_trans (row := some g) (show w.grownBy (w.drewN q) (some g) from ⟨rfl, rfl, rfl, Nat.le_refl _, fun _ _ _ => rfl⟩) (grown_setCells g _ 0 (w.drewN q))
/-- A part, by value. -/
structure PartV where
  N : Int
  S : List Tr
  V : List Int
  T : List Int
/-- The triangles of shell k. -/
def ofShell (L : Nat → Int) (n k : Nat) : List Nat := (List.range n).filter fun i => decide (L i = k)
def corners3 (t : Tr) : List Int := [t.1, t.2.1, t.2.2]
/-- The vertices of some triangles, rising. -/
def vertsP (T : List Tr) (E : List Nat) : List Int := uniq (E.flatMap fun i => corners3 (T! T i))
/-- So many are less. -/
def rank (V : List Int) (x : Int) : Int := ((V.countP (· < x) : Nat) : Int)
def ranked (V : List Int) (t : Tr) : Tr := (rank V t.1, rank V t.2.1, rank V t.2.2)
def partOf (T : List Tr) (L : Nat → Int) (n k : Nat) : PartV :=
  ⟨(vertsP T (ofShell L n k)).length, (ofShell L n k).map fun i => ranked (vertsP T (ofShell L n k)) (T! T i), vertsP T (ofShell L n k), (ofShell L n k).map fun (i : Nat) => (i : Int)⟩
theorem ofShell_lt {L : Nat → Int} {n k i : Nat} (h : i ∈ ofShell L n k) : i < n ∧ L i = k := by
  simp only [ofShell, List.mem_filter, List.mem_range, decide_eq_true_eq] at h
  exact h
theorem ofShell_length (L : Nat → Int) (n k : Nat) : (ofShell L n k).length ≤ n := by
  have := List.length_filter_le (fun i => decide (L i = (k : Int))) (List.range n)
  simpa [ofShell] using this
theorem ofShell_succ (L : Nat → Int) (i k : Nat) : ofShell L (i + 1) k = if L i = k then ofShell L i k ++ [i] else ofShell L i k := by
  unfold ofShell
  rw [List.range_succ, List.filter_append]
  by_cases h : L i = k <;> simp [h]
def Off (ao : Option Addr) (gp : Nat) : Prop := ∀ a, ao = some a → a.block ≠ gp
/-- A row of four cells is a part. -/
def PartOk (w : World) (gp : Nat) (r : Nat → Value) (P : PartV) : Prop :=
  ∃ aoS cS aoV cV aoT cT, r 0 = .int .i64 P.N ∧ r 1 = .slice aoS P.S.length cS ∧ r 2 = .slice aoV P.V.length cV ∧ r 3 = .slice aoT P.T.length cT ∧
    TrisAt w aoS P.S ∧ IntsAt w aoV P.V ∧ IntsAt w aoT P.T ∧ Off aoS gp ∧ Off aoV gp ∧ Off aoT gp
theorem TrisAt.but {w w' : World} {ao : Option Addr} {T : List Tr} {B g : Nat} (h : TrisAt w ao T) (hB : w.heap.size ≤ B) (hb : But B g w w') (ho : Off ao g) : TrisAt w' ao T := by
  intro hT
  obtain ⟨b, off, rfl, hlt, hc⟩ := h hT
  have hne : b ≠ g := ho _ rfl
  refine ⟨b, off, rfl, by have := hb.size; omega, fun i hi => ?_⟩
  obtain ⟨h0, h1, h2⟩ := hc i hi
  exact ⟨(hb.cell (by omega) hne).trans h0, (hb.cell (by omega) hne).trans h1, (hb.cell (by omega) hne).trans h2⟩
theorem IntsAt.but {w w' : World} {ao : Option Addr} {xs : List Int} {B g : Nat} (h : IntsAt w ao xs) (hB : w.heap.size ≤ B) (hb : But B g w w') (ho : Off ao g) : IntsAt w' ao xs := by
  intro hx
  obtain ⟨b, off, rfl, hlt, hc⟩ := h hx
  have hne : b ≠ g := ho _ rfl
  exact ⟨b, off, rfl, by have := hb.size; omega, fun i hi => (hb.cell (by omega) hne).trans (hc i hi)⟩
theorem PartOk.but {w w' : World} {gp : Nat} {r : Nat → Value} {P : PartV} {B : Nat} (h : PartOk w gp r P) (hB : w.heap.size ≤ B) (hb : But B gp w w') : PartOk w' gp r P := by
  obtain ⟨aoS, cS, aoV, cV, aoT, cT, h0, h1, h2, h3, h4, h5, h6, h7, h8, h9⟩ := h
  exact ⟨aoS, cS, aoV, cV, aoT, cT, h0, h1, h2, h3, h4.but hB hb h7, h5.but hB hb h8, h6.but hB hb h9, h7, h8, h9⟩
/-- What is owned from a base on lies apart from an elder block, and reads. -/
theorem owns_ints {w : World} {base gp n : Nat} {v : Value} {xs : List Int} (h : w.ownsRow base 3 1 v n (xs.map (Value.int .i64))) (hn : n = xs.length) (hg : gp < base) : ∃ ao cap, v = .slice ao n cap ∧ IntsAt w ao xs ∧ Off ao gp := by
  by_cases h0 : 0 < n
  · obtain ⟨g, cap, rfl, hb, hlt, hc, hm, hcell, hfr⟩ := owns_block h h0
    refine ⟨_, cap, rfl, fun _ => ⟨g, 0, rfl, hlt, fun i hi => ?_⟩, fun a e => by cases e; show g ≠ gp; omega⟩
    rw [Nat.zero_add]
    refine hcell i _ ?_
    rw [List.getElem?_map, I!_get hi]
    rfl
  · obtain ⟨ao, cap, rfl⟩ := owns_slice h
    have hx : xs = [] := List.eq_nil_of_length_eq_zero (by omega)
    refine ⟨ao, cap, rfl, fun e => absurd hx e, fun a e => ?_⟩
    subst e
    have := (h.lt a.block rfl).1
    omega
theorem owns_tri_off {w : World} {base gp : Nat} {T : List Tr} {ao : Option Addr} {n cap : Nat} {xs : List Value} {e : TypeId} {sz : Nat} (h : w.ownsRow base e sz (.slice ao n cap) n xs) (hg : gp < base) : Off ao gp := by
  intro a e
  subst e
  have := (h.lt a.block rfl).1
  omega
/-- Rising lists of the same numbers are the same. -/
theorem sorted_ext : ∀ {A B : List Int}, A.Pairwise (· < ·) → B.Pairwise (· < ·) → (∀ x, x ∈ A ↔ x ∈ B) → A = B
  | [], [], _, _, _ => rfl
  | [], b :: B, _, _, h => by have := (h b).2 (by simp); simp at this
  | a :: A, [], _, _, h => by have := (h a).1 (by simp); simp at this
  | a :: A, b :: B, hA, hB, h => by
    rw [List.pairwise_cons] at hA hB
    have h1 := (h a).1 (by simp)
    have h2 := (h b).2 (by simp)
    have hab : a = b := by
      rw [List.mem_cons] at h1 h2
      rcases h1 with h1 | h1
      · exact h1
      · rcases h2 with h2 | h2
        · exact h2.symm
        · have q1 := hB.1 a h1
          have q2 := hA.1 b h2
          omega
    subst hab
    congr 1
    refine sorted_ext hA.2 hB.2 fun x => ⟨fun hx => ?_, fun hx => ?_⟩
    · have := (h x).1 (List.mem_cons_of_mem _ hx)
      rw [List.mem_cons] at this
      rcases this with rfl | this
      · have := hA.1 x hx; omega
      · exact this
    · have := (h x).2 (List.mem_cons_of_mem _ hx)
      rw [List.mem_cons] at this
      rcases this with rfl | this
      · have := hB.1 x hx; omega
      · exact this
theorem corners3_mem {t : Tr} {x : Int} : x ∈ corners3 t ↔ hasB t x = true := by
  simp only [corners3, List.mem_cons, List.not_mem_nil, or_false, hasB, Bool.or_eq_true, beq_iff_eq]
  constructor
  · rintro (h | h | h)
    · exact .inl (.inl h.symm)
    · exact .inl (.inr h.symm)
    · exact .inr h.symm
  · rintro ((h | h) | h)
    · exact .inl h.symm
    · exact .inr (.inl h.symm)
    · exact .inr (.inr h.symm)
theorem vertsOf_mem {T : List Tr} {L : Nat → Int} {n k : Nat} {x : Int} : x ∈ vertsP T (ofShell L n k) ↔ ∃ i, i < n ∧ L i = k ∧ hasB (T! T i) x = true := by
  unfold vertsP
  rw [uniq_mem, List.mem_flatMap]
  constructor
  · rintro ⟨i, hi, hx⟩
    have := ofShell_lt hi
    exact ⟨i, this.1, this.2, corners3_mem.1 hx⟩
  · rintro ⟨i, hi, hL, hx⟩
    exact ⟨i, by simp [ofShell, hi, hL], corners3_mem.2 hx⟩
theorem mem_I {xs : List Int} {x : Int} : x ∈ xs ↔ ∃ i, i < xs.length ∧ I! xs i = x := by
  constructor
  · intro h
    obtain ⟨i, hi, e⟩ := List.getElem_of_mem h
    exact ⟨i, hi, by simp [I!, List.getD_eq_getElem?_getD, List.getElem?_eq_getElem hi, e]⟩
  · rintro ⟨i, hi, e⟩
    have := I!_get hi
    rw [e] at this
    exact List.mem_of_getElem? this
theorem verts_mem {T : List Tr} {E : List Nat} {v : Int} : v ∈ vertsP T E ↔ ∃ i, i ∈ E ∧ hasB (T! T i) v = true := by
  unfold vertsP
  rw [uniq_mem]
  simp only [List.mem_flatMap]
  constructor
  · rintro ⟨i, hi, h⟩
    refine ⟨i, hi, ?_⟩
    simp only [corners3, List.mem_cons, List.not_mem_nil, or_false] at h
    unfold hasB
    rcases h with h | h | h <;> simp [h]
  · rintro ⟨i, hi, h⟩
    refine ⟨i, hi, ?_⟩
    unfold hasB at h
    simp only [Bool.or_eq_true, beq_iff_eq] at h
    simp only [corners3, List.mem_cons, List.not_mem_nil, or_false]
    rcases h with (h | h) | h <;> simp [h]
/-- The place of a number in a rising list is how many are less. -/
theorem rank_at : ∀ {V : List Int}, V.Pairwise (· < ·) → ∀ {x : Int}, x ∈ V → rank V x < V.length ∧ I! V (rank V x).toNat = x := by
  intro V hV
  induction V with
  | nil => intro x hx; cases hx
  | cons a V ih =>
    intro x hx
    rw [List.pairwise_cons] at hV
    rcases List.mem_cons.1 hx with rfl | hx
    · have h0 : (x :: V).countP (· < x) = 0 := by
        rw [List.countP_eq_zero]
        intro y hy
        rcases List.mem_cons.1 hy with rfl | hy
        · simp
        · have := hV.1 y hy; simp; omega
      have hr : rank (x :: V) x = 0 := by unfold rank; rw [h0]; rfl
      rw [hr]
      exact ⟨by simp, rfl⟩
    · have hax := hV.1 x hx
      have hr : rank (a :: V) x = rank V x + 1 := by
        unfold rank
        rw [List.countP_cons]
        simp [hax]
      obtain ⟨h1, h2⟩ := ih hV.2 hx
      have h3 : 0 ≤ rank V x := by unfold rank; omega
      refine ⟨by rw [hr]; simp; omega, ?_⟩
      rw [hr, show (rank V x + 1).toNat = (rank V x).toNat + 1 by omega]
      exact h2
theorem rank_nonneg (V : List Int) (x : Int) : 0 ≤ rank V x := by unfold rank; omega
section
variable {N : Int} {T : List Tr} {L : Nat → Int} {m : Nat}
theorem mem_ofShell {n k i : Nat} : i ∈ ofShell L n k ↔ i < n ∧ L i = k := by
  simp only [ofShell, List.mem_filter, List.mem_range, decide_eq_true_eq]
theorem shell_of (hL : IsShells (Adj T) T.length L) (hm : (m : Int) = cnt L T.length) {i : Nat} (hi : i < T.length) : ∃ k, k < m ∧ L i = (k : Int) := by
  have h1 := cnt_lt L T.length i hi
  have h2 := hL.nonneg i hi
  exact ⟨(L i).toNat, by omega, by omega⟩
end
/-- Triangles of a list, their vertices numbered anew. -/
def subS (T : List Tr) (E : List Nat) : List Tr := E.map fun i => ranked (vertsP T E) (T! T i)
theorem subS_length (T : List Tr) (E : List Nat) : (subS T E).length = E.length := by simp [subS]
theorem tg_ranked (V : List Int) (t : Tr) (j : Nat) : tg (ranked V t) j = rank V (tg t j) := by
  match j with
  | 0 => rfl
  | 1 => rfl
  | _ + 2 => rfl
theorem subS_get (T : List Tr) {E : List Nat} {i e : Nat} (h : E[i]? = some e) : T! (subS T E) i = ranked (vertsP T E) (T! T e) := by
  simp [T!, subS, List.getD_eq_getElem?_getD, h]
theorem verts_sorted (T : List Tr) (E : List Nat) : (vertsP T E).Pairwise (· < ·) := uniq_lt _
theorem verts_tg {T : List Tr} {E : List Nat} {i e : Nat} (h : E[i]? = some e) (j : Nat) : tg (T! T e) j ∈ vertsP T E := verts_mem.2 ⟨e, List.mem_of_getElem? h, by
  unfold hasB tg
  match j with
  | 0 => simp
  | 1 => simp
  | _ + 2 => simp⟩
theorem sorted_ge {V : List Int} (hV : V.Pairwise (· < ·)) (h0 : ∀ x, x ∈ V → 0 ≤ x) : ∀ i (h : i < V.length), (i : Int) ≤ V[i]
  | 0, h => h0 _ (List.getElem_mem h)
  | i + 1, h => by
    have := sorted_ge hV h0 i (by omega)
    have := List.pairwise_iff_getElem.1 hV i (i + 1) (by omega) h (by omega)
    omega
theorem sorted_len {V : List Int} (hV : V.Pairwise (· < ·)) {n : Int} (hn : 0 ≤ n) (h0 : ∀ x, x ∈ V → 0 ≤ x ∧ x < n) : (V.length : Int) ≤ n := by
  by_cases e : V.length = 0
  · omega
  · have h1 := sorted_ge hV (fun x hx => (h0 x hx).1) (V.length - 1) (by omega)
    have h2 := (h0 _ (List.getElem_mem (show V.length - 1 < V.length by omega))).2
    omega
theorem sorted_inj {E : List Nat} (hE : E.Pairwise (· < ·)) {p q a : Nat} (hp : E[p]? = some a) (hq : E[q]? = some a) : p = q := by
  obtain ⟨u1, u2⟩ := List.getElem?_eq_some_iff.1 hp
  obtain ⟨u3, u4⟩ := List.getElem?_eq_some_iff.1 hq
  rcases Nat.lt_trichotomy p q with h | h | h
  · have := List.pairwise_iff_getElem.1 hE p q u1 u3 h; omega
  · exact h
  · have := List.pairwise_iff_getElem.1 hE q p u3 u1 h; omega
theorem rank_inj {V : List Int} (hV : V.Pairwise (· < ·)) {x y : Int} (hx : x ∈ V) (hy : y ∈ V) (h : rank V x = rank V y) : x = y := by
  rw [← (rank_at hV hx).2, ← (rank_at hV hy).2, h]
theorem rank_beq {V : List Int} (hV : V.Pairwise (· < ·)) {x y : Int} (hx : x ∈ V) (hy : y ∈ V) : (rank V x == rank V y) = (x == y) := by
  by_cases h : x = y
  · subst h; simp
  · have : rank V x ≠ rank V y := fun e => h (rank_inj hV hx hy e)
    rw [beq_eq_false_iff_ne.2 h, beq_eq_false_iff_ne.2 this]
theorem rank_get {V : List Int} (hV : V.Pairwise (· < ·)) {i : Nat} (h : i < V.length) : rank V (I! V i) = i := by
  have hm : I! V i ∈ V := mem_I.2 ⟨i, h, rfl⟩
  obtain ⟨h1, h2⟩ := rank_at hV hm
  have h0 := rank_nonneg V (I! V i)
  obtain ⟨r, hr⟩ := Int.eq_ofNat_of_zero_le h0
  rw [hr] at h1 h2
  have hlt : r < V.length := by omega
  simp only [Int.toNat_natCast] at h2
  have e1 : I! V r = V[r] := by simp [I!, List.getD_eq_getElem?_getD, List.getElem?_eq_getElem hlt]
  have e2 : I! V i = V[i] := by simp [I!, List.getD_eq_getElem?_getD, List.getElem?_eq_getElem h]
  rw [e1, e2] at h2
  rw [hr]
  have hp := List.pairwise_iff_getElem.1 hV
  rcases Nat.lt_trichotomy r i with q | q | q
  · have := hp r i hlt h q; omega
  · rw [q]
  · have := hp i r h hlt q; omega
section
variable {T : List Tr} {E : List Nat}
theorem sub_tg_iff {i j e f : Nat} (hi : E[i]? = some e) (hj : E[j]? = some f) (p q : Nat) : tg (T! (subS T E) i) p = tg (T! (subS T E) j) q ↔ tg (T! T e) p = tg (T! T f) q := by
  rw [subS_get T hi, subS_get T hj, tg_ranked, tg_ranked]
  exact ⟨rank_inj (verts_sorted T E) (verts_tg hi p) (verts_tg hj q), fun h => by rw [h]⟩
theorem sub_tri {i e : Nat} (hi : E[i]? = some e) : ∃ x y z : Int, T! T e = (x, y, z) ∧ x ∈ vertsP T E ∧ y ∈ vertsP T E ∧ z ∈ vertsP T E ∧ T! (subS T E) i = (rank (vertsP T E) x, rank (vertsP T E) y, rank (vertsP T E) z) :=
  ⟨_, _, _, rfl, verts_tg hi 0, verts_tg hi 1, verts_tg hi 2, subS_get T hi⟩
theorem sub_hasB {i e : Nat} (hi : E[i]? = some e) {x : Int} (hx : x ∈ vertsP T E) : hasB (T! (subS T E) i) (rank (vertsP T E) x) = hasB (T! T e) x := by
  obtain ⟨a, b, c, e1, ha, hb, hc, e2⟩ := sub_tri hi
  rw [e1, e2]
  unfold hasB
  simp only
  rw [rank_beq (verts_sorted T E) ha hx, rank_beq (verts_sorted T E) hb hx, rank_beq (verts_sorted T E) hc hx]
theorem sub_edgeB {i e : Nat} (hi : E[i]? = some e) {x y : Int} (hx : x ∈ vertsP T E) (hy : y ∈ vertsP T E) : edgeB (T! (subS T E) i) (rank (vertsP T E) x) (rank (vertsP T E) y) = edgeB (T! T e) x y := by
  obtain ⟨a, b, c, e1, ha, hb, hc, e2⟩ := sub_tri hi
  rw [e1, e2]
  unfold edgeB
  simp only
  rw [rank_beq (verts_sorted T E) ha hx, rank_beq (verts_sorted T E) hb hy, rank_beq (verts_sorted T E) hb hx, rank_beq (verts_sorted T E) hc hy, rank_beq (verts_sorted T E) hc hx, rank_beq (verts_sorted T E) ha hy]
theorem sub_loopB {i e : Nat} (hi : E[i]? = some e) : loopB (T! (subS T E) i) = loopB (T! T e) := by
  obtain ⟨a, b, c, e1, ha, hb, hc, e2⟩ := sub_tri hi
  rw [e1, e2]
  unfold loopB
  simp only
  rw [rank_beq (verts_sorted T E) ha hb, rank_beq (verts_sorted T E) hb hc, rank_beq (verts_sorted T E) hc ha]
theorem sub_twB {i j e f : Nat} (hi : E[i]? = some e) (hj : E[j]? = some f) : twB (T! (subS T E) i) (T! (subS T E) j) = twB (T! T e) (T! T f) := by
  obtain ⟨a, b, c, e1, ha, hb, hc, e2⟩ := sub_tri hi
  rw [e1, e2]
  unfold twB
  simp only
  rw [sub_edgeB hj ha hb, sub_edgeB hj hb hc, sub_edgeB hj hc ha]
theorem sub_mirB {i j e f : Nat} (hi : E[i]? = some e) (hj : E[j]? = some f) : mirB (T! (subS T E) i) (T! (subS T E) j) = mirB (T! T e) (T! T f) := by
  obtain ⟨a, b, c, e1, ha, hb, hc, e2⟩ := sub_tri hi
  rw [e1, e2]
  unfold mirB
  simp only
  rw [sub_hasB hj ha, sub_hasB hj hb, sub_hasB hj hc]
theorem sub_nbB {i j e f : Nat} (hi : E[i]? = some e) (hj : E[j]? = some f) : nbB (T! (subS T E) i) (T! (subS T E) j) = true ↔ nbB (T! T e) (T! T f) = true := by
  rw [nbB_iff, nbB_iff]
  constructor
  · rintro ⟨p, q, hp, hq, h1, h2⟩
    exact ⟨p, q, hp, hq, (sub_tg_iff hi hj _ _).1 h1, (sub_tg_iff hi hj _ _).1 h2⟩
  · rintro ⟨p, q, hp, hq, h1, h2⟩
    exact ⟨p, q, hp, hq, (sub_tg_iff hi hj _ _).2 h1, (sub_tg_iff hi hj _ _).2 h2⟩
theorem sub_get? {i : Nat} (h : i < (subS T E).length) : ∃ e, E[i]? = some e := ⟨_, List.getElem?_eq_getElem (by rw [subS_length] at h; exact h)⟩
theorem sub_lt {i e : Nat} (h : E[i]? = some e) : i < (subS T E).length := by
  rw [subS_length]
  exact (List.getElem?_eq_some_iff.1 h).1
/-- All but the triangles round a vertex: a list of triangles of a surface is a surface. -/
theorem sub_surf {N : Int} (hs : Surf N T) (hE : E.Pairwise (· < ·)) (hlt : ∀ e, e ∈ E → e < T.length) (hpin : ∀ v, 0 ≤ v → v < ((vertsP T E).length : Int) → Unpinched (subS T E) v) : Surf ((vertsP T E).length : Nat) (subS T E) := by
  have mem : ∀ {i e : Nat}, E[i]? = some e → e < T.length := fun h => hlt _ (List.mem_of_getElem? h)
  have lenE : E.length ≤ T.length := by
    have h1 : (E.map fun (e : Nat) => (e : Int)).Pairwise (· < ·) := List.pairwise_map.2 (hE.imp fun h => by omega)
    have := sorted_len h1 (n := T.length) (by omega) fun x hx => by
      simp only [List.mem_map] at hx
      obtain ⟨e, he, rfl⟩ := hx
      have := hlt e he
      omega
    simp at this
    omega
  have lenV : ((vertsP T E).length : Int) ≤ N := sorted_len (verts_sorted T E) hs.n0 fun x hx => by
    obtain ⟨e, he, hh⟩ := verts_mem.1 hx
    obtain ⟨j, ej⟩ := hasB_tg hh
    rw [← ej]
    exact hs.vin e (hlt e he) j
  refine ⟨by omega, by have := hs.n1; omega, by rw [subS_length]; have := hs.t1; omega, fun i hi j => ?_, fun i hi => ?_, fun b a hb hab => ?_, fun b a hb hab => ?_, fun v h0 h1 => ?_, hpin⟩
  · obtain ⟨e, he⟩ := sub_get? hi
    rw [subS_get T he, tg_ranked]
    exact ⟨rank_nonneg _ _, (rank_at (verts_sorted T E) (verts_tg he j)).1⟩
  · obtain ⟨e, he⟩ := sub_get? hi
    rw [sub_loopB he]
    exact hs.noloop e (mem he)
  · obtain ⟨e, he⟩ := sub_get? hb
    obtain ⟨f, hf⟩ := sub_get? (show a < (subS T E).length by omega)
    rw [sub_twB hf he]
    refine hs.tw e f (mem he) ?_
    obtain ⟨q1, q2⟩ := List.getElem?_eq_some_iff.1 he
    obtain ⟨q3, q4⟩ := List.getElem?_eq_some_iff.1 hf
    have := List.pairwise_iff_getElem.1 hE a b q3 q1 hab
    omega
  · obtain ⟨e, he⟩ := sub_get? hb
    obtain ⟨f, hf⟩ := sub_get? (show a < (subS T E).length by omega)
    rw [sub_mirB hf he]
    refine hs.mir e f (mem he) ?_
    obtain ⟨q1, q2⟩ := List.getElem?_eq_some_iff.1 he
    obtain ⟨q3, q4⟩ := List.getElem?_eq_some_iff.1 hf
    have := List.pairwise_iff_getElem.1 hE a b q3 q1 hab
    omega
  · obtain ⟨x, hx⟩ := Int.eq_ofNat_of_zero_le h0
    have hxl : x < (vertsP T E).length := by omega
    have hm : I! (vertsP T E) x ∈ vertsP T E := mem_I.2 ⟨x, hxl, rfl⟩
    obtain ⟨e, he, hh⟩ := verts_mem.1 hm
    obtain ⟨i, hi⟩ := List.mem_iff_getElem?.1 he
    refine ⟨i, sub_lt hi, ?_⟩
    rw [hx, ← rank_get (verts_sorted T E) hxl, sub_hasB hi hm]
    exact hh
end
section
variable {N : Int} {T : List Tr} {L : Nat → Int} {m : Nat}
theorem ofShell_sorted (L : Nat → Int) (n k : Nat) : (ofShell L n k).Pairwise (· < ·) := List.pairwise_lt_range.filter _
/-- A shell's part is a surface. -/
theorem part_surf (hs : Surf N T) (hL : IsShells (Adj T) T.length L) (k : Nat) : Surf ((vertsP T (ofShell L T.length k)).length : Nat) (subS T (ofShell L T.length k)) := by
  refine sub_surf hs (ofShell_sorted _ _ _) (fun e he => (mem_ofShell.1 he).1) fun v h0 h1 => ?_
  obtain ⟨x, hx⟩ := Int.eq_ofNat_of_zero_le h0
  have hxl : x < (vertsP T (ofShell L T.length k)).length := by omega
  have hm : I! (vertsP T (ofShell L T.length k)) x ∈ vertsP T (ofShell L T.length k) := mem_I.2 ⟨x, hxl, rfl⟩
  have hv : v = rank (vertsP T (ofShell L T.length k)) (I! (vertsP T (ofShell L T.length k)) x) := by rw [rank_get (verts_sorted _ _) hxl, hx]
  obtain ⟨y, hy⟩ : ∃ y, y = I! (vertsP T (ofShell L T.length k)) x := ⟨_, rfl⟩
  rw [← hy] at hm hv
  subst hv
  obtain ⟨z, hz, hzh⟩ := verts_mem.1 hm
  have hyN : 0 ≤ y ∧ y < N := by
    obtain ⟨j, ej⟩ := hasB_tg hzh
    rw [← ej]
    exact hs.vin z (mem_ofShell.1 hz).1 j
  have inE : ∀ a, a < T.length → hasB (T! T a) y = true → ∃ p : Nat, (ofShell L T.length k)[p]? = some a := fun a ha hh => by
    have := hs.at_vertex hL ha (mem_ofShell.1 hz).1 hh hzh
    exact List.mem_iff_getElem?.1 (mem_ofShell.2 ⟨ha, this.trans (mem_ofShell.1 hz).2⟩)
  have step : ∀ {a b p q : Nat}, (ofShell L T.length k)[p]? = some a → (ofShell L T.length k)[q]? = some b → PAdj T y a b → PAdj (subS T (ofShell L T.length k)) (rank (vertsP T (ofShell L T.length k)) y) p q := fun {a b p q} hp hq h => by
    obtain ⟨ha, hb, h1, h2, j, hj, hne, h3⟩ := h
    refine ⟨sub_lt hp, sub_lt hq, by rw [sub_hasB hp hm]; exact h1, by rw [sub_hasB hq hm]; exact h2, j, hj, ?_, ?_⟩
    · rw [subS_get T hp, tg_ranked]
      exact fun e => hne (rank_inj (verts_sorted _ _) (verts_tg hp j) hm e)
    · rw [subS_get T hp, tg_ranked, sub_hasB hq (verts_tg hp j)]
      exact h3
  intro i i' hi hi' g1 g2
  obtain ⟨e, he⟩ := sub_get? hi
  obtain ⟨f, hf⟩ := sub_get? hi'
  rw [sub_hasB he hm] at g1
  rw [sub_hasB hf hm] at g2
  have hc := hs.pin y hyN.1 hyN.2 e f (mem_ofShell.1 (List.mem_of_getElem? he)).1 (mem_ofShell.1 (List.mem_of_getElem? hf)).1 g1 g2
  have gen : ∀ a b, Conn (PAdj T y) a b → ∀ p, (ofShell L T.length k)[p]? = some a → ∀ q, (ofShell L T.length k)[q]? = some b → Conn (PAdj (subS T (ofShell L T.length k)) (rank (vertsP T (ofShell L T.length k)) y)) p q := by
    intro a b c
    induction c with
    | refl =>
      intro p hp q hq
      obtain rfl := sorted_inj (ofShell_sorted L T.length k) hp hq
      exact .refl _
    | step _ s ih =>
      intro p hp q hq
      obtain ⟨r, hr⟩ := inE _ s.1 s.2.2.1
      exact (ih p hp r hr).step (step hr hq s)
    | back _ s ih =>
      intro p hp q hq
      obtain ⟨r, hr⟩ := inE _ s.2.1 s.2.2.2.1
      exact (ih p hp r hr).back (step hq hr s)
  exact gen e f hc i he i' hf
theorem has_shell {A : Nat → Nat → Prop} {n : Nat} (hL : IsShells A n L) (hm : (m : Int) = cnt L n) {k : Nat} (hk : k < m) : ∃ i, i < n ∧ L i = (k : Int) := by
  obtain ⟨i, hi, e⟩ := cnt_has L n (by omega)
  by_cases h : L i = (k : Int)
  · exact ⟨i, hi, h⟩
  · obtain ⟨j, hj, e'⟩ := hL.rg i hi k (by omega) (by omega)
    exact ⟨j, by omega, e'⟩
/-- It has one shell. -/
theorem part_one (hs : Surf N T) (hL : IsShells (Adj T) T.length L) (hm : (m : Int) = cnt L T.length) {k : Nat} (hk : k < m) {M : Nat → Int} (hM : IsShells (Adj (subS T (ofShell L T.length k))) (subS T (ofShell L T.length k)).length M) :
    cnt M (subS T (ofShell L T.length k)).length = 1 := by
  have hp := part_surf hs hL k
  have step : ∀ {a b p q : Nat}, (ofShell L T.length k)[p]? = some a → (ofShell L T.length k)[q]? = some b → Adj T a b → Adj (subS T (ofShell L T.length k)) p q := fun {a b p q} hp' hq h => by
    refine hp.nb_adj ⟨sub_lt hp', sub_lt hq, (sub_nbB hp' hq).2 (hs.adj_nb h).2.2⟩
  have inE : ∀ a b, L a = k → Adj T a b → ∃ p : Nat, (ofShell L T.length k)[p]? = some b := fun a b ha h => by
    obtain ⟨h1, h2, _⟩ := hs.adj_nb h
    exact List.mem_iff_getElem?.1 (mem_ofShell.2 ⟨h2, (hL.clo a b h1 h2 h).trans ha⟩)
  have same : ∀ p q a b, (ofShell L T.length k)[p]? = some a → (ofShell L T.length k)[q]? = some b → Conn (Adj T) a b → M p = M q := by
    have gen : ∀ a b, Conn (Adj T) a b → ∀ p, (ofShell L T.length k)[p]? = some a → ∀ q, (ofShell L T.length k)[q]? = some b → M p = M q := by
      intro a b c
      induction c with
      | refl =>
        intro p hp q hq
        obtain rfl := sorted_inj (ofShell_sorted L T.length k) hp hq
        rfl
      | step _ s ih =>
        intro p hp' q hq
        obtain ⟨r, hr⟩ := inE _ _ ((mem_ofShell.1 (List.mem_of_getElem? hq)).2) (hs.adj_symm s)
        exact (ih p hp' r hr).trans (hM.clo r q (sub_lt hr) (sub_lt hq) (step hr hq s)).symm
      | back _ s ih =>
        intro p hp' q hq
        obtain ⟨r, hr⟩ := inE _ _ ((mem_ofShell.1 (List.mem_of_getElem? hq)).2) s
        exact (ih p hp' r hr).trans (hM.clo q r (sub_lt hq) (sub_lt hr) (step hq hr s))
    exact fun p q a b h1 h2 c => gen a b c p h1 q h2
  have all : ∀ p q, p < (subS T (ofShell L T.length k)).length → q < (subS T (ofShell L T.length k)).length → M p = M q := fun p q h1 h2 => by
    obtain ⟨a, ha⟩ := sub_get? h1
    obtain ⟨b, hb⟩ := sub_get? h2
    have ma := mem_ofShell.1 (List.mem_of_getElem? ha)
    have mb := mem_ofShell.1 (List.mem_of_getElem? hb)
    exact same p q a b ha hb (hL.con a b ma.1 mb.1 (ma.2.trans mb.2.symm))
  have zero : ∀ p, p < (subS T (ofShell L T.length k)).length → M p = 0 := fun p h1 => by
    have h0 := hM.nonneg p h1
    by_cases e : M p = 0
    · exact e
    · obtain ⟨j, hj, e'⟩ := hM.rg p h1 0 (by omega) (by omega)
      have := all j p (by omega) h1
      omega
  obtain ⟨i, hi, ei⟩ := has_shell hL hm hk
  obtain ⟨p, hp'⟩ := List.mem_iff_getElem?.1 (mem_ofShell.2 ⟨hi, ei⟩)
  have h1 := cnt_lt M _ p (sub_lt (T := T) hp')
  rw [zero p (sub_lt hp')] at h1
  obtain ⟨q, hq, eq⟩ := cnt_has M (subS T (ofShell L T.length k)).length (by omega)
  rw [zero q hq] at eq
  omega
theorem part_is_sub (k : Nat) : (partOf T L T.length k).S = subS T (ofShell L T.length k) ∧ (partOf T L T.length k).N = ((vertsP T (ofShell L T.length k)).length : Nat) := ⟨rfl, rfl⟩
end
def sh (N : Int) (t : Tr) : Tr := (t.1 + N, t.2.1 + N, t.2.2 + N)
def side (T U : List Tr) (N : Int) : List Tr := T ++ U.map (sh N)
theorem side_length (T U : List Tr) (N : Int) : (side T U N).length = T.length + U.length := by simp [side]
theorem side_left {T : List Tr} (U : List Tr) (N : Int) {i : Nat} (h : i < T.length) : T! (side T U N) i = T! T i := by
  simp [T!, side, List.getD_eq_getElem?_getD, List.getElem?_append_left h]
theorem side_right (T : List Tr) {U : List Tr} (N : Int) {j : Nat} (h : j < U.length) : T! (side T U N) (T.length + j) = sh N (T! U j) := by
  simp [T!, side, List.getD_eq_getElem?_getD, h]
theorem tg_sh (N : Int) (t : Tr) (j : Nat) : tg (sh N t) j = tg t j + N := by
  match j with
  | 0 => rfl
  | 1 => rfl
  | _ + 2 => rfl
theorem hasB_sh (N : Int) (t : Tr) (v : Int) : hasB (sh N t) (v + N) = hasB t v := by
  rw [Bool.eq_iff_iff, hasB_iff, hasB_iff]
  constructor
  · rintro ⟨j, hj, e⟩; rw [tg_sh] at e; exact ⟨j, hj, by omega⟩
  · rintro ⟨j, hj, e⟩; exact ⟨j, hj, by rw [tg_sh]; omega⟩
theorem add_beq (N a b : Int) : ((a + N) == (b + N)) = (a == b) := by
  by_cases h : a = b
  · subst h; simp
  · rw [beq_eq_false_iff_ne.2 h, beq_eq_false_iff_ne.2 (by omega)]
theorem loopB_sh (N : Int) (t : Tr) : loopB (sh N t) = loopB t := by unfold loopB sh; simp only [add_beq]
theorem edgeB_sh (N : Int) (t : Tr) (a b : Int) : edgeB (sh N t) (a + N) (b + N) = edgeB t a b := by unfold edgeB sh; simp only [add_beq]
theorem twB_sh (N : Int) (t u : Tr) : twB (sh N t) (sh N u) = twB t u := by
  unfold twB
  show (edgeB (sh N u) (t.1 + N) (t.2.1 + N) || edgeB (sh N u) (t.2.1 + N) (t.2.2 + N) || edgeB (sh N u) (t.2.2 + N) (t.1 + N)) = _
  rw [edgeB_sh, edgeB_sh, edgeB_sh]
theorem mirB_sh (N : Int) (t u : Tr) : mirB (sh N t) (sh N u) = mirB t u := by
  unfold mirB
  show (hasB (sh N u) (t.1 + N) && hasB (sh N u) (t.2.1 + N) && hasB (sh N u) (t.2.2 + N)) = _
  rw [hasB_sh, hasB_sh, hasB_sh]
theorem nbB_sh (N : Int) (t u : Tr) : nbB (sh N t) (sh N u) = true ↔ nbB t u = true := by
  rw [nbB_iff, nbB_iff]
  constructor
  · rintro ⟨p, q, hp, hq, h1, h2⟩
    rw [tg_sh, tg_sh] at h1 h2
    exact ⟨p, q, hp, hq, by omega, by omega⟩
  · rintro ⟨p, q, hp, hq, h1, h2⟩
    exact ⟨p, q, hp, hq, by rw [tg_sh, tg_sh]; omega, by rw [tg_sh, tg_sh]; omega⟩
theorem edgeB_has {t : Tr} {a b : Int} (h : edgeB t a b = true) : hasB t a = true := by
  unfold edgeB at h
  unfold hasB
  simp only [Bool.or_eq_true, Bool.and_eq_true] at h
  rcases h with (h | h) | h <;> simp [h.1]
section
variable {N1 N2 : Int} {T U : List Tr}
theorem left_has (hs : Surf N1 T) {i : Nat} (hi : i < T.length) {v : Int} (h : hasB (T! T i) v = true) : v < N1 := by
  obtain ⟨j, e⟩ := hasB_tg h
  rw [← e]; exact (hs.vin i hi j).2
theorem right_has (hs : Surf N2 U) {j : Nat} (hj : j < U.length) {v : Int} (h : hasB (sh N1 (T! U j)) v = true) : N1 ≤ v := by
  obtain ⟨k, e⟩ := hasB_tg h
  rw [tg_sh] at e
  have := (hs.vin j hj k).1
  omega
theorem side_cases {i : Nat} (h : i < (side T U N1).length) : (i < T.length) ∨ ∃ j, i = T.length + j ∧ j < U.length := by
  rw [side_length] at h
  by_cases e : i < T.length
  · exact .inl e
  · exact .inr ⟨i - T.length, by omega, by omega⟩
/-- Two surfaces side by side. -/
theorem side_surf (h1 : Surf N1 T) (h2 : Surf N2 U) (hN : N1 + N2 ≤ 4096) (hT : T.length + U.length ≤ 8192) : Surf (N1 + N2) (side T U N1) := by
  have n1 := h1.n0
  have n2 := h2.n0
  refine ⟨by omega, hN, by rw [side_length]; exact hT, fun i hi j => ?_, fun i hi => ?_, fun b a hb hab => ?_, fun b a hb hab => ?_, fun v h0 hv => ?_, fun v h0 hv => ?_⟩
  · rcases side_cases hi with h | ⟨q, rfl, hq⟩
    · rw [side_left U N1 h]
      have := h1.vin i h j
      omega
    · rw [side_right T N1 hq, tg_sh]
      have := h2.vin q hq j
      omega
  · rcases side_cases hi with h | ⟨q, rfl, hq⟩
    · rw [side_left U N1 h]; exact h1.noloop i h
    · rw [side_right T N1 hq, loopB_sh]; exact h2.noloop q hq
  · rcases side_cases hb with h | ⟨q, rfl, hq⟩
    · rw [side_left U N1 h, side_left U N1 (show a < T.length by omega)]
      exact h1.tw b a h hab
    · rcases side_cases (N1 := N1) (U := U) (show a < (side T U N1).length by rw [side_length]; omega) with h | ⟨r, rfl, hr⟩
      · rw [side_right T N1 hq, side_left U N1 h]
        rw [← Bool.not_eq_true]
        intro ht
        unfold twB at ht
        simp only [Bool.or_eq_true] at ht
        have key : ∀ x y, hasB (T! T a) x = true → edgeB (sh N1 (T! U q)) x y = true → False := fun x y hx he => by
          have g1 := left_has h1 h hx
          have g2 := right_has (N1 := N1) h2 hq (edgeB_has he)
          omega
        rcases ht with (ht | ht) | ht
        · exact key _ _ (by simp [hasB]) ht
        · exact key _ _ (by simp [hasB]) ht
        · exact key _ _ (by simp [hasB]) ht
      · rw [side_right T N1 hq, side_right T N1 hr, twB_sh]
        exact h2.tw q r hq (by omega)
  · rcases side_cases hb with h | ⟨q, rfl, hq⟩
    · rw [side_left U N1 h, side_left U N1 (show a < T.length by omega)]
      exact h1.mir b a h hab
    · rcases side_cases (N1 := N1) (U := U) (show a < (side T U N1).length by rw [side_length]; omega) with h | ⟨r, rfl, hr⟩
      · rw [side_right T N1 hq, side_left U N1 h]
        rw [← Bool.not_eq_true]
        intro ht
        unfold mirB at ht
        simp only [Bool.and_eq_true] at ht
        have g1 := left_has h1 h (v := (T! T a).1) (by simp [hasB])
        have g2 := right_has (N1 := N1) h2 hq ht.1.1
        omega
      · rw [side_right T N1 hq, side_right T N1 hr, mirB_sh]
        exact h2.mir q r hq (by omega)
  · by_cases e : v < N1
    · obtain ⟨i, hi, hh⟩ := h1.used v h0 e
      exact ⟨i, by rw [side_length]; omega, by rw [side_left U N1 hi]; exact hh⟩
    · obtain ⟨j, hj, hh⟩ := h2.used (v - N1) (by omega) (by omega)
      refine ⟨T.length + j, by rw [side_length]; omega, ?_⟩
      rw [side_right T N1 hj, show v = (v - N1) + N1 by omega, hasB_sh]
      exact hh
  · intro i k hi hk g1 g2
    by_cases e : v < N1
    · have inl : ∀ i, i < (side T U N1).length → hasB (T! (side T U N1) i) v = true → i < T.length := fun i hi g => by
        rcases side_cases hi with h | ⟨q, rfl, hq⟩
        · exact h
        · rw [side_right T N1 hq] at g
          have := right_has (N1 := N1) h2 hq g
          omega
      have li := inl i hi g1
      have lk := inl k hk g2
      rw [side_left U N1 li] at g1
      rw [side_left U N1 lk] at g2
      have hc := h1.pin v h0 e i k li lk g1 g2
      have step : ∀ {a b : Nat}, PAdj T v a b → PAdj (side T U N1) v a b := fun {a b} h => by
        obtain ⟨ha, hb, q1, q2, j, hj, hne, q3⟩ := h
        refine ⟨by rw [side_length]; omega, by rw [side_length]; omega, by rw [side_left U N1 ha]; exact q1, by rw [side_left U N1 hb]; exact q2, j, hj, ?_, ?_⟩
        · rw [side_left U N1 ha]; exact hne
        · rw [side_left U N1 ha, side_left U N1 hb]; exact q3
      clear g1 g2 hi hk li lk
      induction hc with
      | refl => exact .refl _
      | step _ s ih => exact ih.step (step s)
      | back _ s ih => exact ih.back (step s)
    · have inr : ∀ i, i < (side T U N1).length → hasB (T! (side T U N1) i) v = true → ∃ q, i = T.length + q ∧ q < U.length ∧ hasB (T! U q) (v - N1) = true := fun i hi g => by
        rcases side_cases hi with h | ⟨q, rfl, hq⟩
        · rw [side_left U N1 h] at g
          have := left_has h1 h g
          omega
        · rw [side_right T N1 hq, show v = (v - N1) + N1 by omega, hasB_sh] at g
          exact ⟨q, rfl, hq, g⟩
      obtain ⟨p, rfl, hp, gp⟩ := inr i hi g1
      obtain ⟨q, rfl, hq, gq⟩ := inr k hk g2
      have hc := h2.pin (v - N1) (by omega) (by omega) p q hp hq gp gq
      have step : ∀ {a b : Nat}, PAdj U (v - N1) a b → PAdj (side T U N1) v (T.length + a) (T.length + b) := fun {a b} h => by
        obtain ⟨ha, hb, q1, q2, j, hj, hne, q3⟩ := h
        refine ⟨by rw [side_length]; omega, by rw [side_length]; omega, ?_, ?_, j, hj, ?_, ?_⟩
        · rw [side_right T N1 ha, show v = (v - N1) + N1 by omega, hasB_sh]; exact q1
        · rw [side_right T N1 hb, show v = (v - N1) + N1 by omega, hasB_sh]; exact q2
        · rw [side_right T N1 ha, tg_sh]; intro e; exact hne (by omega)
        · rw [side_right T N1 ha, side_right T N1 hb, tg_sh, hasB_sh]; exact q3
      have gen : ∀ a b, Conn (PAdj U (v - N1)) a b → Conn (PAdj (side T U N1) v) (T.length + a) (T.length + b) := by
        intro a b c
        induction c with
        | refl => exact .refl _
        | step _ s ih => exact ih.step (step s)
        | back _ s ih => exact ih.back (step s)
      exact gen p q hc
theorem IsShells.congr {A B : Nat → Nat → Prop} {n : Nat} {L : Nat → Int} (h : IsShells A n L) (hAB : ∀ i j, A i j ↔ B i j) : IsShells B n L := by
  have : A = B := by funext i j; exact propext (hAB i j)
  rw [← this]; exact h
theorem adj_iff {N : Int} {T : List Tr} (hs : Surf N T) (i j : Nat) : Adj T i j ↔ NbA T i j := ⟨hs.adj_nb, hs.nb_adj⟩
/-- The shells of both, the first one's first. -/
def sideL (L M : Nat → Int) (n : Nat) (c : Int) : Nat → Int := fun i => if i < n then L i else c + M (i - n)
theorem side_nb {i j : Nat} (h1 : Surf N1 T) (h2 : Surf N2 U) : NbA (side T U N1) i j ↔ (i < T.length ∧ j < T.length ∧ NbA T i j) ∨ ∃ p q, i = T.length + p ∧ j = T.length + q ∧ NbA U p q := by
  constructor
  · rintro ⟨hi, hj, h⟩
    rcases side_cases hi with a | ⟨p, rfl, hp⟩ <;> rcases side_cases hj with b | ⟨q, rfl, hq⟩
    · rw [side_left U N1 a, side_left U N1 b] at h
      exact .inl ⟨a, b, a, b, h⟩
    · exfalso
      rw [side_left U N1 a, side_right T N1 hq] at h
      obtain ⟨x, y, hx, hy, e1, _⟩ := nbB_iff.1 h
      rw [tg_sh] at e1
      have g1 := (h1.vin i a x).2
      have g2 := (h2.vin q hq ((y + 1) % 3)).1
      omega
    · exfalso
      rw [side_right T N1 hp, side_left U N1 b] at h
      obtain ⟨x, y, hx, hy, e1, _⟩ := nbB_iff.1 h
      rw [tg_sh] at e1
      have g1 := (h1.vin j b ((y + 1) % 3)).2
      have g2 := (h2.vin p hp x).1
      omega
    · rw [side_right T N1 hp, side_right T N1 hq, nbB_sh] at h
      exact .inr ⟨p, q, rfl, rfl, hp, hq, h⟩
  · rintro (⟨a, b, _, _, h⟩ | ⟨p, q, rfl, rfl, hp, hq, h⟩)
    · exact ⟨by rw [side_length]; omega, by rw [side_length]; omega, by rw [side_left U N1 a, side_left U N1 b]; exact h⟩
    · exact ⟨by rw [side_length]; omega, by rw [side_length]; omega, by rw [side_right T N1 hp, side_right T N1 hq, nbB_sh]; exact h⟩
theorem side_shells (h1 : Surf N1 T) (h2 : Surf N2 U) (hN : N1 + N2 ≤ 4096) (hT : T.length + U.length ≤ 8192) {L M : Nat → Int} (hL : IsShells (Adj T) T.length L) (hM : IsShells (Adj U) U.length M) :
    IsShells (Adj (side T U N1)) (side T U N1).length (sideL L M T.length (cnt L T.length)) := by
  have hs := side_surf h1 h2 hN hT
  refine IsShells.congr ?_ fun i j => (adj_iff hs i j).symm
  replace hL := hL.congr fun i j => adj_iff h1 i j
  replace hM := hM.congr fun i j => adj_iff h2 i j
  have c0 := cnt_nonneg L T.length
  have eL : ∀ i, i < T.length → sideL L M T.length (cnt L T.length) i = L i := fun i hi => by unfold sideL; rw [if_pos hi]
  have eM : ∀ j, sideL L M T.length (cnt L T.length) (T.length + j) = cnt L T.length + M j := fun j => by unfold sideL; rw [if_neg (by omega), show T.length + j - T.length = j by omega]
  refine ⟨fun i hi => ?_, fun i j hi hj h => ?_, fun i j hi hj h => ?_, fun i hi m h0 hm => ?_⟩
  · rcases side_cases hi with a | ⟨p, rfl, hp⟩
    · rw [eL i a]; exact hL.nonneg i a
    · rw [eM]; have := hM.nonneg p hp; omega
  · rcases (side_nb h1 h2).1 h with ⟨a, b, h⟩ | ⟨p, q, rfl, rfl, h'⟩
    · rw [eL i a, eL j b]; exact hL.clo i j a b h
    · rw [eM, eM, hM.clo p q h'.1 h'.2.1 h']
  · have genL : ∀ a b, Conn (NbA T) a b → Conn (NbA (side T U N1)) a b := by
      intro a b c
      induction c with
      | refl => exact .refl _
      | step _ s ih => exact ih.step ((side_nb h1 h2).2 (.inl ⟨s.1, s.2.1, s⟩))
      | back _ s ih => exact ih.back ((side_nb h1 h2).2 (.inl ⟨s.1, s.2.1, s⟩))
    have genM : ∀ a b, Conn (NbA U) a b → Conn (NbA (side T U N1)) (T.length + a) (T.length + b) := by
      intro a b c
      induction c with
      | refl => exact .refl _
      | step _ s ih => exact ih.step ((side_nb h1 h2).2 (.inr ⟨_, _, rfl, rfl, s⟩))
      | back _ s ih => exact ih.back ((side_nb h1 h2).2 (.inr ⟨_, _, rfl, rfl, s⟩))
    rcases side_cases hi with a | ⟨p, rfl, hp⟩ <;> rcases side_cases hj with b | ⟨q, rfl, hq⟩
    · rw [eL i a, eL j b] at h
      exact genL i j (hL.con i j a b h)
    · rw [eL i a, eM] at h
      have g1 := cnt_lt L T.length i a
      have g2 := hM.nonneg q hq
      omega
    · rw [eM, eL j b] at h
      have g1 := cnt_lt L T.length j b
      have g2 := hM.nonneg p hp
      omega
    · rw [eM, eM] at h
      exact genM p q (hM.con p q hp hq (by omega))
  · rcases side_cases hi with a | ⟨p, rfl, hp⟩
    · rw [eL i a] at hm
      obtain ⟨j, hj, e⟩ := hL.rg i a m h0 hm
      exact ⟨j, hj, by rw [eL j (by omega)]; exact e⟩
    · rw [eM] at hm
      by_cases e : m < cnt L T.length
      · obtain ⟨c, hc⟩ := Int.eq_ofNat_of_zero_le c0
        obtain ⟨k, rfl⟩ := Int.eq_ofNat_of_zero_le h0
        obtain ⟨j, hj, e'⟩ := has_shell (m := c) hL hc.symm (k := k) (by omega)
        exact ⟨j, by omega, by rw [eL j hj]; exact e'⟩
      · obtain ⟨j, hj, e'⟩ := hM.rg p hp (m - cnt L T.length) (by omega) (by omega)
        exact ⟨T.length + j, by omega, by rw [eM, e']; omega⟩
theorem side_cnt (L M : Nat → Int) (n k : Nat) : cnt (sideL L M n (cnt L n)) (n + k) = cnt L n + cnt M k := by
  induction k with
  | zero =>
    have : cnt (sideL L M n (cnt L n)) n = cnt L n := cnt_congr n fun i hi => by unfold sideL; rw [if_pos hi]
    simp only [Nat.add_zero, cnt]
    omega
  | succ k ih =>
    show max (cnt (sideL L M n (cnt L n)) (n + k)) (sideL L M n (cnt L n) (n + k) + 1) = cnt L n + max (cnt M k) (M k + 1)
    rw [ih]
    have : sideL L M n (cnt L n) (n + k) = cnt L n + M k := by unfold sideL; rw [if_neg (by omega), show n + k - n = k by omega]
    rw [this]
    omega
end
end Go.Proofs.YtbeefabboabfgaaGreat

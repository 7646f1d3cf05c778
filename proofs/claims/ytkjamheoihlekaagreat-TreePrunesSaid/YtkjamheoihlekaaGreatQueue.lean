/- Families of owned rows; a queue: a slice that is cut at its head and appended to. -/
import Derived.Test.YtkjamheoihlekaaGreatRowl
import Derived.Maps.AppendAt
import Derived.ArgAppend
namespace Go.Proofs.YtkjamheoihlekaaGreat
set_option linter.unusedVariables false
set_option linter.unusedSimpArgs false
open Go.RowKit
/-- Each value of the family owns its own row of numbers. -/
def Fam {ι : Type} (w : World) (base : Nat) (vs : ι → Value) (E : ι → List Nat) : Prop :=
  (∀ i, w.ownsRow base 3 1 (vs i) (E i).length (nv (E i))) ∧ ∀ i j, i ≠ j → (vs i).ownBlock = none ∨ (vs i).ownBlock ≠ (vs j).ownBlock
theorem Fam.nil {ι : Type} (w : World) (base : Nat) : Fam (ι := ι) w base (fun _ => .slice none 0 0) (fun _ => []) :=
  ⟨fun _ => World.ownsRow_nil _ _ _ _, fun _ _ _ => .inl rfl⟩
theorem Fam.more {ι : Type} {w w' : World} {base : Nat} {vs : ι → Value} {E : ι → List Nat} (h : Fam w base vs E) (hb : Below w.heap.size w w') : Fam w' base vs E :=
  ⟨fun i => owns_below (h.1 i) hb, h.2⟩
/-- A write to one block that is none of theirs. -/
theorem Fam.other {ι : Type} {w w' : World} {base b : Nat} {vs : ι → Value} {E : ι → List Nat} (h : Fam w base vs E) (hg : w.grownBy w' (some b)) (hb : b < base) : Fam w' base vs E :=
  ⟨fun i => (h.1 i).kept hg (by
    cases e : (vs i).ownBlock with
    | none => exact .inl rfl
    | some g => have := ((h.1 i).lt g e).1; exact .inr (by simp; omega)), h.2⟩
/-- One of them is appended to. -/
theorem Fam.push {ι : Type} [DecidableEq ι] {w w' : World} {base : Nat} {vs : ι → Value} {E : ι → List Nat} (h : Fam w base vs E) (i : ι) (x : Nat) (v' : Value) (ho : w'.ownsRow base 3 1 v' ((E i).length + 1) (nv (E i) ++ [.int .i64 (x : Int)]))
    (hg : w.grownBy w' (vs i).ownBlock) (hat : v'.ownBlock = (vs i).ownBlock ∨ ∃ g, w.heap.size ≤ g ∧ v'.ownBlock = some g) :
    Fam w' base (fun j => if j = i then v' else vs j) (fun j => if j = i then E i ++ [x] else E j) := by
  refine ⟨fun j => ?_, fun j k hjk => ?_⟩
  · by_cases e : j = i
    · subst e
      simp only [if_pos]
      rw [nv_snoc, List.length_append]
      exact ho
    · simp only [e, if_false]
      exact (h.1 j).kept hg (h.2 j i e)
  · by_cases e : j = i
    · have hk : k ≠ i := fun e' => hjk (e.trans e'.symm)
      simp only [e, hk, if_true, if_false]
      rcases hat with hat | ⟨g, hgs, hat⟩
      · rw [hat]
        exact h.2 i k (fun e' => hk e'.symm)
      · rw [hat]
        refine .inr fun e' => ?_
        have := ((h.1 k).lt g e'.symm).2
        omega
    · simp only [e, if_false]
      by_cases ek : k = i
      · simp only [ek, if_true]
        rcases hat with hat | ⟨g, hgs, hat⟩
        · rw [hat]; exact h.2 j i e
        · cases eo : (vs j).ownBlock with
          | none => exact .inl rfl
          | some q =>
            refine .inr fun e' => ?_
            have := ((h.1 j).lt q eo).2
            rw [hat] at e'
            cases e'
            omega
      · simp only [ek, if_false]
        exact h.2 j k hjk
/-- The queue holds xs. -/
def QRow (w : World) (base : Nat) (v : Value) (xs : List Nat) : Prop :=
  ∃ g off cap cur, v = .slice (some ⟨g, off, none⟩) xs.length cap ∧ base ≤ g ∧ w.heap[g]? = some (.cells cur 3 (0, 0)) ∧ xs.length ≤ cap ∧ cap ≤ maxLen ∧ off + cap ≤ cur.size ∧
    ∀ (i x : Nat), xs[i]? = some x → cur[off + i]? = some (.int .i64 (x : Int))
theorem QRow.kept {w w' : World} {base : Nat} {v : Value} {xs : List Nat} {b : Nat} (h : QRow w base v xs) (hg : w.grownBy w' (some b)) (hb : b < base) : QRow w' base v xs := by
  obtain ⟨g, off, cap, cur, h1, h2, h3, h4⟩ := h
  exact ⟨g, off, cap, cur, h1, h2, (hg.block g (Array.getElem?_eq_some_iff.1 h3).1 (by simp; omega)).trans h3, h4⟩
theorem QRow.more {w w' : World} {base : Nat} {v : Value} {xs : List Nat} (h : QRow w base v xs) (hb : Below w.heap.size w w') : QRow w' base v xs := by
  obtain ⟨g, off, cap, cur, h1, h2, h3, h4⟩ := h
  exact ⟨g, off, cap, cur, h1, h2, (hb.block g (Array.getElem?_eq_some_iff.1 h3).1).trans h3, h4⟩
theorem QRow.of_owns {w : World} {base n : Nat} {v : Value} {xs : List Nat} (h : w.ownsRow base 3 1 v n (nv xs)) (hn : n = xs.length) (h0 : 0 < n) : QRow w base v xs := by
  obtain ⟨h1, h2⟩ := h
  rcases h2 with ⟨_, h2⟩ | ⟨g, cap, cur, hv, hg, hh, hc, hm, hs, ht⟩
  · omega
  · subst hn
    refine ⟨g, 0, cap, cur, hv, hg, hh, hc, hm, by omega, fun i x hx => ?_⟩
    have := nv_get hx
    rw [← ht, List.getElem?_take] at this
    split at this
    · simpa using this
    · cases this
/-- Its head, and the queue without it. -/
theorem QRow.head {w : World} {base : Nat} {v : Value} {x : Nat} {r : List Nat} (h : QRow w base v (x :: r)) :
    ∃ g off cap, v = .slice (some ⟨g, off, none⟩) (r.length + 1) cap ∧ base ≤ g ∧ r.length + 1 ≤ cap ∧ cap ≤ maxLen ∧ w.cell? ⟨g, off, none⟩ = some (.int .i64 (x : Int)) ∧
      (cap = 1 → QRow w base (.slice (some ⟨g, off, none⟩) r.length 0) r) ∧ QRow w base (.slice (some ⟨g, off + 1, none⟩) r.length (cap - 1)) r := by
  obtain ⟨g, off, cap, cur, h1, h2, h3, h4, h5, h6, h7⟩ := h
  simp only [List.length_cons] at h1 h4
  have hx := h7 0 x (by simp)
  refine ⟨g, off, cap, h1, h2, h4, h5, by simp [World.cell?, h3]; simpa using hx, fun hc => ⟨g, off, 0, cur, rfl, h2, h3, by omega, by omega, by omega, fun i y hy => ?_⟩, ⟨g, off + 1, cap - 1, cur, rfl, h2, h3, by omega, by omega, by omega, fun i y hy => ?_⟩⟩
  · have := (List.getElem?_eq_some_iff.1 hy).1
    omega
  · have := h7 (i + 1) y (by simpa using hy)
    rw [← this]
    congr 1
    omega
/-- 'append(wait, k)', k just laid in a block of its own. -/
theorem wpList_append_q {ops : Array Oper} {rest : List Oper} {o : Oper} {a : Act} {Q : Exit → Act → World → Prop} (w2 : World) (hgd : o.guard = none) (s x : Operand)
    (ho : o.op = .call { callee := .builtin .append, args := #[s, x], argTypes := #[28, 28] })
    (base : Nat) (v : Value) (xs : List Nat) (hs : a.eval s = v) (hq : QRow w2 base v xs) (k : Nat) (g : Nat) (hx : a.eval x = .slice (some ⟨g, 0, none⟩) 1 1) (hg : g = w2.heap.size)
    (hl : xs.length ≤ 100000) (hbase : base ≤ w2.heap.size)
    (h : ∀ v' w', QRow w' base v' (xs ++ [k]) → (∀ B w0, B ≤ base → Below B w0 w2 → Below B w0 w') → wpList Tryz.prog ops Q rest (a.put o.dst v') w') :
    wpList Tryz.prog ops Q (o :: rest) a (w2.alloc (.cells #[.int .i64 (k : Int)] 3)) := by
  subst hg
  obtain ⟨i0, hi, hz0, hz1, hz2⟩ := info_parts info3
  obtain ⟨gq, off, cap, cur, rfl, hgb, hh, hc, hm, hsz, hcell⟩ := hq
  have hlt := (Array.getElem?_eq_some_iff.1 hh).1
  have hh' : (w2.alloc (.cells #[.int .i64 (k : Int)] 3)).heap[gq]? = some (.cells cur 3 (0, 0)) := (Below.heap_alloc _ _ _ hlt).trans hh
  refine wpList_append_arg _ hgd s x _ ho 3 i0 (.int .i64 0) 1 8 (by kernel_rfl) hi hz0 hz1 hz2 rfl (by decide) gq off xs.length cap (nv xs) hs (by simp [nv_length]) ?_ ⟨w2.heap.size, 0, none⟩ 1 1 [.int .i64 (k : Int)] hx rfl ?_ ?_ ?_ (by unfold maxLen; omega) (by omega) ?_ ?_
  · intro j u hu
    have hj : j < xs.length := by have := (List.getElem?_eq_some_iff.1 hu).1; simpa [nv_length] using this
    have h1 := hcell j _ (List.getElem?_eq_getElem hj)
    have h2 := nv_get (List.getElem?_eq_getElem hj)
    rw [h2] at hu
    cases hu
    simp [World.cell?, hh', h1]
  · intro j u hu
    match j, hu with
    | 0, hu =>
      simp at hu; subst hu
      simp [Addr.add]
  · intro u hu; simp at hu; subst hu; rfl
  · intro hroom j hj
    have hj0 : j = 0 := by simpa using hj
    subst hj0
    refine ⟨?_, by simp [World.frozen?, hh']⟩
    simp only [World.cell?, hh']
    simp
    omega
  · intro hroom
    refine h _ _ ?_ ?_
    · refine ⟨gq, off, cap, cur.setIfInBounds (off + xs.length) (.int .i64 (k : Int)), by simp, hgb, ?_, by simp; omega, hm, by simpa using hsz, fun i y hy => ?_⟩
      · simp [World.setCells, World.setCell, Array.getElem?_modify, hh']
      · rw [Array.getElem?_setIfInBounds]
        by_cases hi : i < xs.length
        · rw [List.getElem?_append_left hi] at hy
          rw [if_neg (by omega)]
          exact hcell i y hy
        · have hi' := (List.getElem?_eq_some_iff.1 hy).1
          simp at hi'
          obtain rfl : i = xs.length := by omega
          simp at hy
          subst hy
          rw [if_pos rfl, if_pos (by omega)]
    · intro B w0 hB hb
      have h1 := (hb.alloc (by omega) (.cells #[.int .i64 (k : Int)] 3)).setCell (p := ⟨gq, off + xs.length, none⟩) (by show B ≤ gq; omega) (.int .i64 (k : Int))
      simpa [World.setCells] using h1
  · intro hgrow v' w' hown hgr
    refine h _ _ (QRow.of_owns (owns_base (base' := base) (show w'.ownsRow _ _ _ v' (xs ++ [k]).length (nv (xs ++ [k])) from by rw [nv_snoc, List.length_append]; exact hown) (by simp; omega)) rfl (by simp)) ?_
    intro B w0 hB hb
    exact (hb.alloc (by omega) (.cells #[.int .i64 (k : Int)] 3)).grown hgr (by simp; omega) (by simp)
end Go.Proofs.YtkjamheoihlekaaGreat

/- Families of owned rows; a queue: a slice that is cut at its head and appended to. Rows that grow side by side: each in a block of its own. The state of rim.Cut's loops: a struct's block whose rows grow, beside a map. -/
import Derived.Test.YtkjamheoihlekaaGreatRowl
import Derived.Maps.AppendAt
import Derived.ArgAppend
import Derived.Test.YtkjamheoihlekaaGreatMapLaw
namespace Go.Proofs.YtkjamheoihlekaaGreat
set_option linter.unusedVariables false
set_option linter.unusedSimpArgs false
open Go.RowKit
/-- Each value of the family owns its own row of numbers. -/
def Fam {ι : Type} (w : World) (base : Nat) (vs : ι → Value) (E : ι → List Nat) : Prop :=
  (∀ i, w.ownsRow base 3 1 (vs i) (E i).length (nv (E i))) ∧ ∀ i j, i ≠ j → (vs i).ownBlock = none ∨ (vs i).ownBlock ≠ (vs j).ownBlock
theorem Fam.nil {ι : Type} (w : World) (base : Nat) : Fam (ι := ι) w base (fun _ => .slice none 0 0) (fun _ => []) :=
  ⟨fun _ => World.ownsRow_nil _ _ _ _, fun _ _ _ => .inl rfl⟩
theorem Fam.more {ι : Type} {w w' : World} {base : Nat} {vs : ι → Value} {E : ι → List Nat} (h : Fam w base vs E) (hb : Below w.heap.size w w') : Fam w' base vs E :=
  ⟨fun i => owns_below (h.1 i) hb, h.2⟩
/-- A write to one block that is none of theirs. -/
theorem Fam.other {ι : Type} {w w' : World} {base b : Nat} {vs : ι → Value} {E : ι → List Nat} (h : Fam w base vs E) (hg : w.grownBy w' (some b)) (hb : b < base) : Fam w' base vs E :=
  ⟨fun i => (h.1 i).kept hg (by
    cases e : (vs i).ownBlock with
    | none => exact .inl rfl
    | some g => have := ((h.1 i).lt g e).1; exact .inr (by simp; omega)), h.2⟩
/-- One of them is appended to. -/
theorem Fam.push {ι : Type} [DecidableEq ι] {w w' : World} {base : Nat} {vs : ι → Value} {E : ι → List Nat} (h : Fam w base vs E) (i : ι) (x : Nat) (v' : Value) (ho : w'.ownsRow base 3 1 v' ((E i).length + 1) (nv (E i) ++ [.int .i64 (x : Int)]))
    (hg : w.grownBy w' (vs i).ownBlock) (hat : v'.ownBlock = (vs i).ownBlock ∨ ∃ g, w.heap.size ≤ g ∧ v'.ownBlock = some g) :
    Fam w' base (fun j => if j = i then v' else vs j) (fun j => if j = i then E i ++ [x] else E j) := by
  refine ⟨fun j => ?_, fun j k hjk => ?_⟩
  · by_cases e : j = i
    · subst e
      simp only [if_pos]
      rw [nv_snoc, List.length_append]
      exact ho
    · simp only [e, if_false]
      exact (h.1 j).kept hg (h.2 j i e)
  · by_cases e : j = i
    · have hk : k ≠ i := fun e' => hjk (e.trans e'.symm)
      simp only [e, hk, if_true, if_false]
      rcases hat with hat | ⟨g, hgs, hat⟩
      · rw [hat]
        exact h.2 i k (fun e' => hk e'.symm)
      · rw [hat]
        refine .inr fun e' => ?_
        have := ((h.1 k).lt g e'.symm).2
        omega
    · simp only [e, if_false]
      by_cases ek : k = i
      · simp only [ek, if_true]
        rcases hat with hat | ⟨g, hgs, hat⟩
        · rw [hat]; exact h.2 j i e
        · cases eo : (vs j).ownBlock with
          | none => exact .inl rfl
          | some q =>
            refine .inr fun e' => ?_
            have := ((h.1 j).lt q eo).2
            rw [hat] at e'
            cases e'
            omega
      · simp only [ek, if_false]
        exact h.2 j k hjk
/-- The queue holds xs. -/
def QRow (w : World) (base : Nat) (v : Value) (xs : List Nat) : Prop :=
  ∃ g off cap cur, v = .slice (some ⟨g, off, none⟩) xs.length cap ∧ base ≤ g ∧ w.heap[g]? = some (.cells cur 3 (0, 0)) ∧ xs.length ≤ cap ∧ cap ≤ maxLen ∧ off + cap ≤ cur.size ∧
    ∀ (i x : Nat), xs[i]? = some x → cur[off + i]? = some (.int .i64 (x : Int))
theorem QRow.kept {w w' : World} {base : Nat} {v : Value} {xs : List Nat} {b : Nat} (h : QRow w base v xs) (hg : w.grownBy w' (some b)) (hb : b < base) : QRow w' base v xs := by
  obtain ⟨g, off, cap, cur, h1, h2, h3, h4⟩ := h
  exact ⟨g, off, cap, cur, h1, h2, (hg.block g (Array.getElem?_eq_some_iff.1 h3).1 (by simp; omega)).trans h3, h4⟩
theorem QRow.more {w w' : World} {base : Nat} {v : Value} {xs : List Nat} (h : QRow w base v xs) (hb : Below w.heap.size w w') : QRow w' base v xs := by
  obtain ⟨g, off, cap, cur, h1, h2, h3, h4⟩ := h
  exact ⟨g, off, cap, cur, h1, h2, (hb.block g (Array.getElem?_eq_some_iff.1 h3).1).trans h3, h4⟩
theorem QRow.of_owns {w : World} {base n : Nat} {v : Value} {xs : List Nat} (h : w.ownsRow base 3 1 v n (nv xs)) (hn : n = xs.length) (h0 : 0 < n) : QRow w base v xs := by
  obtain ⟨h1, h2⟩ := h
  rcases h2 with ⟨_, h2⟩ | ⟨g, cap, cur, hv, hg, hh, hc, hm, hs, ht⟩
  · omega
  · subst hn
    refine ⟨g, 0, cap, cur, hv, hg, hh, hc, hm, by omega, fun i x hx => ?_⟩
    have := nv_get hx
    rw [← ht, List.getElem?_take] at this
    split at this
    · simpa using this
    · cases this
/-- Its head, and the queue without it. -/
theorem QRow.head {w : World} {base : Nat} {v : Value} {x : Nat} {r : List Nat} (h : QRow w base v (x :: r)) :
    ∃ g off cap, v = .slice (some ⟨g, off, none⟩) (r.length + 1) cap ∧ base ≤ g ∧ r.length + 1 ≤ cap ∧ cap ≤ maxLen ∧ w.cell? ⟨g, off, none⟩ = some (.int .i64 (x : Int)) ∧
      (cap = 1 → QRow w base (.slice (some ⟨g, off, none⟩) r.length 0) r) ∧ QRow w base (.slice (some ⟨g, off + 1, none⟩) r.length (cap - 1)) r := by
  obtain ⟨g, off, cap, cur, h1, h2, h3, h4, h5, h6, h7⟩ := h
  simp only [List.length_cons] at h1 h4
  have hx := h7 0 x (by simp)
  refine ⟨g, off, cap, h1, h2, h4, h5, by simp [World.cell?, h3]; simpa using hx, fun hc => ⟨g, off, 0, cur, rfl, h2, h3, by omega, by omega, by omega, fun i y hy => ?_⟩, ⟨g, off + 1, cap - 1, cur, rfl, h2, h3, by omega, by omega, by omega, fun i y hy => ?_⟩⟩
  · have := (List.getElem?_eq_some_iff.1 hy).1
    omega
  · have := h7 (i + 1) y (by simpa using hy)
    rw [← this]
    congr 1
    omega
/-- 'append(wait, k)', k just laid in a block of its own. -/
theorem wpList_append_q {ops : Array Oper} {rest : List Oper} {o : Oper} {a : Act} {Q : Exit → Act → World → Prop} (w2 : World) (hgd : o.guard = none) (s x : Operand)
    (ho : o.op = .call { callee := .builtin .append, args := #[s, x], argTypes := #[28, 28] })
    (base : Nat) (v : Value) (xs : List Nat) (hs : a.eval s = v) (hq : QRow w2 base v xs) (k : Nat) (g : Nat) (hx : a.eval x = .slice (some ⟨g, 0, none⟩) 1 1) (hg : g = w2.heap.size)
    (hl : xs.length ≤ 100000) (hbase : base ≤ w2.heap.size)
    (h : ∀ v' w', QRow w' base v' (xs ++ [k]) → (∀ B w0, B ≤ base → Below B w0 w2 → Below B w0 w') → wpList Tryz.prog ops Q rest (a.put o.dst v') w') :
    wpList Tryz.prog ops Q (o :: rest) a (w2.alloc (.cells #[.int .i64 (k : Int)] 3)) := by
  subst hg
  obtain ⟨i0, hi, hz0, hz1, hz2⟩ := info_parts info3
  obtain ⟨gq, off, cap, cur, rfl, hgb, hh, hc, hm, hsz, hcell⟩ := hq
  have hlt := (Array.getElem?_eq_some_iff.1 hh).1
  have hh' : (w2.alloc (.cells #[.int .i64 (k : Int)] 3)).heap[gq]? = some (.cells cur 3 (0, 0)) := (Below.heap_alloc _ _ _ hlt).trans hh
  refine wpList_append_arg _ hgd s x _ ho 3 i0 (.int .i64 0) 1 8 (by kernel_rfl) hi hz0 hz1 hz2 rfl (by decide) gq off xs.length cap (nv xs) hs (by simp [nv_length]) ?_ ⟨w2.heap.size, 0, none⟩ 1 1 [.int .i64 (k : Int)] hx rfl ?_ ?_ ?_ (by unfold maxLen; omega) (by omega) ?_ ?_
  · intro j u hu
    have hj : j < xs.length := by have := (List.getElem?_eq_some_iff.1 hu).1; simpa [nv_length] using this
    have h1 := hcell j _ (List.getElem?_eq_getElem hj)
    have h2 := nv_get (List.getElem?_eq_getElem hj)
    rw [h2] at hu
    cases hu
    simp [World.cell?, hh', h1]
  · intro j u hu
    match j, hu with
    | 0, hu =>
      simp at hu; subst hu
      simp [Addr.add]
  · intro u hu; simp at hu; subst hu; rfl
  · intro hroom j hj
    have hj0 : j = 0 := by simpa using hj
    subst hj0
    refine ⟨?_, by simp [World.frozen?, hh']⟩
    simp only [World.cell?, hh']
    simp
    omega
  · intro hroom
    refine h _ _ ?_ ?_
    · refine ⟨gq, off, cap, cur.setIfInBounds (off + xs.length) (.int .i64 (k : Int)), by simp, hgb, ?_, by simp; omega, hm, by simpa using hsz, fun i y hy => ?_⟩
      · simp [World.setCells, World.setCell, Array.getElem?_modify, hh']
      · rw [Array.getElem?_setIfInBounds]
        by_cases hi : i < xs.length
        · rw [List.getElem?_append_left hi] at hy
          rw [if_neg (by omega)]
          exact hcell i y hy
        · have hi' := (List.getElem?_eq_some_iff.1 hy).1
          simp at hi'
          obtain rfl : i = xs.length := by omega
          simp at hy
          subst hy
          rw [if_pos rfl, if_pos (by omega)]
    · intro B w0 hB hb
      have h1 := (hb.alloc (by omega) (.cells #[.int .i64 (k : Int)] 3)).setCell (p := ⟨gq, off + xs.length, none⟩) (by show B ≤ gq; omega) (.int .i64 (k : Int))
      simpa [World.setCells] using h1
  · intro hgrow v' w' hown hgr
    refine h _ _ (QRow.of_owns (owns_base (base' := base) (show w'.ownsRow _ _ _ v' (xs ++ [k]).length (nv (xs ++ [k])) from by rw [nv_snoc, List.length_append]; exact hown) (by simp; omega)) rfl (by simp)) ?_
    intro B w0 hB hb
    exact (hb.alloc (by omega) (.cells #[.int .i64 (k : Int)] 3)).grown hgr (by simp; omega) (by simp)
/-- A row: its elements' type and size, the slice, how many, the cells. -/
structure ORow where
  e : TypeId
  size : Nat
  v : Value
  n : Nat
  xs : List Value
def Apart (a b : Value) : Prop := a.ownBlock = none ∨ a.ownBlock ≠ b.ownBlock
theorem Apart.symm {a b : Value} (h : Apart a b) : Apart b a := by
  rcases h with h | h
  · cases e : b.ownBlock with
    | none => exact .inl e
    | some q => exact .inr (by rw [h, e]; simp)
  · exact .inr fun e => h e.symm
theorem Apart.nil (b : Value) : Apart (.slice none 0 0) b := .inl rfl
theorem grown_set (w : World) (b i : Nat) (v : Value) : w.grownBy (w.setCell ⟨b, i, none⟩ v) (some b) := ⟨rfl, rfl, rfl, by simp [World.setCell], fun j hj hne => by
  have : b ≠ j := fun e => hne (by rw [e])
  simp [World.setCell, Array.getElem?_modify, this]⟩
/-- The rows R, each from block 'base' on, each in another block. -/
structure Rows (base : Nat) (X : World) (R : List ORow) : Prop where
  own : ∀ r, r ∈ R → X.ownsRow base r.e r.size r.v r.n r.xs
  apart : R.Pairwise fun a b => Apart a.v b.v
section
variable {base : Nat} {X Y : World} {R : List ORow}
theorem Rows.more (h : Rows base X R) (hb : Below X.heap.size X Y) : Rows base Y R := ⟨fun r hr => owns_below (h.own r hr) hb, h.apart⟩
theorem Rows.alloc (h : Rows base X R) (o : Obj) : Rows base (X.alloc o) R := h.more ((Below.refl _ _).alloc (Nat.le_refl _) o)
theorem Rows.drew (h : Rows base X R) : Rows base X.drew R := h.more (Below.refl _ _).drew
theorem Rows.lower {b : Nat} (h : Rows base X R) (hb : b ≤ base) : Rows b X R := ⟨fun r hr => owns_base (h.own r hr) hb, h.apart⟩
theorem owns_off {e : TypeId} {size n : Nat} {v : Value} {xs : List Value} (h : X.ownsRow base e size v n xs) {b : Nat} (hb : b < base) : v.ownBlock = none ∨ v.ownBlock ≠ some b := by
  cases q : v.ownBlock with
  | none => exact .inl rfl
  | some k => exact .inr fun e' => by cases e'; have := (h.lt _ q).1; omega
/-- One block below 'base' turns. -/
theorem Rows.other (h : Rows base X R) {b : Nat} (hg : X.grownBy Y (some b)) (hb : b < base) : Rows base Y R := ⟨fun r hr => (h.own r hr).kept hg (owns_off (h.own r hr) hb), h.apart⟩
theorem Rows.store (h : Rows base X R) {b : Nat} (hb : b < base) (i : Nat) (v : Value) : Rows base (X.setCell ⟨b, i, none⟩ v) R := h.other (grown_set X b i v) hb
/-- One of the rows is appended to. -/
theorem Rows.push (h : Rows base X R) (i : Nat) (r : ORow) (hi : R[i]? = some r) {g cap n : Nat} {xs : List Value} (hown : Y.ownsRow base r.e r.size (.slice (some ⟨g, 0, none⟩) n cap) n xs) (hg : X.grownBy Y r.v.ownBlock) (hat : r.v.ownBlock = some g ∨ X.heap.size ≤ g) :
    Rows base Y (R.set i { r with v := .slice (some ⟨g, 0, none⟩) n cap, n := n, xs := xs }) := by
  have hlt := (List.getElem?_eq_some_iff.1 hi).1
  have hri : R[i] = r := (List.getElem?_eq_some_iff.1 hi).2
  have off : ∀ j (hj : j < R.length), j ≠ i → Apart R[j].v r.v := fun j hj hne => by
    rcases Nat.lt_or_ge j i with l | l
    · have := (List.pairwise_iff_getElem.1 h.apart) j i hj hlt l
      rwa [hri] at this
    · have := (List.pairwise_iff_getElem.1 h.apart) i j hlt hj (by omega)
      rw [hri] at this
      exact this.symm
  have off2 : ∀ j (hj : j < R.length), j ≠ i → Apart R[j].v (.slice (some ⟨g, 0, none⟩) n cap) := fun j hj hne => by
    cases e : R[j].v.ownBlock with
    | none => exact .inl e
    | some q =>
      refine .inr fun e' => ?_
      have e2 : q = g := by rw [e] at e'; simpa [Value.ownBlock] using e'
      subst e2
      rcases hat with hat | hat
      · rcases off j hj hne with ha | ha
        · rw [e] at ha; cases ha
        · exact ha (e.trans hat.symm)
      · have := ((h.own R[j] (List.getElem_mem hj)).lt _ e).2; omega
  refine ⟨fun s hs => ?_, ?_⟩
  · obtain ⟨j, hj, rfl⟩ := List.mem_iff_getElem.1 hs
    rw [List.length_set] at hj
    rw [List.getElem_set]
    split
    · exact hown
    · rename_i hne
      exact (h.own R[j] (List.getElem_mem hj)).kept hg (by
        rcases off j hj (fun e => hne e.symm) with a | a
        · exact .inl a
        · exact .inr a)
  · rw [List.pairwise_iff_getElem]
    intro a b ha hb hab
    rw [List.length_set] at ha hb
    rw [List.getElem_set, List.getElem_set]
    split
    · rename_i e
      subst e
      rw [if_neg (by omega)]
      exact (off2 b hb (by omega)).symm
    · split
      · rename_i e
        subst e
        exact off2 a ha (by omega)
      · exact (List.pairwise_iff_getElem.1 h.apart) a b ha hb hab
end
structure CSt (W X : World) (ob m base : Nat) (e : TypeId) (cells : List Value) (n : Nat) (C : Int → Option Value) (R : List ORow) : Prop where
  row : RowIs X ob e cells
  map : MapIs intFam X m n C
  rows : Rows base X R
  low : Below ob W X
  mid : ∀ k, k < base → k ≠ ob → k ≠ m → X.heap[k]? = W.heap[k]?
  obm : ob < m
  mb : m < base
  mx : base ≤ X.heap.size
section
variable {W X Y : World} {ob m base : Nat} {e : TypeId} {cells : List Value} {n : Nat} {C : Int → Option Value} {R : List ORow}
theorem CSt.more (h : CSt W X ob m base e cells n C R) (hb : Below X.heap.size X Y) : CSt W Y ob m base e cells n C R :=
  ⟨h.row.below hb h.row.lt, h.map.below (Nat.le_refl _) hb, h.rows.more hb, below_more h.low hb (by have := h.row.lt; omega), fun k h1 h2 h3 => (hb.block k (by have := h.mx; omega)).trans (h.mid k h1 h2 h3), h.obm, h.mb, by have := hb.size; have := h.mx; omega⟩
theorem CSt.alloc (h : CSt W X ob m base e cells n C R) (o : Obj) : CSt W (X.alloc o) ob m base e cells n C R := h.more ((Below.refl _ _).alloc (Nat.le_refl _) o)
theorem CSt.drew (h : CSt W X ob m base e cells n C R) : CSt W X.drew ob m base e cells n C R := h.more (Below.refl _ _).drew
theorem CSt.mapped (h : CSt W X ob m base e cells n C R) {n' : Nat} {C' : Int → Option Value} (hm : MapIs intFam Y m n' C') (hg : X.grownBy Y (some m)) : CSt W Y ob m base e cells n' C' R :=
  ⟨h.row.grown hg (by have := h.obm; simp; omega), hm, h.rows.other hg h.mb, h.low.grown hg (by have := h.row.lt; omega) (fun k hk => by cases hk; have := h.obm; omega), fun k h1 h2 h3 => (hg.block k (by have := h.mx; omega) (by simp; omega)).trans (h.mid k h1 h2 h3), h.obm, h.mb, by have := hg.size; have := h.mx; omega⟩
theorem CSt.store (h : CSt W X ob m base e cells n C R) (i : Nat) (v : Value) : CSt W (X.setCell ⟨ob, i, none⟩ v) ob m base e (cells.set i v) n C R := by
  have hg := grown_set X ob i v
  have hob := h.obm
  have hmb := h.mb
  exact ⟨h.row.set i v, h.map.same (hg.block m h.map.lt (by simp; omega)), h.rows.other hg (by omega), h.low.grown hg (by have := h.row.lt; omega) (fun k hk => by cases hk; omega), fun k h1 h2 h3 => (hg.block k (by have := h.mx; omega) (by simp; omega)).trans (h.mid k h1 h2 h3), h.obm, h.mb, by have := hg.size; have := h.mx; omega⟩
theorem CSt.push (h : CSt W X ob m base e cells n C R) (i : Nat) (r : ORow) (hi : R[i]? = some r) {g cap n' : Nat} {xs : List Value} (hown : Y.ownsRow base r.e r.size (.slice (some ⟨g, 0, none⟩) n' cap) n' xs) (hg : X.grownBy Y r.v.ownBlock) (hat : r.v.ownBlock = some g ∨ X.heap.size ≤ g) :
    CSt W Y ob m base e cells n C (R.set i { r with v := .slice (some ⟨g, 0, none⟩) n' cap, n := n', xs := xs }) := by
  have hr := h.rows.own r (List.mem_of_getElem? hi)
  have hob := h.obm
  have hmb := h.mb
  have off : ∀ b, b < base → some b ≠ r.v.ownBlock := fun b hb q => by have := (hr.lt b q.symm).1; omega
  exact ⟨h.row.grown hg (off _ (by omega)), h.map.same (hg.block m h.map.lt (off _ hmb)), h.rows.push i r hi hown hg hat, h.low.grown hg (by have := h.row.lt; omega) (fun k hk => by have := (hr.lt k hk).1; omega), fun k h1 h2 h3 => (hg.block k (by have := h.mx; omega) (off k h1)).trans (h.mid k h1 h2 h3), h.obm, h.mb, by have := hg.size; have := h.mx; omega⟩
/-- A row laid ahead of the loops, in the blocks between. -/
theorem CSt.old {b n' size : Nat} {e' : TypeId} {v : Value} {xs : List Value} (h : CSt W X ob m base e cells n C R) (ho : W.ownsRow b e' size v n' xs) (hne : ∀ k, v.ownBlock = some k → k < base ∧ k ≠ ob ∧ k ≠ m) : X.ownsRow b e' size v n' xs := by
  refine ⟨ho.1, ?_⟩
  rcases ho.2 with q | ⟨g, cap, cur, rfl, hb, hgg, rest⟩
  · exact .inl q
  · obtain ⟨h1, h2, h3⟩ := hne g rfl
    exact .inr ⟨g, cap, cur, rfl, hb, (h.mid g h1 h2 h3).trans hgg, rest⟩
end
theorem owns_nl {w : World} {base : Nat} {F : List Nat} {a : Option Addr} {cap : Nat} (h : w.ownsRow base 3 1 (.slice a F.length cap) F.length (nv F)) : IntsAt w a (F.map fun (x : Nat) => (x : Int)) := by
  intro hne
  have h0 : 0 < F.length := by
    rcases F with _ | ⟨x, l⟩
    · exact absurd rfl hne
    · simp
  obtain ⟨g, cap', hv, -, hlt, -, -, hc, -⟩ := owns_block h h0
  simp only [Value.slice.injEq] at hv
  refine ⟨g, 0, hv.1, hlt, fun i hi => ?_⟩
  have hi' : i < F.length := by simpa using hi
  rw [Nat.zero_add, hc i _ (nv_get (List.getElem?_eq_getElem hi'))]
  simp [I!, List.getD_eq_getElem?_getD, hi']
def ic (xs : List Int) : List Value := xs.map (Value.int .i64)
theorem ic_snoc (xs : List Int) (x : Int) : ic (xs ++ [x]) = ic xs ++ [.int .i64 x] := by simp [ic]
theorem owns_ic {w : World} {base n : Nat} {xs : List Int} {v : Value} (h : w.ownsRow base 3 1 v n (ic xs)) (hn : n = xs.length) : ∃ a cap, v = .slice a n cap ∧ IntsAt w a xs := by
  subst hn
  by_cases h0 : 0 < xs.length
  · obtain ⟨g, cap, rfl, -, hlt, -, -, hc, -⟩ := owns_block h h0
    refine ⟨_, cap, rfl, fun _ => ⟨g, 0, rfl, hlt, fun i hi => ?_⟩⟩
    rw [Nat.zero_add]
    refine hc i _ ?_
    simp [ic, I!, List.getD_eq_getElem?_getD, hi]
  · obtain ⟨a, cap, rfl⟩ := owns_slice h
    refine ⟨a, cap, rfl, fun hne => absurd (List.length_pos_iff.2 hne) h0⟩
theorem grown_tr {a b c : World} {row : Option Nat} (h : a.grownBy b row) (k : b.grownBy c row) : a.grownBy c row :=
  ⟨k.os.trans h.os, k.tape.trans h.tape, k.output.trans h.output, Nat.le_trans h.size k.size, fun j hj hne => (k.block j (by have := h.size; omega) hne).trans (h.block j hj hne)⟩
theorem grown_set6 (X : World) (b : Nat) (v0 v1 v2 v3 v4 v5 : Value) :
    X.grownBy ((((((X.setCell ⟨b, 0, none⟩ v0).setCell ⟨b, 1, none⟩ v1).setCell ⟨b, 2, none⟩ v2).setCell ⟨b, 3, none⟩ v3).setCell ⟨b, 4, none⟩ v4).setCell ⟨b, 5, none⟩ v5) (some b) :=
  grown_tr (grown_tr (grown_tr (grown_tr (grown_tr (grown_set _ _ _ _) (grown_set _ _ _ _)) (grown_set _ _ _ _)) (grown_set _ _ _ _)) (grown_set _ _ _ _)) (grown_set _ _ _ _)
end Go.Proofs.YtkjamheoihlekaaGreat

/- Rows that grow side by side: each in a block of its own. -/
import Derived.Test.YtknioobpoieohaaRowl
import Derived.Test.YtknioobpoieohaaQueue
namespace Go.Proofs.Ytknioobpoieohaa
set_option linter.unusedVariables false
set_option linter.unusedSimpArgs false
open Go.RowKit
/-- A row: its elements' type and size, the slice, how many, the cells. -/
structure ORow where
  e : TypeId
  size : Nat
  v : Value
  n : Nat
  xs : List Value
def Apart (a b : Value) : Prop := a.ownBlock = none ∨ a.ownBlock ≠ b.ownBlock
theorem Apart.symm {a b : Value} (h : Apart a b) : Apart b a := by
  rcases h with h | h
  · cases e : b.ownBlock with
    | none => exact .inl e
    | some q => exact .inr (by rw [h, e]; simp)
  · exact .inr fun e => h e.symm
theorem Apart.nil (b : Value) : Apart (.slice none 0 0) b := .inl rfl
theorem grown_set (w : World) (b i : Nat) (v : Value) : w.grownBy (w.setCell ⟨b, i, none⟩ v) (some b) := ⟨rfl, rfl, rfl, by simp [World.setCell], fun j hj hne => by
  have : b ≠ j := fun e => hne (by rw [e])
  simp [World.setCell, Array.getElem?_modify, this]⟩
/-- The rows R, each from block 'base' on, each in another block. -/
structure Rows (base : Nat) (X : World) (R : List ORow) : Prop where
  own : ∀ r, r ∈ R → X.ownsRow base r.e r.size r.v r.n r.xs
  apart : R.Pairwise fun a b => Apart a.v b.v
section
variable {base : Nat} {X Y : World} {R : List ORow}
theorem Rows.more (h : Rows base X R) (hb : Below X.heap.size X Y) : Rows base Y R := ⟨fun r hr => owns_below (h.own r hr) hb, h.apart⟩
theorem Rows.alloc (h : Rows base X R) (o : Obj) : Rows base (X.alloc o) R := h.more ((Below.refl _ _).alloc (Nat.le_refl _) o)
theorem Rows.drew (h : Rows base X R) : Rows base X.drew R := h.more (Below.refl _ _).drew
theorem Rows.lower {b : Nat} (h : Rows base X R) (hb : b ≤ base) : Rows b X R := ⟨fun r hr => owns_base (h.own r hr) hb, h.apart⟩
theorem owns_off {e : TypeId} {size n : Nat} {v : Value} {xs : List Value} (h : X.ownsRow base e size v n xs) {b : Nat} (hb : b < base) : v.ownBlock = none ∨ v.ownBlock ≠ some b := by
  cases q : v.ownBlock with
  | none => exact .inl rfl
  | some k => exact .inr fun e' => by cases e'; have := (h.lt _ q).1; omega
/-- One block below 'base' turns. -/
theorem Rows.other (h : Rows base X R) {b : Nat} (hg : X.grownBy Y (some b)) (hb : b < base) : Rows base Y R := ⟨fun r hr => (h.own r hr).kept hg (owns_off (h.own r hr) hb), h.apart⟩
theorem Rows.store (h : Rows base X R) {b : Nat} (hb : b < base) (i : Nat) (v : Value) : Rows base (X.setCell ⟨b, i, none⟩ v) R := h.other (grown_set X b i v) hb
/-- One of the rows is appended to. -/
theorem Rows.push (h : Rows base X R) (i : Nat) (r : ORow) (hi : R[i]? = some r) {g cap n : Nat} {xs : List Value} (hown : Y.ownsRow base r.e r.size (.slice (some ⟨g, 0, none⟩) n cap) n xs) (hg : X.grownBy Y r.v.ownBlock) (hat : r.v.ownBlock = some g ∨ X.heap.size ≤ g) :
    Rows base Y (R.set i { r with v := .slice (some ⟨g, 0, none⟩) n cap, n := n, xs := xs }) := by
  have hlt := (List.getElem?_eq_some_iff.1 hi).1
  have hri : R[i] = r := (List.getElem?_eq_some_iff.1 hi).2
  have off : ∀ j (hj : j < R.length), j ≠ i → Apart R[j].v r.v := fun j hj hne => by
    rcases Nat.lt_or_ge j i with l | l
    · have := (List.pairwise_iff_getElem.1 h.apart) j i hj hlt l
      rwa [hri] at this
    · have := (List.pairwise_iff_getElem.1 h.apart) i j hlt hj (by omega)
      rw [hri] at this
      exact this.symm
  have off2 : ∀ j (hj : j < R.length), j ≠ i → Apart R[j].v (.slice (some ⟨g, 0, none⟩) n cap) := fun j hj hne => by
    cases e : R[j].v.ownBlock with
    | none => exact .inl e
    | some q =>
      refine .inr fun e' => ?_
      have e2 : q = g := by rw [e] at e'; simpa [Value.ownBlock] using e'
      subst e2
      rcases hat with hat | hat
      · rcases off j hj hne with ha | ha
        · rw [e] at ha; cases ha
        · exact ha (e.trans hat.symm)
      · have := ((h.own R[j] (List.getElem_mem hj)).lt _ e).2; omega
  refine ⟨fun s hs => ?_, ?_⟩
  · obtain ⟨j, hj, rfl⟩ := List.mem_iff_getElem.1 hs
    rw [List.length_set] at hj
    rw [List.getElem_set]
    split
    · exact hown
    · rename_i hne
      exact (h.own R[j] (List.getElem_mem hj)).kept hg (by
        rcases off j hj (fun e => hne e.symm) with a | a
        · exact .inl a
        · exact .inr a)
  · rw [List.pairwise_iff_getElem]
    intro a b ha hb hab
    rw [List.length_set] at ha hb
    rw [List.getElem_set, List.getElem_set]
    split
    · rename_i e
      subst e
      rw [if_neg (by omega)]
      exact (off2 b hb (by omega)).symm
    · split
      · rename_i e
        subst e
        exact off2 a ha (by omega)
      · exact (List.pairwise_iff_getElem.1 h.apart) a b ha hb hab
end
end Go.Proofs.Ytknioobpoieohaa

/- Worlds that are as they were below a block, but for one. The state of gypsumref40.Cut's loops: a struct's block beside rows that grow. -/
import Derived.Test.YtbeefabboabfgaaGreatRowFam
namespace Go.Proofs.YtbeefabboabfgaaGreat
set_option linter.unusedVariables false
set_option linter.unusedSimpArgs false
open Go.RowKit
/-- Below block B, but block g, w' is as w was. -/
structure But (B g : Nat) (w w' : World) : Prop where
  os : w'.os = w.os
  tape : w'.tape = w.tape
  output : w'.output = w.output
  size : w.heap.size ≤ w'.heap.size
  block : ∀ k, k < B → k ≠ g → w'.heap[k]? = w.heap[k]?
theorem But.refl (B g : Nat) (w : World) : But B g w w := ⟨rfl, rfl, rfl, Nat.le_refl _, fun _ _ _ => rfl⟩
theorem But.trans {B g : Nat} {a b c : World} (h : But B g a b) (k : But B g b c) : But B g a c :=
  ⟨k.os.trans h.os, k.tape.trans h.tape, k.output.trans h.output, Nat.le_trans h.size k.size, fun i hi hg => (k.block i hi hg).trans (h.block i hi hg)⟩
theorem But.below {B B' g : Nat} {a b : World} (h : But B g a b) (h1 : B' ≤ B) (h2 : B' ≤ g) : Below B' a b :=
  ⟨h.os, h.tape, h.output, h.size, fun i hi => h.block i (by omega) (by omega)⟩
theorem But.more {B B' g : Nat} {a b c : World} (h : But B g a b) (k : Below B' b c) (hB : B ≤ B') : But B g a c :=
  h.trans ⟨k.os, k.tape, k.output, k.size, fun i hi _ => k.block i (by omega)⟩
theorem But.grown {B g : Nat} {row : Option Nat} {a b c : World} (h : But B g a b) (k : b.grownBy c row) (hB : B ≤ b.heap.size) (hr : ∀ q, row = some q → B ≤ q ∨ q = g) : But B g a c :=
  h.trans ⟨k.os, k.tape, k.output, k.size, fun i hi hg => k.block i (by omega) fun e => by
    rcases hr i e.symm with h | h
    · omega
    · exact hg h⟩
theorem But.cell {B g : Nat} {a b : World} (h : But B g a b) {k i : Nat} (hk : k < B) (hg : k ≠ g) : b.cell? ⟨k, i, none⟩ = a.cell? ⟨k, i, none⟩ := by
  simp [World.cell?, h.block k hk hg]
theorem But.row {B g : Nat} {a b : World} (h : But B g a b) {k : Nat} {e : TypeId} {xs : List Value} (hr : RowIs a k e xs) (hk : k < B) (hg : k ≠ g) : RowIs b k e xs := (h.block k hk hg).trans hr
structure RSt (W X : World) (ob base : Nat) (e : TypeId) (cells : List Value) (R : List ORow) : Prop where
  row : RowIs X ob e cells
  rows : Rows base X R
  but : But base ob W X
  ob : ob < base
  mx : base ≤ X.heap.size
section
variable {W X Y : World} {ob base : Nat} {e : TypeId} {cells : List Value} {R : List ORow}
theorem RSt.more (h : RSt W X ob base e cells R) (hb : Below X.heap.size X Y) : RSt W Y ob base e cells R :=
  ⟨h.row.below hb h.row.lt, h.rows.more hb, h.but.more hb h.mx, h.ob, by have := hb.size; have := h.mx; omega⟩
theorem RSt.alloc (h : RSt W X ob base e cells R) (o : Obj) : RSt W (X.alloc o) ob base e cells R := h.more ((Below.refl _ _).alloc (Nat.le_refl _) o)
theorem RSt.drew (h : RSt W X ob base e cells R) : RSt W X.drew ob base e cells R := h.more (Below.refl _ _).drew
theorem RSt.store (h : RSt W X ob base e cells R) (i : Nat) (v : Value) : RSt W (X.setCell ⟨ob, i, none⟩ v) ob base e (cells.set i v) R := by
  have hg := grown_set X ob i v
  exact ⟨h.row.set i v, h.rows.other hg h.ob, h.but.grown hg h.mx (fun q hq => .inr (by cases hq; rfl)), h.ob, by have := hg.size; have := h.mx; omega⟩
theorem RSt.push (h : RSt W X ob base e cells R) (i : Nat) (r : ORow) (hi : R[i]? = some r) {g cap n' : Nat} {xs : List Value} (hown : Y.ownsRow base r.e r.size (.slice (some ⟨g, 0, none⟩) n' cap) n' xs) (hg : X.grownBy Y r.v.ownBlock) (hat : r.v.ownBlock = some g ∨ X.heap.size ≤ g) :
    RSt W Y ob base e cells (R.set i { r with v := .slice (some ⟨g, 0, none⟩) n' cap, n := n', xs := xs }) := by
  have hr := h.rows.own r (List.mem_of_getElem? hi)
  have hob := h.ob
  have off : ∀ b, b < base → some b ≠ r.v.ownBlock := fun b hb q => by have := (hr.lt b q.symm).1; omega
  exact ⟨h.row.grown hg (off _ hob), h.rows.push i r hi hown hg hat, h.but.grown hg h.mx (fun q hq => .inl (hr.lt q hq).1), hob, by have := hg.size; have := h.mx; omega⟩
theorem RSt.low (h : RSt W X ob base e cells R) : Below ob W X := h.but.below (by have := h.ob; omega) (Nat.le_refl _)
theorem RSt.old {b n' size : Nat} {e' : TypeId} {v : Value} {xs : List Value} (h : RSt W X ob base e cells R) (ho : W.ownsRow b e' size v n' xs) (hne : ∀ k, v.ownBlock = some k → k < base ∧ k ≠ ob) : X.ownsRow b e' size v n' xs := by
  refine ⟨ho.1, ?_⟩
  rcases ho.2 with q | ⟨g, cap, cur, rfl, hb, hgg, rest⟩
  · exact .inl q
  · obtain ⟨h1, h2⟩ := hne g rfl
    exact .inr ⟨g, cap, cur, rfl, hb, (h.but.block g h1 h2).trans hgg, rest⟩
theorem RSt.oldRow {g : Nat} {e' : TypeId} {xs : List Value} (h : RSt W X ob base e cells R) (hr : RowIs W g e' xs) (h1 : g < base) (h2 : g ≠ ob) : RowIs X g e' xs := h.but.row hr h1 h2
end
end Go.Proofs.YtbeefabboabfgaaGreat

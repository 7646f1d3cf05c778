/- Rows of parts; worlds that change in one old block alone. -/
import Derived.Test.YtkggphfekeiejaaTabSoup
import Derived.Test.YtkggphfekeiejaaQueue
namespace Go.Proofs.Ytkggphfekeiejaa
set_option linter.unusedVariables false
set_option linter.unusedSimpArgs false
open Go.RowKit
/-- The cells of m parts: f k 0 .. f k 3. -/
def pc (f : Nat → Nat → Value) (m : Nat) : List Value := (List.range (m * 4)).map fun i => f (i / 4) (i % 4)
theorem pc_length (f : Nat → Nat → Value) (m : Nat) : (pc f m).length = m * 4 := by simp [pc]
theorem pc_get (f : Nat → Nat → Value) {m k c : Nat} (hk : k < m) (hc : c < 4) : (pc f m)[k * 4 + c]? = some (f k c) := by
  have h1 : k * 4 + c < m * 4 := by omega
  have h2 : (k * 4 + c) / 4 = k := by omega
  have h3 : (k * 4 + c) % 4 = c := by omega
  simp [pc, h1, h2, h3]
def up2 (f : Nat → Nat → Value) (k c : Nat) (v : Value) : Nat → Nat → Value := fun j d => if j = k ∧ d = c then v else f j d
theorem pc_set (f : Nat → Nat → Value) (m k c : Nat) (hc : c < 4) (v : Value) : (pc f m).set (k * 4 + c) v = pc (up2 f k c v) m := by
  refine set_map_range (m * 4) _ _ _ v fun i => ?_
  unfold up2
  by_cases h : i = k * 4 + c
  · have h2 : i / 4 = k := by omega
    have h3 : i % 4 = c := by omega
    rw [if_pos h, if_pos ⟨h2, h3⟩]
  · rw [if_neg h, if_neg (by omega)]
theorem up2_same (f : Nat → Nat → Value) (k c : Nat) (v : Value) : up2 f k c v k c = v := by simp [up2]
theorem up2_col (f : Nat → Nat → Value) (k c j : Nat) (v : Value) : up2 f k c v j c = if j = k then v else f j c := by simp [up2]
theorem up2_other (f : Nat → Nat → Value) (k c j d : Nat) (v : Value) (h : d ≠ c) : up2 f k c v j d = f j d := by simp [up2, h]
/-- Below block B, but block g, w' is as w was. -/
structure But (B g : Nat) (w w' : World) : Prop where
  os : w'.os = w.os
  tape : w'.tape = w.tape
  output : w'.output = w.output
  size : w.heap.size ≤ w'.heap.size
  block : ∀ k, k < B → k ≠ g → w'.heap[k]? = w.heap[k]?
theorem But.refl (B g : Nat) (w : World) : But B g w w := ⟨rfl, rfl, rfl, Nat.le_refl _, fun _ _ _ => rfl⟩
theorem But.trans {B g : Nat} {a b c : World} (h : But B g a b) (k : But B g b c) : But B g a c :=
  ⟨k.os.trans h.os, k.tape.trans h.tape, k.output.trans h.output, Nat.le_trans h.size k.size, fun i hi hg => (k.block i hi hg).trans (h.block i hi hg)⟩
theorem But.below {B B' g : Nat} {a b : World} (h : But B g a b) (h1 : B' ≤ B) (h2 : B' ≤ g) : Below B' a b :=
  ⟨h.os, h.tape, h.output, h.size, fun i hi => h.block i (by omega) (by omega)⟩
theorem But.more {B B' g : Nat} {a b c : World} (h : But B g a b) (k : Below B' b c) (hB : B ≤ B') : But B g a c :=
  h.trans ⟨k.os, k.tape, k.output, k.size, fun i hi _ => k.block i (by omega)⟩
theorem But.grown {B g : Nat} {row : Option Nat} {a b c : World} (h : But B g a b) (k : b.grownBy c row) (hB : B ≤ b.heap.size) (hr : ∀ q, row = some q → B ≤ q ∨ q = g) : But B g a c :=
  h.trans ⟨k.os, k.tape, k.output, k.size, fun i hi hg => k.block i (by omega) fun e => by
    rcases hr i e.symm with h | h
    · omega
    · exact hg h⟩
theorem grown_set (w : World) (b i : Nat) (v : Value) : w.grownBy (w.setCell ⟨b, i, none⟩ v) (some b) := ⟨rfl, rfl, rfl, by simp [World.setCell], fun j hj hne => by
  have : b ≠ j := fun e => hne (by rw [e])
  simp [World.setCell, Array.getElem?_modify, this]⟩
theorem But.cell {B g : Nat} {a b : World} (h : But B g a b) {k i : Nat} (hk : k < B) (hg : k ≠ g) : b.cell? ⟨k, i, none⟩ = a.cell? ⟨k, i, none⟩ := by
  simp [World.cell?, h.block k hk hg]
theorem But.row {B g : Nat} {a b : World} (h : But B g a b) {k : Nat} {e : TypeId} {xs : List Value} (hr : RowIs a k e xs) (hk : k < B) (hg : k ≠ g) : RowIs b k e xs := (h.block k hk hg).trans hr
end Go.Proofs.Ytkggphfekeiejaa

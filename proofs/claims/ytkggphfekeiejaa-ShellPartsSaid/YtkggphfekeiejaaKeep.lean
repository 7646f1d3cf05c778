/- Worlds that change in two maps alone; what a map has seen. -/
import Derived.Test.YtkggphfekeiejaaJoinRows
import Derived.Test.YtkggphfekeiejaaCertTogether
namespace Go.Proofs.Ytkggphfekeiejaa
set_option linter.unusedVariables false
set_option linter.unusedSimpArgs false
open Go.RowKit
/-- Below block B, but blocks g and h, w' is as w was. -/
structure Keep (B g h : Nat) (w w' : World) : Prop where
  os : w'.os = w.os
  tape : w'.tape = w.tape
  output : w'.output = w.output
  size : w.heap.size ≤ w'.heap.size
  block : ∀ k, k < B → k ≠ g → k ≠ h → w'.heap[k]? = w.heap[k]?
section
variable {B g h : Nat} {a b c : World}
theorem Keep.refl (B g h : Nat) (w : World) : Keep B g h w w := ⟨rfl, rfl, rfl, Nat.le_refl _, fun _ _ _ _ => rfl⟩
theorem Keep.trans (x : Keep B g h a b) (y : Keep B g h b c) : Keep B g h a c :=
  ⟨y.os.trans x.os, y.tape.trans x.tape, y.output.trans x.output, Nat.le_trans x.size y.size, fun k h1 h2 h3 => (y.block k h1 h2 h3).trans (x.block k h1 h2 h3)⟩
theorem Keep.more {B' : Nat} (x : Keep B g h a b) (y : Below B' b c) (hB : B ≤ B') : Keep B g h a c :=
  x.trans ⟨y.os, y.tape, y.output, y.size, fun k h1 _ _ => y.block k (by omega)⟩
theorem Keep.butl {B' : Nat} (x : Keep B g h a b) (y : But B' g b c) (hB : B ≤ B') : Keep B g h a c :=
  x.trans ⟨y.os, y.tape, y.output, y.size, fun k h1 h2 _ => y.block k (by omega) h2⟩
theorem Keep.butr {B' : Nat} (x : Keep B g h a b) (y : But B' h b c) (hB : B ≤ B') : Keep B g h a c :=
  x.trans ⟨y.os, y.tape, y.output, y.size, fun k h1 _ h3 => y.block k (by omega) h3⟩
theorem Keep.below {B' : Nat} (x : Keep B g h a b) (h1 : B' ≤ B) (h2 : B' ≤ g) (h3 : B' ≤ h) : Below B' a b :=
  ⟨x.os, x.tape, x.output, x.size, fun i hi => x.block i (by omega) (by omega) (by omega)⟩
theorem Keep.cell (x : Keep B g h a b) {k i : Nat} (h1 : k < B) (h2 : k ≠ g) (h3 : k ≠ h) : b.cell? ⟨k, i, none⟩ = a.cell? ⟨k, i, none⟩ := by
  simp [World.cell?, x.block k h1 h2 h3]
end
theorem cell_map {κ : Type} {k : TypeId} {F : KeyFam k κ} {w : World} {m n : Nat} {C : κ → Option Value} (h : MapIs F w m n C) {b i : Nat} {v : Value} (hc : w.cell? ⟨b, i, none⟩ = some v) : b ≠ m := by
  rintro rfl
  obtain ⟨es, clock, h1, _⟩ := h
  simp [World.cell?, h1] at hc
/-- Places that no map block is. -/
def Off2 (ao : Option Addr) (g h : Nat) : Prop := ∀ a, ao = some a → a.block ≠ g ∧ a.block ≠ h
section
variable {B g h : Nat} {w w' : World}
theorem TrisAt.keep {ao : Option Addr} {T : List Tr} (x : TrisAt w ao T) (k : Keep B g h w w') (hB : w.heap.size ≤ B) (hg : ∀ b i v, w.cell? ⟨b, i, none⟩ = some v → b ≠ g ∧ b ≠ h) : TrisAt w' ao T := by
  intro hT
  obtain ⟨b, off, rfl, hlt, hc⟩ := x hT
  have h0 := hc 0 (List.length_pos_iff.2 hT)
  have hne := hg _ _ _ h0.1
  exact ⟨b, off, rfl, by have := k.size; omega, fun i hi => ⟨(k.cell (by omega) hne.1 hne.2).trans (hc i hi).1, (k.cell (by omega) hne.1 hne.2).trans (hc i hi).2.1, (k.cell (by omega) hne.1 hne.2).trans (hc i hi).2.2⟩⟩
theorem IntsAt.keep {ao : Option Addr} {xs : List Int} (x : IntsAt w ao xs) (k : Keep B g h w w') (hB : w.heap.size ≤ B) (hg : ∀ b i v, w.cell? ⟨b, i, none⟩ = some v → b ≠ g ∧ b ≠ h) : IntsAt w' ao xs := by
  intro hx
  obtain ⟨b, off, rfl, hlt, hc⟩ := x hx
  have hne := hg _ _ _ (hc 0 (List.length_pos_iff.2 hx))
  exact ⟨b, off, rfl, by have := k.size; omega, fun i hi => (k.cell (by omega) hne.1 hne.2).trans (hc i hi)⟩
theorem PartAt.keep {b o : Nat} {P : PartV} (x : PartAt w b o P) (k : Keep B g h w w') (hB : w.heap.size ≤ B) (hb : b < w.heap.size) (hg : ∀ b i v, w.cell? ⟨b, i, none⟩ = some v → b ≠ g ∧ b ≠ h) : PartAt w' b o P := by
  obtain ⟨aoS, cS, aoV, cV, aoT, cT, h0, h1, h2, h3, h4, h5, h6⟩ := x
  have hne := hg _ _ _ h0
  exact ⟨aoS, cS, aoV, cV, aoT, cT, (k.cell (by omega) hne.1 hne.2).trans h0, (k.cell (by omega) hne.1 hne.2).trans h1, (k.cell (by omega) hne.1 hne.2).trans h2, (k.cell (by omega) hne.1 hne.2).trans h3, h4.keep k hB hg, h5.keep k hB hg, h6.keep k hB hg⟩
end
/-- A set of numbers, as a map. -/
def seenC (L : List Int) : Int → Option Value := fun x => if x ∈ L then some (.bool true) else none
theorem seenC_push (L : List Int) (y : Int) : (fun b => if b = y then some (Value.bool true) else seenC L b) = seenC (L ++ [y]) := by
  funext b
  unfold seenC
  by_cases e : b = y
  · simp [e]
  · simp [e]
theorem seenC_nil : seenC [] = fun _ => none := by
  funext b
  simp [seenC]
theorem nodup_fresh {L : List Int} {y : Int} (h : (L ++ [y]).Nodup) : y ∉ L := fun hm => by
  rw [List.nodup_append] at h
  exact h.2.2 y hm y (by simp) rfl
end Go.Proofs.Ytkggphfekeiejaa

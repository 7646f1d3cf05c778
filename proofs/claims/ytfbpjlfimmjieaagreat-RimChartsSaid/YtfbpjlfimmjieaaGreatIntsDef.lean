/- Lists of ints in memory. -/
import Derived.Test.YtfbpjlfimmjieaaGreatRowl
import Derived.RegionTactic
import Derived.ChangeAlike
namespace Go.Proofs.YtfbpjlfimmjieaaGreat
set_option linter.unusedVariables false
set_option linter.unusedSimpArgs false
open Go.RowKit
/-- The number with a number. -/
def I! (xs : List Int) (i : Nat) : Int := xs.getD i 0
/-- A list of ints lies at an address. -/
def IntsAt (w : World) (ao : Option Addr) (xs : List Int) : Prop :=
  xs ≠ [] → ∃ b off, ao = some ⟨b, off, none⟩ ∧ b < w.heap.size ∧ ∀ i, i < xs.length → w.cell? ⟨b, off + i, none⟩ = some (.int .i64 (I! xs i))
theorem IntsAt.mono {w w' : World} {ao : Option Addr} {xs : List Int} {B : Nat} (h : IntsAt w ao xs) (hB : w.heap.size ≤ B) (hb : Below B w w') : IntsAt w' ao xs := by
  intro hx
  obtain ⟨b, off, rfl, hlt, hc⟩ := h hx
  exact ⟨b, off, rfl, by have := hb.size; omega, fun i hi => (hb.cell (p := ⟨b, _, none⟩) (show b < B by omega)).trans (hc i hi)⟩
theorem IntsAt.get {w wr : World} {ao : Option Addr} {xs : List Int} (h : IntsAt w ao xs) {B : Nat} (hB : w.heap.size ≤ B) (hb : Below B w wr) {i : Nat} (hi : i < xs.length) :
    ∃ b off x, ao = some ⟨b, off, none⟩ ∧ Hid (I! xs i = x) ∧ wr.cell? ⟨b, off + i, none⟩ = some (.int .i64 x) ∧ b < w.heap.size ∧ b < wr.heap.size := by
  obtain ⟨b, off, rfl, hlt, hc⟩ := (h.mono hB hb) (by intro e; simp [e] at hi)
  obtain ⟨b', off', e, hlt', -⟩ := h (by intro e; simp [e] at hi)
  cases e
  exact ⟨b, off, _, rfl, rfl, hc i hi, hlt', hlt⟩
theorem I!_get {xs : List Int} {i : Nat} (h : i < xs.length) : xs[i]? = some (I! xs i) := by
  simp [I!, List.getElem?_eq_getElem h]
theorem ints_ext {xs ys : List Int} (hl : xs.length = ys.length) (h : ∀ i, i < xs.length → I! xs i = I! ys i) : xs = ys := by
  apply List.ext_getElem hl
  intro i h1 h2
  have := h i h1
  unfold I! at this
  simpa [List.getD_eq_getElem?_getD, List.getElem?_eq_getElem h1, List.getElem?_eq_getElem h2] using this
/-- The first n values of a function. -/
def il (f : Nat → Int) (n : Nat) : List Int := (List.range n).map f
theorem il_length (f : Nat → Int) (n : Nat) : (il f n).length = n := by simp [il]
theorem il_get (f : Nat → Int) {n i : Nat} (h : i < n) : I! (il f n) i = f i := by simp [I!, il, h]
theorem il_congr {f g : Nat → Int} {n : Nat} (h : ∀ i, i < n → f i = g i) : il f n = il g n := List.map_congr_left fun i hi => h i (List.mem_range.1 hi)
theorem RowIs.ints {w : World} {g n : Nat} {f : Nat → Int} {e : TypeId} (h : RowIs w g e (iv f n)) : IntsAt w (some ⟨g, 0, none⟩) (il f n) := fun _ =>
  ⟨g, 0, rfl, h.lt, fun i hi => by
    rw [il_length] at hi
    rw [Nat.zero_add, il_get f hi]
    exact h.cell (iv_get f hi)⟩
end Go.Proofs.YtfbpjlfimmjieaaGreat

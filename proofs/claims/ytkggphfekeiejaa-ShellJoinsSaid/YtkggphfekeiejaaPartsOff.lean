/- Parts in a slice that may begin anywhere in its block. -/
import Derived.Test.YtkggphfekeiejaaJoinRows
namespace Go.Proofs.Ytkggphfekeiejaa
set_option linter.unusedVariables false
set_option linter.unusedSimpArgs false
open Go.RowKit
/-- Parts lie one behind the other, from some place of a block on. -/
def PartsOff (w : World) (a : Option Addr) (P : Nat → PartV) (m : Nat) : Prop :=
  0 < m → ∃ b o, a = some ⟨b, o, none⟩ ∧ b < w.heap.size ∧ ∀ k, k < m → PartAt w b (o + k * 4) (P k)
theorem PartsOff.mono {w w' : World} {a : Option Addr} {P : Nat → PartV} {m : Nat} (h : PartsOff w a P m) (hb : Below w.heap.size w w') : PartsOff w' a P m := fun h0 => by
  obtain ⟨b, o, e, hlt, hk⟩ := h h0
  exact ⟨b, o, e, by have := hb.size; omega, fun k hk' => (hk k hk').mono hb hlt⟩
theorem PartsAt.off {w : World} {a : Option Addr} {P : Nat → PartV} {m : Nat} (h : PartsAt w a P m) : PartsOff w a P m := fun h0 => by
  obtain ⟨b, e, hlt, hk⟩ := h h0
  exact ⟨b, 0, e, hlt, fun k hk' => by rw [Nat.zero_add]; exact hk k hk'⟩
theorem PartsOff.vals {w : World} {a : Option Addr} {P : Nat → PartV} {m : Nat} (h : PartsOff w a P m) : ∃ (b o : Nat) (F : Nat → Nat → Value), (0 < m → a = some ⟨b, o, none⟩ ∧ b < w.heap.size) ∧
    ∀ k, k < m → (w.cell? ⟨b, o + k * 4, none⟩ = some (F k 0) ∧ w.cell? ⟨b, o + k * 4 + 1, none⟩ = some (F k 1) ∧ w.cell? ⟨b, o + k * 4 + 2, none⟩ = some (F k 2) ∧ w.cell? ⟨b, o + k * 4 + 3, none⟩ = some (F k 3)) ∧ PartVal w (F k) (P k) := by
  by_cases h0 : 0 < m
  · obtain ⟨b, o, e, hb, hk⟩ := h h0
    refine ⟨b, o, fun k c => (w.cell? ⟨b, o + k * 4 + c, none⟩).getD (.int .i64 0), fun _ => ⟨e, hb⟩, fun k hk' => ?_⟩
    obtain ⟨aoS, cS, aoV, cV, aoT, cT, c0, c1, c2, c3, hS, hV, hT⟩ := hk k hk'
    refine ⟨⟨?_, ?_, ?_, ?_⟩, aoS, cS, aoV, cV, aoT, cT, ?_, ?_, ?_, ?_, hS, hV, hT⟩ <;> simp [c0, c1, c2, c3]
  · exact ⟨0, 0, fun _ _ => .int .i64 0, fun h => absurd h h0, fun k hk => by omega⟩
end Go.Proofs.Ytkggphfekeiejaa

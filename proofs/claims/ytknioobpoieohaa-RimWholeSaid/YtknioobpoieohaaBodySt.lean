/- An api.Body in a block of its own, laid behind a call. -/
import Derived.Test.YtknioobpoieohaaLocAt
namespace Go.Proofs.Ytknioobpoieohaa
set_option linter.unusedVariables false
set_option linter.unusedSimpArgs false
open Go.RowKit
def brow : List Value := [.int .i64 0, .slice none 0 0, .slice none 0 0, .slice none 0 0]
theorem brow_off {Y : World} {lb b off : Nat} {e : TypeId} {x : Int} (hz : RowIs Y lb e brow) (h1 : Y.cell? ⟨b, off + 1, none⟩ = some (.int .i64 x)) : b ≠ lb := by
  rintro rfl
  unfold RowIs brow at hz
  simp only [World.cell?, hz] at h1
  rcases (show off = 0 ∨ off = 1 ∨ off = 2 ∨ 3 ≤ off by omega) with rfl | rfl | rfl | h
  · simp at h1
  · simp at h1
  · simp at h1
  · rw [show List.toArray [Value.int .i64 0, .slice none 0 0, .slice none 0 0, .slice none 0 0] = #[Value.int .i64 0, .slice none 0 0, .slice none 0 0, .slice none 0 0] from rfl, Array.getElem?_eq_none (by simp; omega)] at h1
    simp at h1
abbrev set4 (Y : World) (lb : Nat) (v0 v1 v2 v3 : Value) : World := ((((Y.setCell ⟨lb, 0, none⟩ v0).setCell ⟨lb, 1, none⟩ v1).setCell ⟨lb, 2, none⟩ v2).setCell ⟨lb, 3, none⟩ v3)
theorem set4_row {Y : World} {lb : Nat} {e : TypeId} (hz : RowIs Y lb e brow) (v0 v1 v2 v3 : Value) : RowIs (set4 Y lb v0 v1 v2 v3) lb e [v0, v1, v2, v3] := (((hz.set 0 v0).set 1 v1).set 2 v2).set 3 v3
theorem set4_below {B : Nat} {a Y : World} {lb : Nat} (h : Below B a Y) (hB : B ≤ lb) (v0 v1 v2 v3 : Value) : Below B a (set4 Y lb v0 v1 v2 v3) :=
  (((h.setCell (p := ⟨lb, 0, none⟩) hB v0).setCell (p := ⟨lb, 1, none⟩) hB v1).setCell (p := ⟨lb, 2, none⟩) hB v2).setCell (p := ⟨lb, 3, none⟩) hB v3
theorem set4_other {Y : World} {lb b i : Nat} (h : b ≠ lb) (v0 v1 v2 v3 : Value) : (set4 Y lb v0 v1 v2 v3).cell? ⟨b, i, none⟩ = Y.cell? ⟨b, i, none⟩ := by
  simp [set4, World.cell?, World.setCell, Array.getElem?_modify, Ne.symm h]
theorem set4_size (Y : World) (lb : Nat) (v0 v1 v2 v3 : Value) : (set4 Y lb v0 v1 v2 v3).heap.size = Y.heap.size := by simp [set4, World.setCell]
theorem set4_tris {Y : World} {lb : Nat} {e : TypeId} {a : Option Addr} {T : List Tr} (hz : RowIs Y lb e brow) (h : TrisAt Y a T) (v0 v1 v2 v3 : Value) : TrisAt (set4 Y lb v0 v1 v2 v3) a T := by
  intro hT
  obtain ⟨b, off, rfl, hlt, hc⟩ := h hT
  have hne : b ≠ lb := by
    have := (hc 0 (by cases T; exact absurd rfl hT; simp)).2.1
    exact brow_off hz this
  refine ⟨b, off, rfl, by rw [set4_size]; exact hlt, fun i hi => ?_⟩
  rw [set4_other hne, set4_other hne, set4_other hne]
  exact hc i hi
/-- A body of n points. -/
def BodyAt (w : World) (bb n : Nat) (ao : Option Addr) (len cap : Nat) (po : Option Addr) (pc : Nat) (ko : Option Addr) (kl kc : Nat) (P : List Tr) : Prop :=
  RowIs w bb 35 [.int .i64 (n : Int), .slice ao len cap, .slice po n pc, .slice ko kl kc] ∧ TrisAt w po P
section
variable {Y : World} {n : Nat} {ao : Option Addr} {len cap : Nat} {po : Option Addr} {pc : Nat} {ko : Option Addr} {kl kc : Nat} {P : List Tr}
theorem body_alloc (h : TrisAt Y po P) : BodyAt (Y.alloc (.cells #[.int .i64 (n : Int), .slice ao len cap, .slice po n pc, .slice ko kl kc] 35)) Y.heap.size n ao len cap po pc ko kl kc P :=
  ⟨RowIs.made Y 35 [_, _, _, _], tris_alloc h _⟩
theorem body_store {bb : Nat} (hz : RowIs Y bb 35 brow) (h : TrisAt Y po P) : BodyAt (set4 Y bb (.int .i64 (n : Int)) (.slice ao len cap) (.slice po n pc) (.slice ko kl kc)) bb n ao len cap po pc ko kl kc P :=
  ⟨set4_row hz _ _ _ _, set4_tris hz h _ _ _ _⟩
theorem BodyAt.more {w w' : World} {bb : Nat} (h : BodyAt w bb n ao len cap po pc ko kl kc P) (hb : Below w.heap.size w w') : BodyAt w' bb n ao len cap po pc ko kl kc P := ⟨h.1.after hb, h.2.mono (Nat.le_refl _) hb⟩
theorem BodyAt.drew {w : World} {bb : Nat} (h : BodyAt w bb n ao len cap po pc ko kl kc P) : BodyAt w.drew bb n ao len cap po pc ko kl kc P := h
end
end Go.Proofs.Ytknioobpoieohaa

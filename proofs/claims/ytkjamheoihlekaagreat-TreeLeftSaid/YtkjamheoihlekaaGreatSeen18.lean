/- Marks over edges, in a map. -/
import Derived.Test.YtkjamheoihlekaaGreatSeenLaw
import Derived.Test.YtkjamheoihlekaaGreatTreeNear
import Derived.Test.YtkjamheoihlekaaGreatTogether
namespace Go.Proofs.YtkjamheoihlekaaGreat
set_option linter.unusedVariables false
set_option linter.unusedSimpArgs false
open Go.RowKit Go.Maps
def sC (S : Int → Bool) : Int → Option Value := fun v => if S v = true then some (.bool true) else none
theorem sC_getD (S : Int → Bool) (v : Int) : (sC S v).getD (.bool false) = .bool (S v) := by
  unfold sC
  by_cases h : S v = true <;> simp [h]
theorem sC_ne {S : Int → Bool} {v : Int} : sC S v ≠ none ↔ S v = true := by
  unfold sC
  by_cases h : S v = true <;> simp [h]
/-- The marks S stand in map m; all below m is as it was. -/
structure SeenAt (W X : World) (m : Nat) (S : Int → Bool) : Prop where
  mp : ∃ cnt, MapB intFam X m cnt (sC S)
  low : Below m W X
  sz : m ≤ W.heap.size
section
variable {W X Y : World} {m : Nat} {S : Int → Bool}
theorem SeenAt.lt (h : SeenAt W X m S) : m < X.heap.size := by obtain ⟨cnt, h1⟩ := h.mp; exact h1.lt
theorem SeenAt.more (h : SeenAt W X m S) (hb : Below X.heap.size X Y) : SeenAt W Y m S := by
  have hlt := h.lt
  obtain ⟨cnt, h1⟩ := h.mp
  exact ⟨⟨cnt, h1.below (Nat.le_refl _) hb⟩, below_more h.low hb (by omega), h.sz⟩
theorem SeenAt.congr {S' : Int → Bool} (h : SeenAt W X m S) (hs : ∀ v, S v = S' v) : SeenAt W X m S' := by
  obtain rfl : S = S' := funext hs
  exact h
theorem SeenAt.look (h : SeenAt W X m S) (v : Int) (hv : I64 v) : (Instr.lookup 67 (.map (some m)) (.int .i64 v) false).run Tryz.prog X = .ok (.bool (S v)) X := by
  obtain ⟨cnt, h1⟩ := h.mp
  have := h1.to.look 67 4 (by kernel_rfl) zeroBool v hv false
  simp only [Bool.false_eq_true, if_false, intFam, sC_getD] at this
  exact this
theorem SeenAt.mark (h : SeenAt W X m S) (a : Int) (ha : I64 a) : ∃ Y, (Instr.mapUpdate 67 (.map (some m)) (.int .i64 a) (.bool true)).run Tryz.prog X = .ok () Y ∧ SeenAt W Y m (fun v => decide (v = a) || S v) ∧ X.grownBy Y (some m) := by
  have hlt := h.lt
  obtain ⟨cnt, h1⟩ := h.mp
  obtain ⟨Y, e1, e2, e3⟩ := h1.store 67 4 (by kernel_rfl) a ha (.bool true)
  refine ⟨Y, e1, ⟨⟨if (sC S a).isSome = true then cnt else cnt + 1, ?_⟩, h.low.grown e3 (by omega) (fun q hq => by cases hq; exact Nat.le_refl _), h.sz⟩, e3⟩
  have : (fun b => if b = a then some (Value.bool true) else sC S b) = sC (fun v => decide (v = a) || S v) := by
    funext b
    unfold sC
    by_cases h : b = a <;> simp [h]
  rw [this] at e2
  exact e2
/-- As many entries as marks. -/
theorem SeenAt.len (h : SeenAt W X m S) {V : List Int} (hn : V.Nodup) (hV : ∀ v, v ∈ V ↔ S v = true) : (Builtin.len_ #[67] 3 #[.map (some m)]).run Tryz.prog X = .ok (.int .i64 (V.length : Nat)) X := by
  obtain ⟨cnt, h1⟩ := h.mp
  have hle := mapB_bound h1 (S := V) fun a ha => (hV a).2 (sC_ne.1 ha)
  have hl := hm_len h1.to
  obtain ⟨L, clock, q1, q2, q3, q4, q5⟩ := h1
  have hge : V.length ≤ L.length := by
    have hnd : (V.map intFam.kv).Nodup := by
      rw [List.nodup_iff_pairwise_ne, List.pairwise_map]
      exact (List.nodup_iff_pairwise_ne.1 hn).imp fun {a b} hab e => hab (intFam.inj a b e)
    have := hnd.length_le_of_subset (l₂ := L.map (·.key)) fun x hx => by
      obtain ⟨v, hv, rfl⟩ := List.mem_map.1 hx
      have hs := (hV v).1 hv
      obtain ⟨e, he, hk⟩ := q4 v (.bool true) (by unfold sC; rw [if_pos hs])
      exact List.mem_map.2 ⟨e, he, hk⟩
    simpa using this
  rw [show cnt = V.length by omega] at hl
  exact hl
theorem SeenAt.first (W : World) (a : Int) (ha : I64 a) : ∃ Y, (Instr.mapUpdate 67 (.map (some W.heap.size)) (.int .i64 a) (.bool true)).run Tryz.prog (W.alloc (.map #[] 0)) = .ok () Y ∧ SeenAt W Y W.heap.size (fun v => decide (v = a)) := by
  have h0 : SeenAt W (W.alloc (.map #[] 0)) W.heap.size (fun _ => false) := ⟨⟨0, by
    have : sC (fun _ => false) = fun _ => none := by funext v; simp [sC]
    rw [this]
    exact MapB.made W⟩, (Below.refl _ _).alloc (Nat.le_refl _) _, Nat.le_refl _⟩
  obtain ⟨Y, e1, e2, -⟩ := h0.mark a ha
  exact ⟨Y, e1, e2.congr fun v => by simp⟩
theorem SeenAt.two (h : SeenAt W X m S) (e : Int × Int) (h1 : I64 e.1) (h2 : I64 e.2) (hs : S e.1 = true ∨ S e.2 = true) : ∃ Y Y', (Instr.mapUpdate 67 (.map (some m)) (.int .i64 e.1) (.bool true)).run Tryz.prog X = .ok () Y ∧ (Instr.mapUpdate 67 (.map (some m)) (.int .i64 e.2) (.bool true)).run Tryz.prog Y = .ok () Y' ∧ SeenAt W Y' m (markE S e) ∧ X.grownBy Y (some m) ∧ Y.grownBy Y' (some m) := by
  obtain ⟨Y, a1, a2, a3⟩ := h.mark e.1 h1
  obtain ⟨Y', b1, b2, b3⟩ := a2.mark e.2 h2
  refine ⟨Y, Y', a1, b1, b2.congr fun v => ?_, a3, b3⟩
  unfold markE
  rw [if_pos (by simpa using hs)]
  cases decide (v = e.1) <;> cases decide (v = e.2) <;> rfl
theorem SeenAt.two' (h : SeenAt W X m S) (e : Int × Int) (h1 : I64 e.1) (h2 : I64 e.2) (hs : S e.1 = true ∨ S e.2 = true) : ∃ Y Y', (Instr.mapUpdate 67 (.map (some m)) (.int .i64 e.2) (.bool true)).run Tryz.prog X = .ok () Y ∧ (Instr.mapUpdate 67 (.map (some m)) (.int .i64 e.1) (.bool true)).run Tryz.prog Y = .ok () Y' ∧ SeenAt W Y' m (markE S e) ∧ X.grownBy Y (some m) ∧ Y.grownBy Y' (some m) := by
  obtain ⟨Y, a1, a2, a3⟩ := h.mark e.2 h2
  obtain ⟨Y', b1, b2, b3⟩ := a2.mark e.1 h1
  refine ⟨Y, Y', a1, b1, b2.congr fun v => ?_, a3, b3⟩
  unfold markE
  rw [if_pos (by simpa using hs)]
  cases decide (v = e.1) <;> cases decide (v = e.2) <;> rfl
end
theorem sweep_take (E : List (Int × Int)) (S : Int → Bool) {j : Nat} {e : Int × Int} (he : E[j]? = some e) : (E.take (j + 1)).foldl markE S = markE ((E.take j).foldl markE S) e := by
  rw [List.take_add_one, he, List.foldl_append]
  rfl
end Go.Proofs.YtkjamheoihlekaaGreat

/- The vertices of a triangle by value. The keys of a triangle (certify.twice, certify.mirrored): its directed edges; its sorted vertices. -/
import Derived.Test.YtbeefabboabfgaaSurfDef
import Derived.RegionTactic
import Derived.ChangeAlike
import Derived.Test.YtbeefabboabfgaaShelf
import Derived.Sort.OwnSortedInts
namespace Go.Proofs.Ytbeefabboabfgaa
set_option linter.unusedVariables false
set_option linter.unusedSimpArgs false
open Go.RowKit
open Go.RowKit Go.Sort
theorem index_tri0 (x y z : Value) (w : World) : (Instr.index 38 (.agg #[x, y, z]) (.int .i64 0)).run Try.prog w = .ok x w := by kernel_rfl
theorem index_tri1 (x y z : Value) (w : World) : (Instr.index 38 (.agg #[x, y, z]) (.int .i64 1)).run Try.prog w = .ok y w := by kernel_rfl
theorem index_tri2 (x y z : Value) (w : World) : (Instr.index 38 (.agg #[x, y, z]) (.int .i64 2)).run Try.prog w = .ok z w := by kernel_rfl
theorem index_tri (x y z : Int) (j : Nat) (hj : j < 3) : ∀ w, (Instr.index 38 (.agg #[.int .i64 x, .int .i64 y, .int .i64 z]) (.int .i64 (j : Int))).run Try.prog w = .ok (.int .i64 (tg (x, y, z) j)) w := fun w => by
  match j, hj with
  | 0, _ => exact index_tri0 _ _ _ w
  | 1, _ => exact index_tri1 _ _ _ w
  | 2, _ => exact index_tri2 _ _ _ w
/-- Keys in cells. -/
abbrev Ky := Int × Int × Int
def kcells (L : List Ky) : List Value := L.flatMap fun t => [.int .i64 t.1, .int .i64 t.2.1, .int .i64 t.2.2]
def keys3 (t : Tr) : List Ky := [(t.1, t.2.1, 0), (t.2.1, t.2.2, 0), (t.2.2, t.1, 0)]
def sort3 (t : Tr) : Ky := match [t.1, t.2.1, t.2.2].mergeSort (fun x y => decide (x ≤ y)) with
  | [a, b, c] => (a, b, c)
  | _ => (0, 0, 0)
theorem sort3_eq (t : Tr) : [t.1, t.2.1, t.2.2].mergeSort (fun x y => decide (x ≤ y)) = [(sort3 t).1, (sort3 t).2.1, (sort3 t).2.2] := by
  have hl := List.length_mergeSort (le := fun x y => decide (x ≤ y)) [t.1, t.2.1, t.2.2]
  unfold sort3
  revert hl
  generalize [t.1, t.2.1, t.2.2].mergeSort (fun x y => decide (x ≤ y)) = L
  intro hl
  match L, hl with
  | [a, b, c], _ => rfl
def keys4 (t : Tr) : List Ky := [sort3 t]
set_option maxHeartbeats 400000 in
theorem twice_keys (x y z : Int) (w : World) :
    Calls Try.prog 58 #[.agg #[.int .i64 x, .int .i64 y, .int .i64 z]] w fun e w' => ∃ g, e = .returned (.slice (some ⟨g, 0, none⟩) 3 3) ∧ w.heap.size ≤ g ∧ RowIs w' g 37 (kcells (keys3 (x, y, z))) ∧ Below w.heap.size w w' := by
  have hr := RowIs.made (w.alloc (.cells #[.int .i64 x, .int .i64 y, .int .i64 z] 38)) 37 (kcells (keys3 (x, y, z)))
  have e : (w.alloc (.cells #[.int .i64 x, .int .i64 y, .int .i64 z] 38)).heap.size = w.heap.size + 1 := by simp
  rw [e] at hr
  have HR := Lib.hid hr
  clear hr e
  go_enter Try.func58, Try.ntmps58
  go_wp2
  go_ret
  exact ⟨w.heap.size + 1, rfl, by omega, HR.out, ((Below.refl _ _).alloc (Nat.le_refl _) _).alloc (by simp) _⟩
/-- slices.Sort over a block of numbers that is known whole. -/
theorem sort_row {w : World} {g : Nat} {e : TypeId} {zs : List Int} (h : RowIs w g e (zs.map (Value.int .i64))) (hl : zs.length < 4611686018427387904) (cap : Nat) :
    Calls Try.prog 60 #[.slice (some ⟨g, 0, none⟩) zs.length cap] w fun r w' => r = .returned (.tuple #[]) ∧ RowIs w' g e ((zs.mergeSort fun x y => decide (x ≤ y)).map (Value.int .i64)) ∧ w.grownBy w' (some g) := by
  refine (Try.slices_Sort_int g 0 cap zs w (holds_of_blockI h (by simp [List.take_of_length_le])) h.lt hl).mono ?_
  rintro r w' ⟨rfl, n, os, rfl⟩
  refine ⟨rfl, ?_, grownBy_sortedI _⟩
  have h1 := heap_sortedI (n := n) (os := os) (zs.mergeSort fun x y => decide (x ≤ y)).toArray h
  unfold RowIs
  rw [h1]
  have h2 := take_putCellsI (zs.map (Value.int .i64)).toArray (zs.mergeSort fun x y => decide (x ≤ y)) (by simp [List.length_mergeSort])
  have h3 : (putCells (Value.int .i64) 0 (zs.mergeSort fun x y => decide (x ≤ y)).toArray (zs.map (Value.int .i64)).toArray).toList = (zs.mergeSort fun x y => decide (x ≤ y)).map (Value.int .i64) := by
    rw [← h2, List.take_of_length_le]
    rw [Array.length_toList, putCells, Array.size_mapIdx]
    simp [List.length_mergeSort]
  rw [← h3]
set_option maxHeartbeats 400000 in
theorem mirrored_keys (x y z : Int) (w : World) :
    Calls Try.prog 59 #[.agg #[.int .i64 x, .int .i64 y, .int .i64 z]] w fun e w' => ∃ g, e = .returned (.slice (some ⟨g, 0, none⟩) 1 1) ∧ w.heap.size ≤ g ∧ RowIs w' g 37 (kcells (keys4 (x, y, z))) ∧ Below w.heap.size w w' := by
  have hr := RowIs.made (w.alloc (.cells #[.int .i64 x, .int .i64 y, .int .i64 z] 38)) 38 ([x, y, z].map (Value.int .i64))
  have e : (w.alloc (.cells #[.int .i64 x, .int .i64 y, .int .i64 z] 38)).heap.size = w.heap.size + 1 := by simp
  rw [e] at hr
  have HC := Lib.hid (sort_row hr (by simp) 3)
  have HB := Lib.hid (show Below w.heap.size w ((w.alloc (.cells #[.int .i64 x, .int .i64 y, .int .i64 z] 38)).alloc (.cells #[.int .i64 x, .int .i64 y, .int .i64 z] 38)) from ((Below.refl _ _).alloc (Nat.le_refl _) _).alloc (by simp) _)
  clear hr e
  go_enter Try.func59, Try.ntmps59
  go_wp2_with fail
  refine HC.out.mono ?_
  rintro e w1 ⟨rfl, hr1, hg1⟩
  have HB1 := Lib.hid (HB.out.grown hg1 (by simp; omega) (by intro k hk; cases hk; omega))
  rw [sort3_eq (x, y, z)] at hr1
  have HK := Lib.hid (show keys4 (x, y, z) = [sort3 (x, y, z)] from rfl)
  generalize sort3 (x, y, z) = s at *
  obtain ⟨a, b, c⟩ := s
  have c0 := hr1.cell (i := 0) rfl
  have c1 := hr1.cell (i := 1) rfl
  have c2 := hr1.cell (i := 2) rfl
  have HR := Lib.hid (RowIs.made w1 37 (kcells [(a, b, c)]))
  have hs := hg1.size
  clear hr1 hg1
  go_wp2
  go_ret
  exact ⟨w1.heap.size, rfl, by have := HB1.out.size; omega, by rw [HK.out]; exact HR.out, HB1.out.alloc HB1.out.size _⟩
end Go.Proofs.Ytbeefabboabfgaa

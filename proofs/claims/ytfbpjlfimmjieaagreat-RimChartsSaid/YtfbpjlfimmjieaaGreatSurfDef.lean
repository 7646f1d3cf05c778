/- Surfaces: what the words mean. Plain. Plain laws and words for the triangles round a vertex. The vertices of a triangle by value. The keys of a triangle (certify.twice, certify.mirrored): its directed edges; its sorted vertices. -/
import Derived.Test.YtfbpjlfimmjieaaGreatRowl
import Derived.Test.YtfbpjlfimmjieaaGreatFacing
import Derived.RegionTactic
import Derived.ChangeAlike
import Derived.Test.YtfbpjlfimmjieaaGreatShelf
import Derived.Sort.OwnSortedInts
namespace Go.Proofs.YtfbpjlfimmjieaaGreat
set_option linter.unusedVariables false
set_option linter.unusedSimpArgs false
open Go.RowKit
open Go.RowKit Go.Sort
def hasB (t : Tr) (v : Int) : Bool := t.1 == v || t.2.1 == v || t.2.2 == v
def edgeB (t : Tr) (a b : Int) : Bool := t.1 == a && t.2.1 == b || t.2.1 == a && t.2.2 == b || t.2.2 == a && t.1 == b
def twB (t u : Tr) : Bool := edgeB u t.1 t.2.1 || edgeB u t.2.1 t.2.2 || edgeB u t.2.2 t.1
def mirB (t u : Tr) : Bool := hasB u t.1 && hasB u t.2.1 && hasB u t.2.2
theorem VIn.of_three {N : Int} {T : List Tr} (h : ∀ i, i < T.length → ∀ j, j < 3 → 0 ≤ tg (T! T i) j ∧ tg (T! T i) j < N) : VIn N T := fun i hi j => by
  match j with
  | 0 => exact h i hi 0 (by omega)
  | 1 => exact h i hi 1 (by omega)
  | 2 => exact h i hi 2 (by omega)
  | j + 3 => exact h i hi 2 (by omega)
/-- Two triangles at v with another vertex in common. -/
def PAdj (T : List Tr) (v : Int) (i k : Nat) : Prop := i < T.length ∧ k < T.length ∧ hasB (T! T i) v = true ∧ hasB (T! T k) v = true ∧ ∃ j, j < 3 ∧ tg (T! T i) j ≠ v ∧ hasB (T! T k) (tg (T! T i) j) = true
/-- All triangles at v hang together there. -/
def Unpinched (T : List Tr) (v : Int) : Prop := ∀ i k, i < T.length → k < T.length → hasB (T! T i) v = true → hasB (T! T k) v = true → Conn (PAdj T v) i k
def loopB (t : Tr) : Bool := t.1 == t.2.1 || t.2.1 == t.2.2 || t.2.2 == t.1
/-- The triangles are an oriented surface. -/
structure Surf (N : Int) (T : List Tr) : Prop where
  n0 : 0 ≤ N
  n1 : N ≤ 4096
  t1 : T.length ≤ 8192
  vin : VIn N T
  noloop : ∀ i, i < T.length → loopB (T! T i) = false
  tw : ∀ b a, b < T.length → a < b → twB (T! T a) (T! T b) = false
  mir : ∀ b a, b < T.length → a < b → mirB (T! T a) (T! T b) = false
  used : ∀ v, 0 ≤ v → v < N → ∃ i, i < T.length ∧ hasB (T! T i) v = true
  pin : ∀ v, 0 ≤ v → v < N → Unpinched T v
def anyB (T : List Tr) (v : Int) (k : Nat) : Bool := (List.range k).any fun i => hasB (T! T i) v
theorem anyB_succ (T : List Tr) (v : Int) (k : Nat) : anyB T v (k + 1) = (anyB T v k || hasB (T! T k) v) := by simp [anyB, List.range_succ]
theorem anyB_some {T : List Tr} {v : Int} {k : Nat} (h : anyB T v k = true) : ∃ i, i < k ∧ hasB (T! T i) v = true := by simpa [anyB] using h
def atV (T : List Tr) (v : Int) (k : Nat) : List Nat := (List.range k).filter fun i => hasB (T! T i) v
theorem atV_succ_yes {T : List Tr} {v : Int} {k : Nat} (h : hasB (T! T k) v = true) : atV T v (k + 1) = atV T v k ++ [k] := by simp [atV, List.range_succ, h]
theorem atV_succ_no {T : List Tr} {v : Int} {k : Nat} (h : hasB (T! T k) v = false) : atV T v (k + 1) = atV T v k := by simp [atV, List.range_succ, h]
theorem atV_le (T : List Tr) (v : Int) (k : Nat) : (atV T v k).length ≤ k := by
  have := List.length_filter_le (fun i => hasB (T! T i) v) (List.range k)
  simp [atV] at *; omega
theorem atV_mem {T : List Tr} {v : Int} {k i : Nat} : i ∈ atV T v k ↔ i < k ∧ hasB (T! T i) v = true := by simp [atV]
/-- Triangles in cells. -/
def tcells (L : List Tr) : List Value := L.flatMap fun t => [.int .i64 t.1, .int .i64 t.2.1, .int .i64 t.2.2]
theorem tcells_length (L : List Tr) : (tcells L).length = L.length * 3 := by
  induction L with
  | nil => rfl
  | cons a l ih => simp [tcells] at ih ⊢; omega
theorem tcells_snoc (L : List Tr) (t : Tr) : tcells (L ++ [t]) = tcells L ++ [.int .i64 t.1, .int .i64 t.2.1, .int .i64 t.2.2] := by simp [tcells]
theorem tcells_get : ∀ (L : List Tr) (i j : Nat), i < L.length → j < 3 → (tcells L)[i * 3 + j]? = some (.int .i64 (tg (T! L i) j))
  | [], i, _, h, _ => by simp at h
  | t :: l, 0, j, _, hj => by
    match j, hj with
    | 0, _ => rfl
    | 1, _ => rfl
    | 2, _ => rfl
  | t :: l, i + 1, j, h, hj => by
    have ih := tcells_get l i j (by simpa using h) hj
    have e : (i + 1) * 3 + j = i * 3 + j + 3 := by omega
    rw [e]
    show (tcells l)[i * 3 + j]? = _
    rw [ih]
    simp [T!]
theorem owns_tris {w : World} {base e : Nat} {v : Value} {L : List Tr} (h : w.ownsRow base e 3 v L.length (tcells L)) : ∃ ao cap, v = .slice ao L.length cap ∧ TrisAt w ao L := by
  by_cases hn : 0 < L.length
  · obtain ⟨g, cap, rfl, hb, hg, hc, hm, hcell, _⟩ := owns_block h hn
    refine ⟨_, cap, rfl, fun _ => ⟨g, 0, rfl, hg, fun i hi => ⟨?_, ?_, ?_⟩⟩⟩
    · exact hcell _ _ (by simpa [tg] using tcells_get L i 0 hi (by omega))
    · exact hcell _ _ (by simpa [tg] using tcells_get L i 1 hi (by omega))
    · exact hcell _ _ (by simpa [tg] using tcells_get L i 2 hi (by omega))
  · obtain ⟨ao, cap, rfl⟩ := owns_slice h
    exact ⟨ao, cap, rfl, fun hne => absurd (List.length_pos_iff.2 hne) hn⟩
theorem T!_map (I : List Nat) (T : List Tr) (p : Nat) (h : p < I.length) : T! (I.map (T! T)) p = T! T (I.getD p 0) := by
  simp [T!, h]
/-- Bools in cells. -/
def bv (f : Nat → Bool) (n : Nat) : List Value := (List.range n).map fun j => .bool (f j)
def updB (f : Nat → Bool) (x : Nat) (v : Bool) : Nat → Bool := fun j => if j = x then v else f j
theorem bv_get (f : Nat → Bool) {n i : Nat} (h : i < n) : (bv f n)[i]? = some (.bool (f i)) := by simp [bv, h]
theorem bv_set (f : Nat → Bool) (n x : Nat) (v : Bool) : (bv f n).set x (.bool v) = bv (updB f x v) n := by
  refine set_map_range n _ _ x _ fun j => ?_
  unfold updB
  split <;> rfl
theorem madeCells_bv (n : Nat) : (madeCells #[Value.bool false] n).toList = bv (fun _ => false) n := by
  apply List.ext_getElem
  · simp [madeCells, bv]
  · intro i h1 h2
    simp [madeCells, bv, Nat.mod_one]
/-- What is marked is reached. -/
def PInv (T : List Tr) (v : Int) (I : List Nat) (β : Nat → Bool) : Prop := ∀ p, p < I.length → β p = true → Conn (PAdj T v) (I.getD 0 0) (I.getD p 0)
theorem PInv.start (T : List Tr) (v : Int) (I : List Nat) : PInv T v I (updB (fun _ => false) 0 true) := fun p _ h => by
  unfold updB at h
  split at h
  · subst_vars; exact .refl _
  · cases h
theorem PInv.mark {T : List Tr} {v : Int} {k : Nat} {β : Nat → Bool} (h : PInv T v (atV T v k) β) (hkT : k ≤ T.length) {i p j : Nat} (hi : i < (atV T v k).length) (hp : p < (atV T v k).length) (hb : β i = true) (hj : j < 3)
    (hne : tg (T! T ((atV T v k).getD i 0)) j ≠ v) (hh : hasB (T! T ((atV T v k).getD p 0)) (tg (T! T ((atV T v k).getD i 0)) j) = true) : PInv T v (atV T v k) (updB β p true) := fun q hq hqb => by
  unfold updB at hqb
  have mem : ∀ r, r < (atV T v k).length → (atV T v k).getD r 0 < T.length ∧ hasB (T! T ((atV T v k).getD r 0)) v = true := fun r hr => by
    have : (atV T v k).getD r 0 ∈ atV T v k := by
      rw [List.getD_eq_getElem?_getD, List.getElem?_eq_getElem hr]
      exact List.getElem_mem hr
    have h1 := atV_mem.1 this
    exact ⟨by omega, h1.2⟩
  split at hqb
  · rename_i e
    rw [e]
    exact (h i hi hb).step ⟨(mem i hi).1, (mem p hp).1, (mem i hi).2, (mem p hp).2, j, hj, hne, hh⟩
  · exact h q hq hqb
theorem PInv.stop {T : List Tr} {v : Int} {β : Nat → Bool} (h : PInv T v (atV T v T.length) β) (hall : ∀ p, p < (atV T v T.length).length → β p = true) : Unpinched T v := by
  intro i k hi hk h1 h2
  have get : ∀ x, x < T.length → hasB (T! T x) v = true → Conn (PAdj T v) ((atV T v T.length).getD 0 0) x := fun x hx hb => by
    obtain ⟨p, hp⟩ := List.mem_iff_getElem?.1 (atV_mem.2 ⟨hx, hb⟩)
    have hpl := (List.getElem?_eq_some_iff.1 hp).1
    have := h p hpl (hall p hpl)
    have e : (atV T v T.length).getD p 0 = x := by rw [List.getD_eq_getElem?_getD, hp]; rfl
    rwa [e] at this
  exact (get i hi h1).symm.trans (get k hk h2)
theorem PInv.empty {T : List Tr} {v : Int} (h : (atV T v T.length).length = 0) : Unpinched T v := fun i _ hi _ h1 _ => by
  have := List.length_pos_of_mem (atV_mem.2 ⟨hi, h1⟩)
  omega
theorem info49 : (Tryz.prog.info? 49).map (fun i => (i.zero, i.size, i.bytes)) = some (some (.agg #[.int .i64 0, .int .i64 0, .int .i64 0]), 3, 24) := by kernel_rfl
theorem info4 : (Tryz.prog.info? 4).map (fun i => (i.zero, i.size, i.bytes)) = some (some (.bool false), 1, 1) := by kernel_rfl
theorem index_tri0 (x y z : Value) (w : World) : (Instr.index 49 (.agg #[x, y, z]) (.int .i64 0)).run Tryz.prog w = .ok x w := by kernel_rfl
theorem index_tri1 (x y z : Value) (w : World) : (Instr.index 49 (.agg #[x, y, z]) (.int .i64 1)).run Tryz.prog w = .ok y w := by kernel_rfl
theorem index_tri2 (x y z : Value) (w : World) : (Instr.index 49 (.agg #[x, y, z]) (.int .i64 2)).run Tryz.prog w = .ok z w := by kernel_rfl
theorem index_tri (x y z : Int) (j : Nat) (hj : j < 3) : ∀ w, (Instr.index 49 (.agg #[.int .i64 x, .int .i64 y, .int .i64 z]) (.int .i64 (j : Int))).run Tryz.prog w = .ok (.int .i64 (tg (x, y, z) j)) w := fun w => by
  match j, hj with
  | 0, _ => exact index_tri0 _ _ _ w
  | 1, _ => exact index_tri1 _ _ _ w
  | 2, _ => exact index_tri2 _ _ _ w
/-- Keys in cells. -/
abbrev Ky := Int × Int × Int
def kcells (L : List Ky) : List Value := L.flatMap fun t => [.int .i64 t.1, .int .i64 t.2.1, .int .i64 t.2.2]
def keys3 (t : Tr) : List Ky := [(t.1, t.2.1, 0), (t.2.1, t.2.2, 0), (t.2.2, t.1, 0)]
def sort3 (t : Tr) : Ky := match [t.1, t.2.1, t.2.2].mergeSort (fun x y => decide (x ≤ y)) with
  | [a, b, c] => (a, b, c)
  | _ => (0, 0, 0)
theorem sort3_eq (t : Tr) : [t.1, t.2.1, t.2.2].mergeSort (fun x y => decide (x ≤ y)) = [(sort3 t).1, (sort3 t).2.1, (sort3 t).2.2] := by
  have hl := List.length_mergeSort (le := fun x y => decide (x ≤ y)) [t.1, t.2.1, t.2.2]
  unfold sort3
  revert hl
  generalize [t.1, t.2.1, t.2.2].mergeSort (fun x y => decide (x ≤ y)) = L
  intro hl
  match L, hl with
  | [a, b, c], _ => rfl
def keys4 (t : Tr) : List Ky := [sort3 t]
set_option maxHeartbeats 400000 in
theorem twice_keys (x y z : Int) (w : World) :
    Calls Tryz.prog 141 #[.agg #[.int .i64 x, .int .i64 y, .int .i64 z]] w fun e w' => ∃ g, e = .returned (.slice (some ⟨g, 0, none⟩) 3 3) ∧ w.heap.size ≤ g ∧ RowIs w' g 48 (kcells (keys3 (x, y, z))) ∧ Below w.heap.size w w' := by
  have hr := RowIs.made (w.alloc (.cells #[.int .i64 x, .int .i64 y, .int .i64 z] 49)) 48 (kcells (keys3 (x, y, z)))
  have e : (w.alloc (.cells #[.int .i64 x, .int .i64 y, .int .i64 z] 49)).heap.size = w.heap.size + 1 := by simp
  rw [e] at hr
  have HR := Lib.hid hr
  clear hr e
  go_enter Tryz.func141, Tryz.ntmps141
  go_wp2
  go_ret
  exact ⟨w.heap.size + 1, rfl, by omega, HR.out, ((Below.refl _ _).alloc (Nat.le_refl _) _).alloc (by simp) _⟩
/-- slices.Sort over a block of numbers that is known whole. -/
theorem sort_row {w : World} {g : Nat} {e : TypeId} {zs : List Int} (h : RowIs w g e (zs.map (Value.int .i64))) (hl : zs.length < 4611686018427387904) (cap : Nat) :
    Calls Tryz.prog 143 #[.slice (some ⟨g, 0, none⟩) zs.length cap] w fun r w' => r = .returned (.tuple #[]) ∧ RowIs w' g e ((zs.mergeSort fun x y => decide (x ≤ y)).map (Value.int .i64)) ∧ w.grownBy w' (some g) := by
  refine (Tryz.slices_Sort_int g 0 cap zs w (holds_of_blockI h (by simp [List.take_of_length_le])) h.lt hl).mono ?_
  rintro r w' ⟨rfl, n, os, rfl⟩
  refine ⟨rfl, ?_, grownBy_sortedI _⟩
  have h1 := heap_sortedI (n := n) (os := os) (zs.mergeSort fun x y => decide (x ≤ y)).toArray h
  unfold RowIs
  rw [h1]
  have h2 := take_putCellsI (zs.map (Value.int .i64)).toArray (zs.mergeSort fun x y => decide (x ≤ y)) (by simp [List.length_mergeSort])
  have h3 : (putCells (Value.int .i64) 0 (zs.mergeSort fun x y => decide (x ≤ y)).toArray (zs.map (Value.int .i64)).toArray).toList = (zs.mergeSort fun x y => decide (x ≤ y)).map (Value.int .i64) := by
    rw [← h2, List.take_of_length_le]
    rw [Array.length_toList, putCells, Array.size_mapIdx]
    simp [List.length_mergeSort]
  rw [← h3]
set_option maxHeartbeats 400000 in
theorem mirrored_keys (x y z : Int) (w : World) :
    Calls Tryz.prog 142 #[.agg #[.int .i64 x, .int .i64 y, .int .i64 z]] w fun e w' => ∃ g, e = .returned (.slice (some ⟨g, 0, none⟩) 1 1) ∧ w.heap.size ≤ g ∧ RowIs w' g 48 (kcells (keys4 (x, y, z))) ∧ Below w.heap.size w w' := by
  have hr := RowIs.made (w.alloc (.cells #[.int .i64 x, .int .i64 y, .int .i64 z] 49)) 49 ([x, y, z].map (Value.int .i64))
  have e : (w.alloc (.cells #[.int .i64 x, .int .i64 y, .int .i64 z] 49)).heap.size = w.heap.size + 1 := by simp
  rw [e] at hr
  have HC := Lib.hid (sort_row hr (by simp) 3)
  have HB := Lib.hid (show Below w.heap.size w ((w.alloc (.cells #[.int .i64 x, .int .i64 y, .int .i64 z] 49)).alloc (.cells #[.int .i64 x, .int .i64 y, .int .i64 z] 49)) from ((Below.refl _ _).alloc (Nat.le_refl _) _).alloc (by simp) _)
  clear hr e
  go_enter Tryz.func142, Tryz.ntmps142
  go_wp2_with fail
  refine HC.out.mono ?_
  rintro e w1 ⟨rfl, hr1, hg1⟩
  have HB1 := Lib.hid (HB.out.grown hg1 (by simp; omega) (by intro k hk; cases hk; omega))
  rw [sort3_eq (x, y, z)] at hr1
  have HK := Lib.hid (show keys4 (x, y, z) = [sort3 (x, y, z)] from rfl)
  generalize sort3 (x, y, z) = s at *
  obtain ⟨a, b, c⟩ := s
  have c0 := hr1.cell (i := 0) rfl
  have c1 := hr1.cell (i := 1) rfl
  have c2 := hr1.cell (i := 2) rfl
  have HR := Lib.hid (RowIs.made w1 48 (kcells [(a, b, c)]))
  have hs := hg1.size
  clear hr1 hg1
  go_wp2
  go_ret
  exact ⟨w1.heap.size, rfl, by have := HB1.out.size; omega, by rw [HK.out]; exact HR.out, HB1.out.alloc HB1.out.size _⟩
end Go.Proofs.YtfbpjlfimmjieaaGreat

/- Surfaces: what the words mean. Plain. Plain laws and words for the triangles round a vertex. The vertices of a triangle by value. The keys of a triangle (certify.twice, certify.mirrored): its directed edges; its sorted vertices. soup.Fits: of a surface it is true. soup.Join of two surfaces. slices.Clone of a list of triangles. 'append(v, x...)', however many. s.T[:a], s.T[a:]. -/
import Derived.Test.YtkjamheoihlekaaGreatRowl
import Derived.Test.YtkjamheoihlekaaGreatCorner
import Derived.RegionTactic
import Derived.ChangeAlike
import Derived.Test.YtkjamheoihlekaaGreatShelf
import Derived.Sort.OwnSortedInts
import Derived.Deep.AppendLies
import Derived.Maps.AppendAt
import Derived.ChangeKeysEq
namespace Go.Proofs.YtkjamheoihlekaaGreat
set_option linter.unusedVariables false
set_option linter.unusedSimpArgs false
open Go.RowKit
open Go.RowKit Go.Sort
def hasB (t : Tr) (v : Int) : Bool := t.1 == v || t.2.1 == v || t.2.2 == v
def edgeB (t : Tr) (a b : Int) : Bool := t.1 == a && t.2.1 == b || t.2.1 == a && t.2.2 == b || t.2.2 == a && t.1 == b
def twB (t u : Tr) : Bool := edgeB u t.1 t.2.1 || edgeB u t.2.1 t.2.2 || edgeB u t.2.2 t.1
def mirB (t u : Tr) : Bool := hasB u t.1 && hasB u t.2.1 && hasB u t.2.2
theorem VIn.of_three {N : Int} {T : List Tr} (h : ∀ i, i < T.length → ∀ j, j < 3 → 0 ≤ tg (T! T i) j ∧ tg (T! T i) j < N) : VIn N T := fun i hi j => by
  match j with
  | 0 => exact h i hi 0 (by omega)
  | 1 => exact h i hi 1 (by omega)
  | 2 => exact h i hi 2 (by omega)
  | j + 3 => exact h i hi 2 (by omega)
/-- Two triangles at v with another vertex in common. -/
def PAdj (T : List Tr) (v : Int) (i k : Nat) : Prop := i < T.length ∧ k < T.length ∧ hasB (T! T i) v = true ∧ hasB (T! T k) v = true ∧ ∃ j, j < 3 ∧ tg (T! T i) j ≠ v ∧ hasB (T! T k) (tg (T! T i) j) = true
/-- All triangles at v hang together there. -/
def Unpinched (T : List Tr) (v : Int) : Prop := ∀ i k, i < T.length → k < T.length → hasB (T! T i) v = true → hasB (T! T k) v = true → Conn (PAdj T v) i k
def loopB (t : Tr) : Bool := t.1 == t.2.1 || t.2.1 == t.2.2 || t.2.2 == t.1
/-- The triangles are an oriented surface. -/
structure Surf (N : Int) (T : List Tr) : Prop where
  n0 : 0 ≤ N
  n1 : N ≤ 4096
  t1 : T.length ≤ 8192
  vin : VIn N T
  noloop : ∀ i, i < T.length → loopB (T! T i) = false
  tw : ∀ b a, b < T.length → a < b → twB (T! T a) (T! T b) = false
  mir : ∀ b a, b < T.length → a < b → mirB (T! T a) (T! T b) = false
  used : ∀ v, 0 ≤ v → v < N → ∃ i, i < T.length ∧ hasB (T! T i) v = true
  pin : ∀ v, 0 ≤ v → v < N → Unpinched T v
def anyB (T : List Tr) (v : Int) (k : Nat) : Bool := (List.range k).any fun i => hasB (T! T i) v
theorem anyB_succ (T : List Tr) (v : Int) (k : Nat) : anyB T v (k + 1) = (anyB T v k || hasB (T! T k) v) := by simp [anyB, List.range_succ]
theorem anyB_some {T : List Tr} {v : Int} {k : Nat} (h : anyB T v k = true) : ∃ i, i < k ∧ hasB (T! T i) v = true := by simpa [anyB] using h
def atV (T : List Tr) (v : Int) (k : Nat) : List Nat := (List.range k).filter fun i => hasB (T! T i) v
theorem atV_succ_yes {T : List Tr} {v : Int} {k : Nat} (h : hasB (T! T k) v = true) : atV T v (k + 1) = atV T v k ++ [k] := by simp [atV, List.range_succ, h]
theorem atV_succ_no {T : List Tr} {v : Int} {k : Nat} (h : hasB (T! T k) v = false) : atV T v (k + 1) = atV T v k := by simp [atV, List.range_succ, h]
theorem atV_le (T : List Tr) (v : Int) (k : Nat) : (atV T v k).length ≤ k := by
  have := List.length_filter_le (fun i => hasB (T! T i) v) (List.range k)
  simp [atV] at *; omega
theorem atV_mem {T : List Tr} {v : Int} {k i : Nat} : i ∈ atV T v k ↔ i < k ∧ hasB (T! T i) v = true := by simp [atV]
/-- Triangles in cells. -/
def tcells (L : List Tr) : List Value := L.flatMap fun t => [.int .i64 t.1, .int .i64 t.2.1, .int .i64 t.2.2]
theorem tcells_length (L : List Tr) : (tcells L).length = L.length * 3 := by
  induction L with
  | nil => rfl
  | cons a l ih => simp [tcells] at ih ⊢; omega
theorem tcells_snoc (L : List Tr) (t : Tr) : tcells (L ++ [t]) = tcells L ++ [.int .i64 t.1, .int .i64 t.2.1, .int .i64 t.2.2] := by simp [tcells]
theorem tcells_get : ∀ (L : List Tr) (i j : Nat), i < L.length → j < 3 → (tcells L)[i * 3 + j]? = some (.int .i64 (tg (T! L i) j))
  | [], i, _, h, _ => by simp at h
  | t :: l, 0, j, _, hj => by
    match j, hj with
    | 0, _ => rfl
    | 1, _ => rfl
    | 2, _ => rfl
  | t :: l, i + 1, j, h, hj => by
    have ih := tcells_get l i j (by simpa using h) hj
    have e : (i + 1) * 3 + j = i * 3 + j + 3 := by omega
    rw [e]
    show (tcells l)[i * 3 + j]? = _
    rw [ih]
    simp [T!]
theorem owns_tris {w : World} {base e : Nat} {v : Value} {L : List Tr} (h : w.ownsRow base e 3 v L.length (tcells L)) : ∃ ao cap, v = .slice ao L.length cap ∧ TrisAt w ao L := by
  by_cases hn : 0 < L.length
  · obtain ⟨g, cap, rfl, hb, hg, hc, hm, hcell, _⟩ := owns_block h hn
    refine ⟨_, cap, rfl, fun _ => ⟨g, 0, rfl, hg, fun i hi => ⟨?_, ?_, ?_⟩⟩⟩
    · exact hcell _ _ (by simpa [tg] using tcells_get L i 0 hi (by omega))
    · exact hcell _ _ (by simpa [tg] using tcells_get L i 1 hi (by omega))
    · exact hcell _ _ (by simpa [tg] using tcells_get L i 2 hi (by omega))
  · obtain ⟨ao, cap, rfl⟩ := owns_slice h
    exact ⟨ao, cap, rfl, fun hne => absurd (List.length_pos_iff.2 hne) hn⟩
theorem T!_map (I : List Nat) (T : List Tr) (p : Nat) (h : p < I.length) : T! (I.map (T! T)) p = T! T (I.getD p 0) := by
  simp [T!, h]
/-- Bools in cells. -/
def bv (f : Nat → Bool) (n : Nat) : List Value := (List.range n).map fun j => .bool (f j)
def updB (f : Nat → Bool) (x : Nat) (v : Bool) : Nat → Bool := fun j => if j = x then v else f j
theorem bv_get (f : Nat → Bool) {n i : Nat} (h : i < n) : (bv f n)[i]? = some (.bool (f i)) := by simp [bv, h]
theorem bv_set (f : Nat → Bool) (n x : Nat) (v : Bool) : (bv f n).set x (.bool v) = bv (updB f x v) n := by
  refine set_map_range n _ _ x _ fun j => ?_
  unfold updB
  split <;> rfl
theorem madeCells_bv (n : Nat) : (madeCells #[Value.bool false] n).toList = bv (fun _ => false) n := by
  apply List.ext_getElem
  · simp [madeCells, bv]
  · intro i h1 h2
    simp [madeCells, bv, Nat.mod_one]
/-- What is marked is reached. -/
def PInv (T : List Tr) (v : Int) (I : List Nat) (β : Nat → Bool) : Prop := ∀ p, p < I.length → β p = true → Conn (PAdj T v) (I.getD 0 0) (I.getD p 0)
theorem PInv.start (T : List Tr) (v : Int) (I : List Nat) : PInv T v I (updB (fun _ => false) 0 true) := fun p _ h => by
  unfold updB at h
  split at h
  · subst_vars; exact .refl _
  · cases h
theorem PInv.mark {T : List Tr} {v : Int} {k : Nat} {β : Nat → Bool} (h : PInv T v (atV T v k) β) (hkT : k ≤ T.length) {i p j : Nat} (hi : i < (atV T v k).length) (hp : p < (atV T v k).length) (hb : β i = true) (hj : j < 3)
    (hne : tg (T! T ((atV T v k).getD i 0)) j ≠ v) (hh : hasB (T! T ((atV T v k).getD p 0)) (tg (T! T ((atV T v k).getD i 0)) j) = true) : PInv T v (atV T v k) (updB β p true) := fun q hq hqb => by
  unfold updB at hqb
  have mem : ∀ r, r < (atV T v k).length → (atV T v k).getD r 0 < T.length ∧ hasB (T! T ((atV T v k).getD r 0)) v = true := fun r hr => by
    have : (atV T v k).getD r 0 ∈ atV T v k := by
      rw [List.getD_eq_getElem?_getD, List.getElem?_eq_getElem hr]
      exact List.getElem_mem hr
    have h1 := atV_mem.1 this
    exact ⟨by omega, h1.2⟩
  split at hqb
  · rename_i e
    rw [e]
    exact (h i hi hb).step ⟨(mem i hi).1, (mem p hp).1, (mem i hi).2, (mem p hp).2, j, hj, hne, hh⟩
  · exact h q hq hqb
theorem PInv.stop {T : List Tr} {v : Int} {β : Nat → Bool} (h : PInv T v (atV T v T.length) β) (hall : ∀ p, p < (atV T v T.length).length → β p = true) : Unpinched T v := by
  intro i k hi hk h1 h2
  have get : ∀ x, x < T.length → hasB (T! T x) v = true → Conn (PAdj T v) ((atV T v T.length).getD 0 0) x := fun x hx hb => by
    obtain ⟨p, hp⟩ := List.mem_iff_getElem?.1 (atV_mem.2 ⟨hx, hb⟩)
    have hpl := (List.getElem?_eq_some_iff.1 hp).1
    have := h p hpl (hall p hpl)
    have e : (atV T v T.length).getD p 0 = x := by rw [List.getD_eq_getElem?_getD, hp]; rfl
    rwa [e] at this
  exact (get i hi h1).symm.trans (get k hk h2)
theorem PInv.empty {T : List Tr} {v : Int} (h : (atV T v T.length).length = 0) : Unpinched T v := fun i _ hi _ h1 _ => by
  have := List.length_pos_of_mem (atV_mem.2 ⟨hi, h1⟩)
  omega
theorem info49 : (Tryz.prog.info? 72).map (fun i => (i.zero, i.size, i.bytes)) = some (some (.agg #[.int .i64 0, .int .i64 0, .int .i64 0]), 3, 24) := by kernel_rfl
theorem info4 : (Tryz.prog.info? 4).map (fun i => (i.zero, i.size, i.bytes)) = some (some (.bool false), 1, 1) := by kernel_rfl
theorem index_tri0 (x y z : Value) (w : World) : (Instr.index 72 (.agg #[x, y, z]) (.int .i64 0)).run Tryz.prog w = .ok x w := by kernel_rfl
theorem index_tri1 (x y z : Value) (w : World) : (Instr.index 72 (.agg #[x, y, z]) (.int .i64 1)).run Tryz.prog w = .ok y w := by kernel_rfl
theorem index_tri2 (x y z : Value) (w : World) : (Instr.index 72 (.agg #[x, y, z]) (.int .i64 2)).run Tryz.prog w = .ok z w := by kernel_rfl
theorem index_tri (x y z : Int) (j : Nat) (hj : j < 3) : ∀ w, (Instr.index 72 (.agg #[.int .i64 x, .int .i64 y, .int .i64 z]) (.int .i64 (j : Int))).run Tryz.prog w = .ok (.int .i64 (tg (x, y, z) j)) w := fun w => by
  match j, hj with
  | 0, _ => exact index_tri0 _ _ _ w
  | 1, _ => exact index_tri1 _ _ _ w
  | 2, _ => exact index_tri2 _ _ _ w
/-- Keys in cells. -/
abbrev Ky := Int × Int × Int
def kcells (L : List Ky) : List Value := L.flatMap fun t => [.int .i64 t.1, .int .i64 t.2.1, .int .i64 t.2.2]
def keys3 (t : Tr) : List Ky := [(t.1, t.2.1, 0), (t.2.1, t.2.2, 0), (t.2.2, t.1, 0)]
def sort3 (t : Tr) : Ky := match [t.1, t.2.1, t.2.2].mergeSort (fun x y => decide (x ≤ y)) with
  | [a, b, c] => (a, b, c)
  | _ => (0, 0, 0)
theorem sort3_eq (t : Tr) : [t.1, t.2.1, t.2.2].mergeSort (fun x y => decide (x ≤ y)) = [(sort3 t).1, (sort3 t).2.1, (sort3 t).2.2] := by
  have hl := List.length_mergeSort (le := fun x y => decide (x ≤ y)) [t.1, t.2.1, t.2.2]
  unfold sort3
  revert hl
  generalize [t.1, t.2.1, t.2.2].mergeSort (fun x y => decide (x ≤ y)) = L
  intro hl
  match L, hl with
  | [a, b, c], _ => rfl
def keys4 (t : Tr) : List Ky := [sort3 t]
set_option maxHeartbeats 400000 in
theorem twice_keys (x y z : Int) (w : World) :
    Calls Tryz.prog 157 #[.agg #[.int .i64 x, .int .i64 y, .int .i64 z]] w fun e w' => ∃ g, e = .returned (.slice (some ⟨g, 0, none⟩) 3 3) ∧ w.heap.size ≤ g ∧ RowIs w' g 71 (kcells (keys3 (x, y, z))) ∧ Below w.heap.size w w' := by
  have hr := RowIs.made (w.alloc (.cells #[.int .i64 x, .int .i64 y, .int .i64 z] 72)) 71 (kcells (keys3 (x, y, z)))
  have e : (w.alloc (.cells #[.int .i64 x, .int .i64 y, .int .i64 z] 72)).heap.size = w.heap.size + 1 := by simp
  rw [e] at hr
  have HR := Lib.hid hr
  clear hr e
  go_enter Tryz.func157, Tryz.ntmps157
  go_wp2
  go_ret
  exact ⟨w.heap.size + 1, rfl, by omega, HR.out, ((Below.refl _ _).alloc (Nat.le_refl _) _).alloc (by simp) _⟩
/-- slices.Sort over a block of numbers that is known whole. -/
theorem sort_row {w : World} {g : Nat} {e : TypeId} {zs : List Int} (h : RowIs w g e (zs.map (Value.int .i64))) (hl : zs.length < 4611686018427387904) (cap : Nat) :
    Calls Tryz.prog 92 #[.slice (some ⟨g, 0, none⟩) zs.length cap] w fun r w' => r = .returned (.tuple #[]) ∧ RowIs w' g e ((zs.mergeSort fun x y => decide (x ≤ y)).map (Value.int .i64)) ∧ w.grownBy w' (some g) := by
  refine (Tryz.slices_Sort_int g 0 cap zs w (holds_of_blockI h (by simp [List.take_of_length_le])) h.lt hl).mono ?_
  rintro r w' ⟨rfl, n, os, rfl⟩
  refine ⟨rfl, ?_, grownBy_sortedI _⟩
  have h1 := heap_sortedI (n := n) (os := os) (zs.mergeSort fun x y => decide (x ≤ y)).toArray h
  unfold RowIs
  rw [h1]
  have h2 := take_putCellsI (zs.map (Value.int .i64)).toArray (zs.mergeSort fun x y => decide (x ≤ y)) (by simp [List.length_mergeSort])
  have h3 : (putCells (Value.int .i64) 0 (zs.mergeSort fun x y => decide (x ≤ y)).toArray (zs.map (Value.int .i64)).toArray).toList = (zs.mergeSort fun x y => decide (x ≤ y)).map (Value.int .i64) := by
    rw [← h2, List.take_of_length_le]
    rw [Array.length_toList, putCells, Array.size_mapIdx]
    simp [List.length_mergeSort]
  rw [← h3]
set_option maxHeartbeats 400000 in
theorem mirrored_keys (x y z : Int) (w : World) :
    Calls Tryz.prog 158 #[.agg #[.int .i64 x, .int .i64 y, .int .i64 z]] w fun e w' => ∃ g, e = .returned (.slice (some ⟨g, 0, none⟩) 1 1) ∧ w.heap.size ≤ g ∧ RowIs w' g 71 (kcells (keys4 (x, y, z))) ∧ Below w.heap.size w w' := by
  have hr := RowIs.made (w.alloc (.cells #[.int .i64 x, .int .i64 y, .int .i64 z] 72)) 72 ([x, y, z].map (Value.int .i64))
  have e : (w.alloc (.cells #[.int .i64 x, .int .i64 y, .int .i64 z] 72)).heap.size = w.heap.size + 1 := by simp
  rw [e] at hr
  have HC := Lib.hid (sort_row hr (by simp) 3)
  have HB := Lib.hid (show Below w.heap.size w ((w.alloc (.cells #[.int .i64 x, .int .i64 y, .int .i64 z] 72)).alloc (.cells #[.int .i64 x, .int .i64 y, .int .i64 z] 72)) from ((Below.refl _ _).alloc (Nat.le_refl _) _).alloc (by simp) _)
  clear hr e
  go_enter Tryz.func158, Tryz.ntmps158
  go_wp2_with fail
  refine HC.out.mono ?_
  rintro e w1 ⟨rfl, hr1, hg1⟩
  have HB1 := Lib.hid (HB.out.grown hg1 (by simp; omega) (by intro k hk; cases hk; omega))
  rw [sort3_eq (x, y, z)] at hr1
  have HK := Lib.hid (show keys4 (x, y, z) = [sort3 (x, y, z)] from rfl)
  generalize sort3 (x, y, z) = s at *
  obtain ⟨a, b, c⟩ := s
  have c0 := hr1.cell (i := 0) rfl
  have c1 := hr1.cell (i := 1) rfl
  have c2 := hr1.cell (i := 2) rfl
  have HR := Lib.hid (RowIs.made w1 71 (kcells [(a, b, c)]))
  have hs := hg1.size
  clear hr1 hg1
  go_wp2
  go_ret
  exact ⟨w1.heap.size, rfl, by have := HB1.out.size; omega, by rw [HK.out]; exact HR.out, HB1.out.alloc HB1.out.size _⟩
set_option maxRecDepth 100000 in
set_option maxHeartbeats 1000000 in
theorem tfits_yes (x y z N : Int) (hin : ∀ j, j < 3 → 0 ≤ tg (x, y, z) j ∧ tg (x, y, z) j < N) (hl : loopB (x, y, z) = false) (w : World) :
    Calls Tryz.prog 102 #[.agg #[.int .i64 x, .int .i64 y, .int .i64 z], .int .i64 N] w fun e w' => e = .returned (.bool true) ∧ Below w.heap.size w w' := by
  have HI := Lib.hid hin
  have HB := Lib.hid (show Below w.heap.size w (w.alloc (.cells #[.int .i64 x, .int .i64 y, .int .i64 z] 72)) from (Below.refl _ _).alloc (Nat.le_refl _) _)
  unfold loopB at hl
  simp only [Bool.or_eq_false_iff] at hl
  obtain ⟨⟨l1, l2⟩, l3⟩ := hl
  have m1 : (x != y) = true := by simp [bne, l1]
  have m2 : (y != z) = true := by simp [bne, l2]
  have m3 : (z != x) = true := by simp [bne, l3]
  have HX := Lib.hid (RowIs.made w 72 [.int .i64 x, .int .i64 y, .int .i64 z])
  clear hin
  go_enter Tryz.func102, Tryz.ntmps102
  go_wp2
  obtain ⟨W0, hW0⟩ : ∃ W0, W0 = w.alloc (.cells #[.int .i64 x, .int .i64 y, .int .i64 z] 72) := ⟨_, rfl⟩
  rw [← hW0] at HB HX ⊢
  clear hW0
  go_loopw [8] (fun i ws => ∃ j : Nat, j ≤ 3 ∧ i = .int .i64 j ∧ ws = W0) (fun i _ => 3 - (intOf i).toNat)
  case atStart => exact ⟨0, by omega, rfl, rfl⟩
  case round =>
    obtain ⟨j, hj, rfl, rfl⟩ := hrel
    obtain ⟨W0, rfl⟩ : ∃ W0 : World, W0 = wr := ⟨_, rfl⟩
    by_cases hj3 : j < 3
    · have hix := index_tri x y z j hj3
      obtain ⟨h0, h1⟩ := HI.out j hj3
      obtain ⟨v, hv⟩ : ∃ v, v = tg (x, y, z) j := ⟨_, rfl⟩
      rw [← hv] at hix h0 h1
      have hd0 : decide (v < 0) = false := by simp; omega
      have hd1 : decide (v ≥ N) = false := by simp; omega
      clear hv h0 h1
      go_wp2
      go_roundw
      case rel => exact ⟨j + 1, by omega, by go_num, by trivial⟩
      case measure => simp [intOf]; omega
    · obtain rfl : j = 3 := by omega
      have x0 := HX.out.cell (i := 0) rfl
      have x1 := HX.out.cell (i := 1) rfl
      have x2 := HX.out.cell (i := 2) rfl
      go_wp2
      exact bodyPost_ret (v := .bool true) (by simp [results, Tryz.results102, go_sem]) rfl ⟨rfl, HB.out⟩
set_option maxRecDepth 100000 in
set_option maxHeartbeats 1000000 in
theorem fitsf_yes (x y z N : Int) (b : Nat) (hin : ∀ j, j < 3 → 0 ≤ tg (x, y, z) j ∧ tg (x, y, z) j < N) (hl : loopB (x, y, z) = false) (w : World) (hb : w.cell? ⟨b, 0, none⟩ = some (.int .i64 N)) (hbl : b < w.heap.size) :
    Calls Tryz.prog 101 #[.agg #[.int .i64 x, .int .i64 y, .int .i64 z], .pointer (some ⟨b, 0, none⟩)] w fun e w' => e = .returned (.bool false) ∧ Below w.heap.size w w' := by
  have hba : Below w.heap.size w (w.alloc (.cells #[.int .i64 x, .int .i64 y, .int .i64 z] 72)) := (Below.refl _ _).alloc (Nat.le_refl _) _
  have hb' := (hba.cell (p := ⟨b, 0, none⟩) hbl).trans hb
  have HB := Lib.hid hba
  have HF := Lib.hid (fun X => tfits_yes x y z N hin hl X)
  clear hin hl hb hba
  go_enter Tryz.func101, Tryz.ntmps101
  go_wp2_with fail
  refine (HF.out _).mono ?_
  rintro e w2 ⟨rfl, hb2⟩
  have HB2 := Lib.hid (below_more HB.out hb2 HB.out.size)
  clear hb2
  go_wp2
  exact bodyPost_ret (v := .bool false) (by simp [results, Tryz.results101, go_sem]) rfl ⟨rfl, HB2.out⟩
/-- The test that Fits hands on is false of each triangle of a surface. -/
def FitW (w : World) (b : Nat) (N : Int) : Prop := w.cell? ⟨b, 0, none⟩ = some (.int .i64 N) ∧ b < w.heap.size
theorem FitW.mono {w w' : World} {b : Nat} {N : Int} (h : FitW w b N) (hb : Below w.heap.size w w') : FitW w' b N := ⟨(hb.cell (p := ⟨b, 0, none⟩) h.2).trans h.1, by have := hb.size; have := h.2; omega⟩
set_option maxRecDepth 100000 in
set_option maxHeartbeats 1000000 in
theorem indexf_no (N : Int) (b : Nat) (ao : Option Addr) (cap : Nat) (T : List Tr) (w : World) (hs : Surf N T) (hT : TrisAt w ao T) (hf : FitW w b N) :
    Calls Tryz.prog 121 #[.slice ao T.length cap, .func (.func 101) #[] #[.pointer (some ⟨b, 0, none⟩)]] w fun e w' => e = .returned (.int .i64 (-1)) ∧ Below w.heap.size w w' := by
  have hl := hs.t1
  obtain ⟨n, hn⟩ : ∃ n, n = T.length := ⟨_, rfl⟩
  rw [← hn] at hl ⊢
  have HN := Lib.hid hn
  have HS := Lib.hid hs
  have HT := Lib.hid hT
  have HF := Lib.hid hf
  clear hn hs hT hf
  go_enter Tryz.func121, Tryz.ntmps121
  go_wp2
  go_loopw [8] (fun i ws => ∃ k : Nat, k ≤ n ∧ i = .int .i64 k ∧ Below w.heap.size w ws) (fun i _ => n - (intOf i).toNat)
  case atStart => exact ⟨0, by omega, rfl, Below.refl _ _⟩
  case round =>
    obtain ⟨k, hk, rfl, hb⟩ := hrel
    obtain ⟨W1, rfl⟩ : ∃ W1 : World, W1 = wr := ⟨_, rfl⟩
    have HB := Lib.hid hb
    by_cases hlt : k < n
    · obtain ⟨tb, off, x, y, z, rfl, ht, g0, g1, g2, -, -⟩ := HT.out.get (Nat.le_refl _) hb (i := k) (by have := HN.out; omega)
      have hin : ∀ j, j < 3 → 0 ≤ tg (x, y, z) j ∧ tg (x, y, z) j < N := fun j _ => by rw [← ht.out]; exact HS.out.vin k (by have := HN.out; omega) j
      have hlp : loopB (x, y, z) = false := by rw [← ht.out]; exact HS.out.noloop k (by have := HN.out; omega)
      have hfw := HF.out.mono hb
      have HC := Lib.hid (fitsf_yes x y z N b hin hlp W1 hfw.1 hfw.2)
      clear ht hin hlp hfw hb
      go_wp2_with fail
      refine HC.out.mono ?_
      rintro e w2 ⟨rfl, hb2⟩
      have HB2 := Lib.hid (below_more HB.out hb2 HB.out.size)
      clear hb2 g0 g1 g2
      go_wp2
      go_roundw
      case rel => exact ⟨k + 1, by omega, by go_num, HB2.out⟩
      case measure => simp [intOf]; omega
    · obtain rfl : k = n := by omega
      clear hb
      go_wp2
      exact bodyPost_ret (v := .int .i64 (-1)) (by simp [results, Tryz.results121, go_sem]) rfl ⟨rfl, HB.out⟩
set_option maxRecDepth 100000 in
set_option maxHeartbeats 1000000 in
theorem containsf_no (N : Int) (b : Nat) (ao : Option Addr) (cap : Nat) (T : List Tr) (w : World) (hs : Surf N T) (hT : TrisAt w ao T) (hf : FitW w b N) :
    Calls Tryz.prog 100 #[.slice ao T.length cap, .func (.func 101) #[] #[.pointer (some ⟨b, 0, none⟩)]] w fun e w' => e = .returned (.bool false) ∧ Below w.heap.size w w' := by
  have HC := Lib.hid (indexf_no N b ao cap T w hs hT hf)
  clear hs hT hf
  go_enter Tryz.func100, Tryz.ntmps100
  go_wp2_with fail
  refine HC.out.mono ?_
  rintro e w2 ⟨rfl, hb2⟩
  have HB2 := Lib.hid hb2
  clear hb2
  go_wp2
  exact bodyPost_ret (v := .bool false) (by simp [results, Tryz.results100, go_sem]) rfl ⟨rfl, HB2.out⟩
set_option maxRecDepth 100000 in
set_option maxHeartbeats 1000000 in
theorem soupfits_yes (N : Int) (ao : Option Addr) (cap : Nat) (T : List Tr) (w : World) (hs : Surf N T) (hT : TrisAt w ao T) :
    Calls Tryz.prog 65 #[.agg #[.int .i64 N, .slice ao T.length cap]] w fun e w' => e = .returned (.bool true) ∧ Below w.heap.size w w' := by
  have h0 := hs.n0
  have h1 := hs.n1
  have h2 := hs.t1
  have hmf : ∀ (fn : Fn) (first cap : Array Value) (w : World), (Instr.makeFunc fn first cap).run Tryz.prog w = .ok (.func fn first cap) w := fun _ _ _ _ => rfl
  have hba : Below w.heap.size w (w.alloc (.cells #[.int .i64 N, .slice ao T.length cap] 24)) := (Below.refl _ _).alloc (Nat.le_refl _) _
  have hx := RowIs.made w 24 [.int .i64 N, .slice ao T.length cap]
  have HC := Lib.hid (containsf_no N w.heap.size ao cap T _ hs (hT.mono (Nat.le_refl _) hba) ⟨hx.cell (i := 0) rfl, hx.lt⟩)
  have HB := Lib.hid hba
  obtain ⟨n, hn⟩ : ∃ n, n = T.length := ⟨_, rfl⟩
  rw [← hn] at HC HB h2 ⊢
  have hd0 : decide (N < 0) = false := by simp; omega
  have hd1 : decide (N > 4096) = false := by simp; omega
  have hd2 : decide ((n : Int) > 8192) = false := by simp; omega
  clear hs hT hba hx hn
  go_enter Tryz.func65, Tryz.ntmps65
  go_wp2_with fail
  refine HC.out.mono ?_
  rintro e w2 ⟨rfl, hb2⟩
  have HB2 := Lib.hid (below_more HB.out hb2 HB.out.size)
  clear hb2
  go_wp2
  exact bodyPost_ret (v := .bool true) (by simp [results, Tryz.results65, go_sem]) rfl ⟨rfl, HB2.out⟩
theorem row_own_ne {w : World} {p base n sz : Nat} {e e' : TypeId} {ys xs : List Value} {v : Value} (h : RowIs w p e ys) (k : w.ownsRow base e' sz v n xs) (hne : e ≠ e') : some p ≠ v.ownBlock := by
  obtain ⟨_, k2⟩ := k
  rcases k2 with ⟨k2, _⟩ | ⟨g2, cap', cur', rfl, _, kk, _⟩
  · subst k2; simp [Value.ownBlock]
  · intro e
    simp [Value.ownBlock] at e
    subst e
    unfold RowIs at h
    rw [h] at kk
    simp at kk
    exact hne kk.2
theorem row_two (w : World) (o : Obj) (e : TypeId) (xs : List Value) : RowIs ((w.alloc o).alloc (.cells xs.toArray e)) (w.heap.size + 1) e xs := by simpa using RowIs.made (w.alloc o) e xs
theorem tcells_one (L : List Tr) : ∀ u ∈ tcells L, u.oneCell' = true := by
  intro u hu
  simp only [tcells, List.mem_flatMap] at hu
  obtain ⟨t, _, ht⟩ := hu
  simp only [List.mem_cons, List.not_mem_nil, or_false] at ht
  rcases ht with rfl | rfl | rfl <;> rfl
theorem TrisAt.cells {w : World} {b off : Nat} {T : List Tr} (h : TrisAt w (some ⟨b, off, none⟩) T) : ∀ j u, (tcells T)[j]? = some u → w.cell? ⟨b, off + j, none⟩ = some u := by
  intro j u hj
  have hl : j < T.length * 3 := by have := (List.getElem?_eq_some_iff.1 hj).1; rw [tcells_length] at this; exact this
  obtain ⟨b', off', e, hc, _⟩ := h.at (i := j / 3) (j := j % 3) (by omega) (by omega)
  cases e
  have h1 := tcells_get T (j / 3) (j % 3) (by omega) (by omega)
  have e : j / 3 * 3 + j % 3 = j := by omega
  rw [e] at h1
  rw [h1] at hj
  cases hj
  have e2 : off + j / 3 * 3 + j % 3 = off + j := by omega
  rw [← e2]
  exact hc
set_option maxHeartbeats 1000000 in
theorem clone_empty (a : Addr) (c : Nat) (w : World) :
    Calls Tryz.prog 69 #[.slice (some a) 0 c] w fun e w' => ∃ v', e = .returned v' ∧ w'.ownsRow w.heap.size 72 3 v' 0 [] ∧ Below w.heap.size w w' := by
  obtain ⟨i0, hi, hz0, hz1, hz2⟩ := info_parts info49
  have q22 : ∀ (w : World) (a : Option Addr) (n c n' c' : Nat), (binOp .eql 22 (.slice a n c) (.slice none n' c')).run Tryz.prog w = .ok (.bool a.isNone) w := fun w a n c n' c' => Lib.run_eql_slice_nil w _ 72 a n c n' c' (by kernel_rfl)
  go_enter Tryz.func69, Tryz.ntmps69
  go_wp2_with (at_builtin; refine wpList_append_own _ rfl _ _ 22 rfl w.heap.size 72 i0 (.agg #[.int .i64 0, .int .i64 0, .int .i64 0]) 3 24 (by kernel_rfl) hi hz0 hz1 hz2 rfl (by decide) _ _ _ rfl (World.ownsRow_made w #[] 0 (Nat.le_refl _) (Nat.zero_le _) rfl) a 0 c [] rfl rfl (by intro j u hj; simp at hj) (by intro u hu; cases hu) (by unfold maxLen; omega) (by omega) (by simp) ?_)
  intro v' w1 hown hgrow _
  go_wp2
  go_ret
  exact ⟨v', rfl, by simpa using hown, ((Below.refl _ w).alloc (Nat.le_refl _) _).grown hgrow (by simp) (by intro k hk; simp [Value.ownBlock] at hk; omega)⟩
theorem clone_tri {w : World} {ao : Option Addr} {T : List Tr} (cap : Nat) (hT : TrisAt w ao T) (hl : T.length ≤ 10000) :
    Calls Tryz.prog 69 #[.slice ao T.length cap] w fun e w' => ∃ ao' cap', e = .returned (.slice ao' T.length cap') ∧ w'.ownsRow w.heap.size 72 3 (.slice ao' T.length cap') T.length (tcells T) ∧ Below w.heap.size w w' := by
  obtain ⟨i0, hi, hz0, hz1, hz2⟩ := info_parts info49
  have fin : ∀ {w' : World} {v'}, w'.ownsRow w.heap.size 72 3 v' T.length (tcells T) → Below w.heap.size w w' → ∃ ao' cap', Ending.returned v' = .returned (.slice ao' T.length cap') ∧ w'.ownsRow w.heap.size 72 3 (.slice ao' T.length cap') T.length (tcells T) ∧ Below w.heap.size w w' := by
    intro w' v' h hb
    obtain ⟨ao', cap', rfl⟩ := owns_slice h
    exact ⟨ao', cap', rfl, h, hb⟩
  cases ao with
  | none =>
    have h0 : T = [] := by
      cases T with
      | nil => rfl
      | cons t l =>
        obtain ⟨b, off, e, _⟩ := hT (by simp)
        cases e
    subst h0
    refine (Tryz.slices_Clone_tri_nil 0 cap w).mono ?_
    rintro e w' ⟨rfl, rfl⟩
    exact ⟨none, 0, rfl, World.ownsRow_nil _ _ _ _, Below.refl _ _⟩
  | some a =>
    by_cases h0 : T = []
    · subst h0
      refine (clone_empty a cap w).mono ?_
      rintro e w' ⟨v', rfl, ho, hb⟩
      exact fin ho hb
    · obtain ⟨b, off, e, hb, _⟩ := hT h0
      cases e
      refine (Tryz.slices_Clone_tri i0 _ 3 24 hi hz0 hz1 hz2 rfl (by decide) (fun _ => by kernel_rfl) b off T.length cap (tcells T) w (tcells_length T) (by unfold maxLen; omega) (by omega) hT.cells (tcells_one T)).mono ?_
      rintro e w' ⟨v', rfl, ho, _, hb⟩
      exact fin ho hb
theorem wp_append_any {P : Program} {w : World} {o : Oper} {a : Act} {K : Act → World → Prop} {Q : Exit → Act → World → Prop} (s x : Operand) (t : TypeId)
    (ho : o.op = .call { callee := .builtin .append, args := #[s, x], argTypes := #[t, t] })
    (base : Nat) (e : TypeId) (i : TypeInfo) (z : Value) (size bytes : Nat) (ht : P.underlying t = some (.slice e)) (hi : P.info? e = some i) (hz : i.zero = some z)
    (hsize : i.size = size) (hby : i.bytes = bytes) (hzs : z.cells.size = size) (hsz : 0 < size)
    (v : Value) (n : Nat) (xs : List Value) (hs : a.eval s = v) (hown : w.ownsRow base e size v n xs)
    (ad : Addr) (m c : Nat) (news : List Value) (hx : a.eval x = .slice (some ad) m c) (hl : news.length = m * size) (hnews : ∀ j u, news[j]? = some u → w.cell? (ad.add j) = some u) (h1 : ∀ u ∈ news, u.oneCell' = true)
    (h63 : n + m ≤ maxLen) (hbytes : (n + m) * bytes ≤ 140737488355328) (hbase : base ≤ w.heap.size)
    (h : ∀ ao cap w', w'.ownsRow base e size (.slice ao (n + m) cap) (n + m) (xs ++ news) → (∀ B w0, B ≤ base → Below B w0 w → Below B w0 w') → w.grownBy w' v.ownBlock → K (a.put o.dst (.slice ao (n + m) cap)) w') : o.wp P a w K Q := by
  obtain ⟨v', w', hr, h2, h3, _, _⟩ := run_append_own_at (P := P) w base t o.type e i z size bytes ht hi hz hsize hby hzs hsz v n xs hown ad m c news hl hnews h1 h63 hbytes hbase
  obtain ⟨ao, cap, rfl⟩ := owns_slice h2
  unfold Oper.wp execOp
  simp only [ho, resolve, invoke, builtin, Sem.run_bind, Sem.run_pure, Result.andThen_ok, List.map_toArray, List.map_cons, List.map_nil, hs, hx, hr]
  exact h ao cap w' h2 (fun B w0 hB hb => hb.grown h3 (by omega) (fun k hk => by have := (hown.lt k hk).1; omega)) h3
theorem step_append_any {P : Program} {w : World} {ops : Array Oper} {o : Oper} {a : Act} {K : Act → World → Prop} {Q : Exit → Act → World → Prop} {E : Prop} (hgd : o.guard = none) (s x : Operand) (t : TypeId)
    (ho : o.op = .call { callee := .builtin .append, args := #[s, x], argTypes := #[t, t] })
    (base : Nat) (e : TypeId) (i : TypeInfo) (z : Value) (size bytes : Nat) (ht : P.underlying t = some (.slice e)) (hi : P.info? e = some i) (hz : i.zero = some z)
    (hsize : i.size = size) (hby : i.bytes = bytes) (hzs : z.cells.size = size) (hsz : 0 < size)
    (v : Value) (n : Nat) (xs : List Value) (hs : a.eval s = v) (hown : w.ownsRow base e size v n xs)
    (ad : Addr) (m c : Nat) (news : List Value) (hx : a.eval x = .slice (some ad) m c) (hl : news.length = m * size) (hnews : ∀ j u, news[j]? = some u → w.cell? (ad.add j) = some u) (h1 : ∀ u ∈ news, u.oneCell' = true)
    (h63 : n + m ≤ maxLen) (hbytes : (n + m) * bytes ≤ 140737488355328) (hbase : base ≤ w.heap.size)
    (h : ∀ ao cap w', w'.ownsRow base e size (.slice ao (n + m) cap) (n + m) (xs ++ news) → (∀ B w0, B ≤ base → Below B w0 w → Below B w0 w') → w.grownBy w' v.ownBlock → K (a.put o.dst (.slice ao (n + m) cap)) w') :
    if Region.wanted o (yielded ops a.tmps) = true then Oper.wp P o a w K Q else E := by
  have hw : Region.wanted o (yielded ops a.tmps) = true := by simp [Region.wanted, hgd]
  rw [if_pos hw]
  exact wp_append_any s x t ho base e i z size bytes ht hi hz hsize hby hzs hsz v n xs hs hown ad m c news hx hl hnews h1 h63 hbytes hbase h
/-- The first append to an empty literal. -/
theorem step_append_first {P : Program} {w : World} {ops : Array Oper} {o : Oper} {a : Act} {K : Act → World → Prop} {Q : Exit → Act → World → Prop} {E : Prop} (hgd : o.guard = none) (s x : Operand) (t : TypeId)
    (ho : o.op = .call { callee := .builtin .append, args := #[s, x], argTypes := #[t, t] })
    (base : Nat) (e : TypeId) (i : TypeInfo) (z : Value) (size bytes : Nat) (ht : P.underlying t = some (.slice e)) (hi : P.info? e = some i) (hz : i.zero = some z)
    (hsize : i.size = size) (hby : i.bytes = bytes) (hzs : z.cells.size = size) (hsz : 0 < size)
    (v : Value) (hs : a.eval s = v) (hown : w.ownsRow base e size v 0 [])
    (ad : Addr) (m c : Nat) (news : List Value) (hx : a.eval x = .slice (some ad) m c) (hl : news.length = m * size) (hnews : ∀ j u, news[j]? = some u → w.cell? (ad.add j) = some u) (h1 : ∀ u ∈ news, u.oneCell' = true)
    (h63 : m ≤ maxLen) (hbytes : m * bytes ≤ 140737488355328) (hbase : base ≤ w.heap.size)
    (h : ∀ ao cap w', w'.ownsRow base e size (.slice ao m cap) m news → (∀ B w0, B ≤ base → Below B w0 w → Below B w0 w') → w.grownBy w' v.ownBlock → K (a.put o.dst (.slice ao m cap)) w') :
    if Region.wanted o (yielded ops a.tmps) = true then Oper.wp P o a w K Q else E :=
  step_append_any hgd s x t ho base e i z size bytes ht hi hz hsize hby hzs hsz v 0 [] hs hown ad m c news hx hl hnews h1 (by rw [Nat.zero_add]; exact h63) (by rw [Nat.zero_add]; exact hbytes) hbase (fun ao cap w' h2 h3 h4 => by
    rw [Nat.zero_add, List.nil_append] at h2
    rw [Nat.zero_add]
    exact h ao cap w' h2 h3 h4)
theorem box_kept {w w' : World} {base g : Nat} {e e' : TypeId} {sz n : Nat} {v : Value} {xs ys : List Value} (hg : w.grownBy w' v.ownBlock) (hown : w.ownsRow base e sz v n xs) (k : RowIs w g e' ys) (hne : e ≠ e') : RowIs w' g e' ys := k.grown hg (by
  intro e2
  rcases hown.2 with ⟨q, -⟩ | ⟨g1, cap1, cur1, rfl, -, hg1, -⟩
  · rw [q] at e2; cases e2
  simp only [Value.ownBlock, Option.some.injEq] at e2
  subst e2
  unfold RowIs at k
  rw [k] at hg1
  simp only [Option.some.injEq, Obj.cells.injEq] at hg1
  exact hne hg1.2.1.symm)
theorem tcells_append (A B : List Tr) : tcells (A ++ B) = tcells A ++ tcells B := by simp [tcells]
theorem below_alloc {w X : World} (h : Below w.heap.size w X) (o : Obj) : Below w.heap.size w (X.alloc o) := h.alloc h.size o
theorem below_drew {B : Nat} {w X : World} (h : Below B w X) : Below B w X.drew := h.trans ⟨rfl, rfl, rfl, Nat.le_refl _, fun _ _ => rfl⟩
theorem take_cells {T : List Tr} {a j : Nat} {u : Value} (h : (tcells (T.take a))[j]? = some u) : (tcells T)[j]? = some u := by
  have e : tcells T = tcells (T.take a) ++ tcells (T.drop a) := by rw [← tcells_append, List.take_append_drop]
  rw [e, List.getElem?_append_left (List.getElem?_eq_some_iff.1 h).1]
  exact h
theorem drop_cells {T : List Tr} {a j : Nat} {u : Value} (h : (tcells (T.drop a))[j]? = some u) (ha : a ≤ T.length) : (tcells T)[a * 3 + j]? = some u := by
  have e : tcells T = tcells (T.take a) ++ tcells (T.drop a) := by rw [← tcells_append, List.take_append_drop]
  have hl : (tcells (T.take a)).length = a * 3 := by rw [tcells_length, List.length_take]; congr 1; omega
  rw [e, List.getElem?_append_right (by omega), hl]
  rw [show a * 3 + j - a * 3 = j by omega]
  exact h
theorem infoTriH : (Tryz.prog.info? 72).map (fun i => (i.zero, i.size, i.bytes)) = some (some (.agg #[.int .i64 0, .int .i64 0, .int .i64 0]), 3, 24) := by kernel_rfl
theorem slice_hi (b off len cap h : Nat) (hh : h ≤ cap) (w : World) : (Instr.slice 22 (.slice (some ⟨b, off, none⟩) len cap) none (some (.int .i64 (h : Int))) none).run Tryz.prog w = .ok (.slice (some ⟨b, off, none⟩) h cap) w := by
  have hu : Tryz.prog.underlying 22 = some (.slice 72) := by kernel_rfl
  obtain ⟨i0, hi, -, hz1, -⟩ := info_parts infoTriH
  unfold Instr.slice Instr.sliceBounds Instr.sliceBound
  simp only [Sem.run_bind, run_underlying hu, Result.andThen_ok, run_sizeOf w hi, Sem.run_pure]
  simp [go_sem, hh, hz1]
theorem slice_lo (b off len cap l : Nat) (hl : l ≤ len) (w : World) : (Instr.slice 22 (.slice (some ⟨b, off, none⟩) len cap) (some (.int .i64 (l : Int))) none none).run Tryz.prog w = .ok (.slice (some (if cap = l then ⟨b, off, none⟩ else ⟨b, off + l * 3, none⟩)) (len - l) (cap - l)) w := by
  have hu : Tryz.prog.underlying 22 = some (.slice 72) := by kernel_rfl
  obtain ⟨i0, hi, -, hz1, -⟩ := info_parts infoTriH
  unfold Instr.slice Instr.sliceBounds Instr.sliceBound
  simp only [Sem.run_bind, run_underlying hu, Result.andThen_ok, run_sizeOf w hi, Sem.run_pure]
  by_cases e : cap = l <;> simp [go_sem, hl, hz1, e]
theorem sliceAt_hi (b off len cap h : Nat) (hh : h ≤ cap) (w : World) : (Instr.sliceAt 22 (.slice (some ⟨b, off, none⟩) len cap) none (some (.int .i64 (h : Int))) none).run Tryz.prog w = .ok (.slice (some ⟨b, off, none⟩) h cap) w := by
  have hu : Tryz.prog.underlying 22 = some (.slice 72) := by kernel_rfl
  unfold Instr.sliceAt
  simp only [Sem.run_bind, run_underlying hu, Result.andThen_ok]
  exact slice_hi b off len cap h hh w
theorem sliceAt_lo (b off len cap l : Nat) (hl : l ≤ len) (w : World) : (Instr.sliceAt 22 (.slice (some ⟨b, off, none⟩) len cap) (some (.int .i64 (l : Int))) none none).run Tryz.prog w = .ok (.slice (some (if cap = l then ⟨b, off, none⟩ else ⟨b, off + l * 3, none⟩)) (len - l) (cap - l)) w := by
  have hu : Tryz.prog.underlying 22 = some (.slice 72) := by kernel_rfl
  unfold Instr.sliceAt
  simp only [Sem.run_bind, run_underlying hu, Result.andThen_ok]
  exact slice_lo b off len cap l hl w
end Go.Proofs.YtkjamheoihlekaaGreat

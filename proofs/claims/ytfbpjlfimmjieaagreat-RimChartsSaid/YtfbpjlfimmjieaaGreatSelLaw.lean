/- Corners by vertex, then by number: the order, slices.SortFunc by it; what is picked out of a surface, renamed: plain. -/
import Derived.Test.YtfbpjlfimmjieaaGreatCmpW
import Derived.Test.YtfbpjlfimmjieaaGreatFaceLaw
import Derived.Test.YtfbpjlfimmjieaaGreatIntsDef
import Derived.Test.YtfbpjlfimmjieaaGreatQueue
import Derived.Shelf.SlSortCmp.Whole1
namespace Go.Proofs.YtfbpjlfimmjieaaGreat
set_option linter.unusedVariables false
set_option linter.unusedSimpArgs false
open Go.RowKit Go.Lib
set_option maxHeartbeats 400000 in
theorem has_no (c : Int) (w : World) (b : Nat) (ao : Option Addr) (len cap : Nat) (hl : len ≤ 10000) (h1 : w.cell? ⟨b, 1, none⟩ = some (.slice ao len cap)) (hc : 0 ≤ c) (hc2 : ¬ c < 3 * len) :
    Calls Tryz.prog 65 #[.pointer (some ⟨b, 0, none⟩), .int .i64 c] w fun e w' => e = .returned (.bool false) ∧ w = w' := by
  go_enter Tryz.func65, Tryz.ntmps65
  go_wp2
  go_ret
  exact ⟨by first | rfl | (simp; done) | (simp; omega), rfl⟩
def vtx (T : List Tr) (c : Nat) : Int := if c < 3 * T.length then vt T (c : Int) else -1
set_option maxHeartbeats 400000 in
theorem vertexN (c : Nat) (w : World) (b : Nat) (N : Int) (T : List Tr) (hl : T.length ≤ 10000) (h : TabS w b N T) :
    Calls Tryz.prog 27 #[.pointer (some ⟨b, 0, none⟩), .int .i64 (c : Int)] w fun e w' => e = .returned (.int .i64 (vtx T c)) ∧ w = w' := by
  by_cases hc : c < 3 * T.length
  · have := vertex_any (c : Int) w b N T hl h (by omega) (by omega)
    unfold vtx
    rw [if_pos hc]
    exact this
  · unfold vtx
    rw [if_neg hc]
    obtain ⟨ao, cap, h0, h1, h2, h3⟩ := h
    obtain ⟨len, hlen⟩ : ∃ n, n = T.length := ⟨_, rfl⟩
    rw [← hlen] at hl h1 hc
    have hc2 : ¬ ((c : Int) < 3 * (len : Int)) := by omega
    clear hlen h2
    go_enter Tryz.func27, Tryz.ntmps27
    go_wp2_with (go_at_call 65; refine (has_no _ _ _ _ _ _ hl h1 (by omega) hc2).mono ?_; rintro e w' ⟨rfl, rfl⟩)
    go_ret
    exact ⟨rfl, rfl⟩
/-- The order of corners. -/
def cfc (T : List Tr) (a b : Nat) : Int := orI (Lib.compareInt (vtx T a) (vtx T b)) (Lib.compareInt (a : Int) (b : Int))
/-- By vertex, then by number. -/
def ltC (T : List Tr) (a b : Nat) : Prop := vtx T a < vtx T b ∨ vtx T a = vtx T b ∧ a < b
theorem ltOf_cfc (T : List Tr) (a b : Nat) : Go.Proofs.ltOf (cfc T) a b = true ↔ ltC T a b := by
  unfold Go.Proofs.ltOf cfc orI Lib.compareInt ltC
  simp only [decide_eq_true_eq]
  by_cases h1 : vtx T a < vtx T b
  · simp [h1]
  · by_cases h2 : vtx T b < vtx T a
    · have : ¬ vtx T a = vtx T b := by omega
      simp [h1, h2, this]
    · have e : vtx T a = vtx T b := by omega
      simp only [h1, h2, if_false, if_true, e, false_or, true_and]
      by_cases h3 : (a : Int) < b
      · have : a < b := by omega
        simp [h3, this]
      · by_cases h4 : (b : Int) < a
        · have : ¬ a < b := by omega
          simp [h3, h4, this]
        · have : ¬ a < b := by omega
          simp [h3, h4, this]
theorem swo_cfc (T : List Tr) : Go.Sort.SWO (Go.Proofs.ltOf (cfc T)) where
  irrefl x := by
    cases h : Go.Proofs.ltOf (cfc T) x x
    · rfl
    · have := (ltOf_cfc T x x).1 h
      unfold ltC at this
      omega
  trans x y z h1 h2 := by
    have a := (ltOf_cfc T x y).1 h1
    have b := (ltOf_cfc T y z).1 h2
    refine (ltOf_cfc T x z).2 ?_
    unfold ltC at *
    omega
  ntrans x y z h1 h2 := by
    have a : ¬ ltC T x y := fun h => by rw [(ltOf_cfc T x y).2 h] at h1; cases h1
    have b : ¬ ltC T y z := fun h => by rw [(ltOf_cfc T y z).2 h] at h2; cases h2
    cases h : Go.Proofs.ltOf (cfc T) x z
    · rfl
    · have c := (ltOf_cfc T x z).1 h
      unfold ltC at *
      omega
def nl (F : List Nat) : List Int := F.map fun (x : Nat) => (x : Int)
theorem nl_length (F : List Nat) : (nl F).length = F.length := by simp [nl]
theorem nl_get {F : List Nat} {i x : Nat} (h : F[i]? = some x) : I! (nl F) i = (x : Int) := by
  simp [I!, nl, List.getD_eq_getElem?_getD, h]
/-- A sort's world: one block has turned, blocks are laid behind. -/
theorem grown_sortW {α : Type} [Inhabited α] (enc : α → Value) (w : World) (blk off m : Nat) (dk : Array α) (os : Array Obj) (hb : blk < w.heap.size) : w.grownBy (Go.Proofs.sortWorld enc w blk off m dk os) (some blk) := by
  have h1 : (Go.Proofs.sortWorld enc w blk off m dk os).heap.size = w.heap.size + os.size := by
    show (Go.Sort.grow (Go.Sort.putRow enc (Go.Sort.ahead w m) blk off dk) os).heap.size = _
    rw [Go.Sort.size_grow, Go.Sort.size_putRow]
    rfl
  refine ⟨rfl, rfl, rfl, by omega, fun j hj hne => ?_⟩
  have h2 : blk ≠ j := fun e => hne (by rw [e])
  show (Go.Sort.grow (Go.Sort.putRow enc (Go.Sort.ahead w m) blk off dk) os).heap[j]? = _
  rw [Go.Sort.heap_grow_old _ _ (by rw [Go.Sort.size_putRow]; exact hj)]
  simp only [Go.Sort.putRow, Go.Sort.mapBlock, Array.getElem?_modify, h2, if_false]
  rfl
/-- slices.SortFunc of corners by a comparison by vertex, then by number. -/
theorem sort_byF (K : Nat) (lb : Array Value) (hE : ∀ args w, (callFunc K args).run Tryz.prog w = .ok (.enter K args) w) (W1 w : World) (base gf capf : Nat) (T : List Tr) (F0 : List Nat) (hF : F0.length ≤ 100000)
    (hC : ∀ X, Below base W1 X → ∀ a b : Nat, Calls Tryz.prog K (#[.int .i64 (a : Int), .int .i64 (b : Int)] ++ lb) X fun e w' => e = .returned (.int .i64 (cfc T a b)) ∧ Gr X w') (hb : Below base W1 w) (hown : w.ownsRow base 3 1 (.slice (some ⟨gf, 0, none⟩) F0.length capf) F0.length (nv F0)) :
    Calls Tryz.prog 57 #[.slice (some ⟨gf, 0, none⟩) F0.length capf, .func (.func K) #[] lb] w fun e w' => e = .returned (.tuple #[]) ∧
      ∃ F : List Nat, F.Perm F0 ∧ F.Pairwise (fun a b => ¬ ltC T b a) ∧ IntsAt w' (some ⟨gf, 0, none⟩) (nl F) ∧ w.grownBy w' (some gf) ∧ gf < w.heap.size ∧ base ≤ gf ∧ ∀ j, j < F.length → w'.frozen? ⟨gf, 0 + j, none⟩ = false := by
  obtain ⟨hbg, hgl⟩ := hown.lt gf rfl
  have hH : Go.Sort.Holds (fun (c : Nat) => Value.int .i64 (c : Int)) w gf 0 F0.toArray := fun j hj => by
    simp at hj
    obtain ⟨g', cap', hv, -, -, -, -, hc, hf⟩ := owns_block hown (by omega)
    simp only [Value.slice.injEq, Option.some.injEq, Addr.mk.injEq] at hv
    obtain ⟨⟨rfl, -⟩, -, rfl⟩ := hv
    refine ⟨?_, by rw [Nat.zero_add]; exact hf j⟩
    have := hc j _ (nv_get (List.getElem?_eq_getElem hj))
    rw [Nat.zero_add, this]
    simp [hj]
  have hcmp : Go.Proofs.CmpLays1 Tryz.prog K lb (fun (c : Nat) => Value.int .i64 (c : Int)) (cfc T) gf 0 F0.toArray.size w := fun m os dk _ x y => by
    have hg := grown_sortW (fun (c : Nat) => Value.int .i64 (c : Int)) w gf 0 m dk os hgl
    have hbW : Below base W1 (Go.Proofs.sortWorld (fun (c : Nat) => Value.int .i64 (c : Int)) w gf 0 m dk os) := hb.grown hg (by have := hb.size; omega) (fun k hk => by cases hk; exact hbg)
    have := hC _ hbW x y
    exact this.mono fun e w' ⟨h1, q, os', h2⟩ => ⟨h1, q, os', h2⟩
  have hs := Tryz.slices_SortFunc (fun (c : Nat) => Value.int .i64 (c : Int)) (fun _ => rfl) (cfc T) (swo_cfc T) K lb gf 0 capf F0.toArray w hE hcmp hH hgl (by simp; omega)
  have e0 : F0.toArray.size = F0.length := by simp
  rw [e0] at hs
  refine hs.mono fun e w' ⟨he, d', n, os, hp, hso, hw⟩ => ⟨he, d'.toList, ?_, ?_, ?_, ?_, hgl, hbg, ?_⟩
  · have := hp.2.2
    have h1 := hp.1
    simp at h1
    rw [show d'.extract 0 F0.length = d' from by rw [← h1]; simp, show F0.toArray.extract 0 F0.length = F0.toArray from by rw [← e0]; simp] at this
    simpa using this
  · rw [List.pairwise_iff_getElem]
    intro i j hi hj hij
    have h1 := hp.1
    simp at h1 hi hj
    have := hso i j (Nat.zero_le _) hij (by omega)
    rw [getElem!_pos d' j hj, getElem!_pos d' i hi] at this
    simp only [Array.getElem_toList]
    intro hlt
    rw [(ltOf_cfc T _ _).2 hlt] at this
    cases this
  · rw [hw]
    have h1 := hp.1
    simp at h1
    have hh : Go.Sort.Holds (fun (c : Nat) => Value.int .i64 (c : Int)) (Go.Proofs.sortWorld (fun (c : Nat) => Value.int .i64 (c : Int)) w gf 0 n d' os) gf 0 d' := by
      have a := Go.Sort.holds_putRow (fun (c : Nat) => Value.int .i64 (c : Int)) (Go.Sort.ahead w n) gf 0 F0.toArray d' (fun j hj => hH j hj) (by simp [h1])
      exact Go.Sort.holds_grow _ _ os gf 0 d' (by rw [Go.Sort.size_putRow]; exact hgl) a
    refine fun _ => ⟨gf, 0, rfl, ?_, fun i hi => ?_⟩
    · have := (grown_sortW (fun (c : Nat) => Value.int .i64 (c : Int)) w gf 0 n d' os hgl).size
      omega
    · rw [nl_length] at hi
      simp at hi
      rw [(hh i hi).1, nl_get (x := d'[i]!) (by rw [getElem!_pos d' i hi]; simp [hi])]
  · rw [hw]; exact grown_sortW _ w gf 0 n d' os hgl
  · rw [hw]
    have h1 := hp.1
    simp at h1
    have hh : Go.Sort.Holds (fun (c : Nat) => Value.int .i64 (c : Int)) (Go.Proofs.sortWorld (fun (c : Nat) => Value.int .i64 (c : Int)) w gf 0 n d' os) gf 0 d' := by
      have a := Go.Sort.holds_putRow (fun (c : Nat) => Value.int .i64 (c : Int)) (Go.Sort.ahead w n) gf 0 F0.toArray d' (fun j hj => hH j hj) (by simp [h1])
      exact Go.Sort.holds_grow _ _ os gf 0 d' (by rw [Go.Sort.size_putRow]; exact hgl) a
    exact fun j hj => (hh j (by simpa using hj)).2
/-- slices.SortFunc of corners by a comparison by vertex, then by number. -/
theorem sort_by (K : Nat) (lb : Array Value) (hE : ∀ args w, (callFunc K args).run Tryz.prog w = .ok (.enter K args) w) (W1 w : World) (base gf capf : Nat) (T : List Tr) (F0 : List Nat) (hF : F0.length ≤ 100000)
    (hC : ∀ X, Below base W1 X → ∀ a b : Nat, Calls Tryz.prog K (#[.int .i64 (a : Int), .int .i64 (b : Int)] ++ lb) X fun e w' => e = .returned (.int .i64 (cfc T a b)) ∧ Gr X w') (hb : Below base W1 w) (hown : w.ownsRow base 3 1 (.slice (some ⟨gf, 0, none⟩) F0.length capf) F0.length (nv F0)) :
    Calls Tryz.prog 57 #[.slice (some ⟨gf, 0, none⟩) F0.length capf, .func (.func K) #[] lb] w fun e w' => e = .returned (.tuple #[]) ∧
      ∃ F : List Nat, F.Perm F0 ∧ F.Pairwise (fun a b => ¬ ltC T b a) ∧ IntsAt w' (some ⟨gf, 0, none⟩) (nl F) ∧ w.grownBy w' (some gf) ∧ gf < w.heap.size ∧ base ≤ gf :=
  (sort_byF K lb hE W1 w base gf capf T F0 hF hC hb hown).mono fun _ _ ⟨he, F, h1, h2, h3, h4, h5, h6, _⟩ => ⟨he, F, h1, h2, h3, h4, h5, h6⟩
/-- The triangles of a bay among the first k. -/
def sel (bays : List Int) (bay : Int) (k : Nat) : List Nat := (List.range k).filter fun i => decide (I! bays i = bay)
theorem sel_succ (bays : List Int) (bay : Int) (k : Nat) : sel bays bay (k + 1) = if I! bays k = bay then sel bays bay k ++ [k] else sel bays bay k := by
  unfold sel
  rw [List.range_succ, List.filter_append]
  by_cases h : I! bays k = bay <;> simp [h]
theorem sel_le (bays : List Int) (bay : Int) (k : Nat) : (sel bays bay k).length ≤ k := by
  have := List.length_filter_le (fun i : Nat => decide (I! bays i = bay)) (List.range k)
  simp [sel] at *; omega
/-- Of the first k corners those of the bay that are the least on their sides. -/
def reps (bays : List Int) (bay : Int) (L : Nat → Int) (k : Nat) : List Nat := (List.range k).filter fun c => decide (I! bays (c / 3) = bay ∧ L c = c)
theorem reps_succ (bays : List Int) (bay : Int) (L : Nat → Int) (k : Nat) : reps bays bay L (k + 1) = if I! bays (k / 3) = bay ∧ L k = k then reps bays bay L k ++ [k] else reps bays bay L k := by
  unfold reps
  rw [List.range_succ, List.filter_append]
  by_cases h : I! bays (k / 3) = bay ∧ L k = k
  · rw [if_pos h]; simp [h]
  · rw [if_neg h]; simp [h]
theorem reps_le (bays : List Int) (bay : Int) (L : Nat → Int) (k : Nat) : (reps bays bay L k).length ≤ k := by
  have := List.length_filter_le (fun c : Nat => decide (I! bays (c / 3) = bay ∧ L c = c)) (List.range k)
  simp [reps] at *; omega
theorem reps_mem {bays : List Int} {bay : Int} {L : Nat → Int} {k c : Nat} : c ∈ reps bays bay L k ↔ c < k ∧ I! bays (c / 3) = bay ∧ L c = c := by simp [reps]
/-- The numbers that the first k of F have. -/
def numC (F : List Nat) (k : Nat) : Int → Option Value := fun x => if 0 ≤ x ∧ x.toNat ∈ F.take k then some (.int .i64 (F.idxOf x.toNat : Nat)) else none
theorem numC_zero (F : List Nat) : numC F 0 = fun _ => none := by
  funext x
  simp [numC]
theorem numC_step {F : List Nat} (hn : F.Nodup) {k c : Nat} (h : F[k]? = some c) : (fun b : Int => if b = (c : Int) then some (Value.int .i64 (k : Int)) else numC F k b) = numC F (k + 1) := by
  have hk := (List.getElem?_eq_some_iff.1 h).1
  have hc := (List.getElem?_eq_some_iff.1 h).2
  have hix : F.idxOf c = k := by rw [← hc]; exact hn.idxOf_getElem k hk
  funext x
  unfold numC
  rw [List.take_add_one, h]
  simp only [Option.toList_some, List.mem_append, List.mem_singleton]
  by_cases e : x = (c : Int)
  · subst e
    simp [hix]
  · have : ∀ (_ : 0 ≤ x), ¬ x.toNat = c := fun h0 h1 => e (by omega)
    by_cases h0 : 0 ≤ x
    · simp [e, h0, this h0]
    · simp [e, h0]
/-- A corner's number in F. -/
def ixF (F : List Nat) (x : Int) : Int := (F.idxOf x.toNat : Nat)
theorem numC_all {F : List Nat} {x : Int} (h0 : 0 ≤ x) (h : x.toNat ∈ F) : (numC F F.length x).getD (.int .i64 0) = .int .i64 (ixF F x) := by
  unfold numC ixF
  rw [List.take_length, if_pos ⟨h0, h⟩]
  rfl
/-- A bay's triangle, renamed. -/
def cutTri (L : Nat → Int) (F : List Nat) (i : Nat) : Tr := (ixF F (L (3 * i)), ixF F (L (3 * i + 1)), ixF F (L (3 * i + 2)))
def cutV (T : List Tr) (F : List Nat) : List Int := F.map fun c => vtx T c
def cutT (bays : List Int) (bay : Int) (L : Nat → Int) (F : List Nat) (k : Nat) : List Tr := (sel bays bay k).map (cutTri L F)
/-- A row in a block that is new. -/
def New (B : Nat) (a : Option Addr) : Prop := ∀ p, a = some p → B ≤ p.block
end Go.Proofs.YtfbpjlfimmjieaaGreat

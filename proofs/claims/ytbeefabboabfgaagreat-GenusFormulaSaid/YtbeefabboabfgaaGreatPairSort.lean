/- slices.SortFunc of pairs, by genus.kinds' comparison: the row holds them sorted. slices.Equal of two lists of pairs. -/
import Derived.Test.YtbeefabboabfgaaGreatPairCmp
import Derived.Test.YtbeefabboabfgaaGreatWitSort
import Derived.Test.YtbeefabboabfgaaGreatSortPLay
import Derived.Shelf.SlSortCmp.NoneTotal
import Derived.ChangeKeysEq
import Derived.Laws.StructEq
namespace Go.Proofs.YtbeefabboabfgaaGreat
set_option linter.unusedVariables false
set_option linter.unusedSimpArgs false
open Go.RowKit Go.Lib Go.Sort
open Go.RowKit
def encP (x : Int × Int) : List Value := [.int .i64 x.1, .int .i64 x.2]
theorem ltOf_cmpP (s t : Int × Int) : Go.Proofs.ltOf cmpP s t = true ↔ s.1 < t.1 ∨ s.1 = t.1 ∧ s.2 < t.2 := by
  unfold Go.Proofs.ltOf cmpP Lib.compareInt
  simp only [decide_eq_true_eq]
  by_cases h1 : s.1 < t.1
  · simp [h1]
  · by_cases h2 : t.1 < s.1
    · have : ¬ s.1 = t.1 := by omega
      simp [h1, h2, this]
    · have e : s.1 = t.1 := by omega
      simp only [e, false_or, true_and]
      by_cases h3 : s.2 < t.2
      · simp [h3]
      · by_cases h4 : t.2 < s.2
        · simp [h3, h4]
        · simp [h3, h4]
theorem swo_cmpP : Go.Sort.SWO (Go.Proofs.ltOf cmpP) where
  irrefl x := by
    cases h : Go.Proofs.ltOf cmpP x x
    · rfl
    · have := (ltOf_cmpP x x).1 h
      omega
  trans x y z h1 h2 := by
    have a := (ltOf_cmpP x y).1 h1
    have b := (ltOf_cmpP y z).1 h2
    exact (ltOf_cmpP x z).2 (by omega)
  ntrans x y z h1 h2 := by
    have a : ¬ _ := fun h => by rw [(ltOf_cmpP x y).2 h] at h1; cases h1
    have b : ¬ _ := fun h => by rw [(ltOf_cmpP y z).2 h] at h2; cases h2
    cases h : Go.Proofs.ltOf cmpP x z
    · rfl
    · have c := (ltOf_cmpP x z).1 h
      omega
theorem tot_cmpP (x y : Int × Int) (h1 : Go.Proofs.ltOf cmpP x y = false) (h2 : Go.Proofs.ltOf cmpP y x = false) : x = y := by
  have a : ¬ _ := fun h => by rw [(ltOf_cmpP x y).2 h] at h1; cases h1
  have b : ¬ _ := fun h => by rw [(ltOf_cmpP y x).2 h] at h2; cases h2
  obtain ⟨x1, x2⟩ := x
  obtain ⟨y1, y2⟩ := y
  simp only at a b
  rw [Prod.mk.injEq]
  omega
/-- Pairs in order. -/
def sortP (L : List (Int × Int)) : List (Int × Int) := L.mergeSort fun x y => !(Go.Proofs.ltOf cmpP) y x
theorem sortP_perm (L : List (Int × Int)) : (sortP L).Perm L := List.mergeSort_perm _ _
theorem sortP_length (L : List (Int × Int)) : (sortP L).length = L.length := (sortP_perm L).length_eq
theorem sortP_eq {L M : List (Int × Int)} : sortP L = sortP M ↔ L.Perm M := by
  constructor
  · intro h
    exact ((sortP_perm L).symm.trans (h ▸ List.Perm.refl _)).trans (sortP_perm M)
  · intro h
    have st : ∀ X : List (Int × Int), (sortP X).Pairwise fun x y => (!(Go.Proofs.ltOf cmpP) y x) = true := fun X => by
      refine List.pairwise_mergeSort (fun a b c h1 h2 => ?_) (fun a b => ?_) X
      · simp only [Bool.not_eq_true'] at h1 h2 ⊢
        exact swo_cmpP.ntrans c b a h2 h1
      · cases h1 : Go.Proofs.ltOf cmpP b a
        · simp
        · cases h2 : Go.Proofs.ltOf cmpP a b
          · simp
          · have := swo_cmpP.trans _ _ _ h1 h2
            rw [swo_cmpP.irrefl] at this
            cases this
    exact List.Perm.eq_of_pairwise (le := fun x y => (!(Go.Proofs.ltOf cmpP) y x) = true) (fun a b _ _ h1 h2 => tot_cmpP a b (by simpa using h2) (by simpa using h1)) (st L) (st M) (((sortP_perm L).trans h).trans (sortP_perm M).symm)
theorem flat_get2 {L : List (Int × Int)} {p q : Nat} (hp : p < L.length) (hq : q < 2) : (ecells L)[p * 2 + q]? = some (flatK encP 2 L.toArray)[p * 2 + q]! := by
  rw [get_flatK _ _ _ _ (by simp; omega), show (p * 2 + q) / 2 = p by omega, show (p * 2 + q) % 2 = q by omega]
  obtain ⟨c0, c1⟩ := ecells_get L p hp
  have e : L.toArray[p]! = E! L p := by
    rw [getElem!_pos L.toArray p (by simpa using hp)]
    simp [E!, hp]
  rw [e]
  match q, hq with
  | 0, _ => simpa [encP] using c0
  | 1, _ => simpa [encP] using c1
theorem flat_getP {L : List (Int × Int)} {j : Nat} (h : j < L.length * 2) : (ecells L)[j]? = some (flatK encP 2 L.toArray)[j]! := by
  have := flat_get2 (L := L) (p := j / 2) (q := j % 2) (by omega) (by omega)
  rwa [show j / 2 * 2 + j % 2 = j by omega] at this
theorem grown_sortK' (w : World) (blk off m : Nat) (dk : Array (Int × Int)) (os : Array Obj) (hb : blk < w.heap.size) : Below blk w (Go.Proofs.sortWorldK encP 2 w blk off m dk os) := by
  have h1 : (Go.Proofs.sortWorldK encP 2 w blk off m dk os).heap.size = w.heap.size + os.size := by
    show (Go.Sort.grow (Go.Sort.putRow id (Go.Sort.ahead w m) blk off _) os).heap.size = _
    rw [Go.Sort.size_grow, Go.Sort.size_putRow]
    rfl
  refine ⟨rfl, rfl, rfl, by omega, fun j hj => ?_⟩
  have h2 : blk ≠ j := by omega
  show (Go.Sort.grow (Go.Sort.putRow id (Go.Sort.ahead w m) blk off _) os).heap[j]? = _
  rw [Go.Sort.heap_grow_old _ _ (by rw [Go.Sort.size_putRow]; show j < w.heap.size; omega)]
  simp only [Go.Sort.putRow, Go.Sort.mapBlock, Array.getElem?_modify, h2, if_false]
  rfl
theorem sort_pairs (w : World) (base : Nat) (v : Value) (L : List (Int × Int)) (hL : L.length ≤ 1000000000) (hown : w.ownsRow base 79 2 v L.length (ecells L)) :
    Calls Tryz.prog 67 #[v, .func (.func 68) #[] #[]] w fun e w' => e = .returned (.tuple #[]) ∧
      ∃ ao cap, v = .slice ao L.length cap ∧ EdgesAt w' ao (sortP L) ∧ Below base w w' := by
  by_cases h0 : L = []
  · subst h0
    obtain ⟨ao, cap, rfl, hE⟩ := owns_edges hown
    refine (Go.Proofs.AnyF.slices_SortFunc_none laysSortP ao cap _ w).mono fun e w' ⟨he, hw⟩ => ⟨he, ao, cap, rfl, ?_, ?_⟩
    · exact fun hne => absurd (List.length_eq_zero_iff.1 (by rw [sortP_length]; rfl)) hne
    · rw [hw]; exact Below.refl _ _
  have hpos := List.length_pos_iff.2 h0
  obtain ⟨gf, capf, rfl, hbg, hgl, -, -, hcl, hfr⟩ := owns_block hown hpos
  have hH : HoldsK encP 2 w gf 0 L.toArray := fun j hj => by
    simp at hj
    rw [Nat.zero_add]
    exact ⟨hcl j _ (flat_getP hj), hfr j⟩
  have hcmp : Go.Proofs.CmpLays Tryz.prog 68 #[] encP 2 cmpP gf 0 L.toArray.size w := fun m os dk _ x y => by
    have := kcmp_any x.1 x.2 y.1 y.2 (Go.Proofs.sortWorldK encP 2 w gf 0 m dk os)
    exact this.mono fun e w' ⟨h1, q, os', h2⟩ => ⟨h1, q, os', h2⟩
  have hs := Go.Proofs.AnyQ.slices_SortFunc_total laysSortP 2 Tryz.isAgg79 Tryz.sizeOf79 encP (fun _ => rfl) (fun x v hv => by simp [encP] at hv; rcases hv with rfl | rfl <;> rfl) cmpP swo_cmpP 68 #[] gf 0 capf L.toArray w (enters_of Tryz.func68 (by kernel_rfl) rfl) hcmp hH hgl (by simp; omega) tot_cmpP
  have e0 : L.toArray.size = L.length := by simp
  rw [e0] at hs
  refine Calls.mono hs fun e w' ⟨he, n, os, hw⟩ => ⟨he, some ⟨gf, 0, none⟩, capf, rfl, ?_, ?_⟩
  · have hw : w' = Go.Proofs.sortWorldK encP 2 w gf 0 n (sortP L).toArray os := hw
    rw [hw]
    have hd : (sortP L).toArray.size = L.toArray.size := by simp [sortP_length]
    have hg := grown_sortK' w gf 0 n (sortP L).toArray os hgl
    have hh := Go.Proofs.holdsK_sortWorldK_c encP 2 w gf 0 L.toArray (sortP L).toArray n os hH hgl hd
    refine fun _ => ⟨gf, 0, rfl, by have := hg.size; omega, fun i hi => ?_⟩
    have get : ∀ q, q < 2 → (Go.Proofs.sortWorldK encP 2 w gf 0 n (sortP L).toArray os).cell? ⟨gf, 0 + (i * 2 + q), none⟩ = (ecells (sortP L))[i * 2 + q]? := fun q hq => by
      have := (hh (i * 2 + q) (by simp; omega)).1
      rw [this, flat_get2 hi hq]; rfl
    have g := ecells_get (sortP L) i hi
    exact ⟨by rw [← Nat.add_zero (i * 2), get 0 (by omega)]; exact g.1, by rw [Nat.add_assoc, get 1 (by omega)]; exact g.2⟩
  · rw [hw]
    have := grown_sortK' w gf 0 n (List.mergeSort L.toArray.toList fun x y => !(Go.Proofs.ltOf cmpP) y x).toArray os hgl
    exact ⟨this.1, this.2, this.3, this.4, fun j hj => this.5 j (by omega)⟩
theorem part_two (a b : Value) (w : World) : (part 3 #[a, b] 0).run Tryz.prog w = .ok a w ∧ (part 3 #[a, b] 1).run Tryz.prog w = .ok b w := ⟨by kernel_rfl, by kernel_rfl⟩
theorem two_equal (x y x' y' : Int) (w : World) :
    (Op.equalIn 10000 79 (.agg #[.int .i64 x, .int .i64 y]) (.agg #[.int .i64 x', .int .i64 y'])).run Tryz.prog w = .ok (x == x' && y == y') w := by
  obtain ⟨i0, hi, -⟩ := info_parts info3
  have hc : Tryz.prog.cellsOf 3 = 1 := by kernel_rfl
  have hu : Tryz.prog.underlying 3 = some (.int .i64) := by kernel_rfl
  rw [run_equalIn_array (P := Tryz.prog) w 9999 (t := 79) (e := 3) (n := 2) (i := i0) _ _ (by kernel_rfl) hi, hc]
  simp only [List.range_succ, List.range_zero, List.nil_append, List.cons_append, Op.eqItems, Sem.run_bind, Nat.mul_one, (part_two _ _ _).1, (part_two _ _ _).2, Result.andThen_ok, run_equalIn_int (P := Tryz.prog) _ _ _ _ _ _ _ hu]
  by_cases h1 : x = x' <;> by_cases h2 : y = y' <;> simp [h1, h2, (part_two _ _ _).1, (part_two _ _ _).2, run_equalIn_int (P := Tryz.prog) _ _ _ _ _ _ _ hu]
theorem E!_ext {E F : List (Int × Int)} (hl : E.length = F.length) (h : ∀ i, i < E.length → E! E i = E! F i) : E = F := by
  apply List.ext_getElem hl
  intro i h1 h2
  have := h i h1
  simpa [E!, h1, h2] using this
set_option maxRecDepth 100000 in
set_option maxHeartbeats 1000000 in
theorem pairs_equal (ao bo : Option Addr) (cap cap' : Nat) (E F : List (Int × Int)) (w : World) (hl : E.length ≤ 1000000) (hl' : F.length ≤ 1000000) (hE : EdgesAt w ao E) (hF : EdgesAt w bo F) :
    Calls Tryz.prog 41 #[.slice ao E.length cap, .slice bo F.length cap'] w fun e w' => e = .returned (.bool (decide (E = F))) ∧ ∃ n, w' = w.drewN n := by
  obtain ⟨m, hm⟩ : ∃ m, m = E.length := ⟨_, rfl⟩
  obtain ⟨m', hm'⟩ : ∃ m, m = F.length := ⟨_, rfl⟩
  rw [← hm] at hl ⊢
  rw [← hm'] at hl' ⊢
  obtain ⟨r, hr⟩ : ∃ r, r = decide (E = F) := ⟨_, rfl⟩
  rw [← hr]
  have HNE := Lib.hid (show m ≠ m' → r = false from fun h => by rw [hr]; exact decide_eq_false fun e => h (by rw [hm, hm', e]))
  have HN := Lib.hid (show ∀ k, k < m → E! E k ≠ E! F k → r = false from fun k hk h => by rw [hr]; exact decide_eq_false fun e => h (by rw [e]))
  have HY := Lib.hid (show m = m' → (∀ k, k < m → E! E k = E! F k) → r = true from fun h1 h2 => by rw [hr]; exact decide_eq_true (E!_ext (by omega) (by rw [← hm]; exact h2)))
  have HE := Lib.hid (show ∀ k, k < m → ∃ b off, ao = some ⟨b, off, none⟩ ∧ b < w.heap.size ∧ w.cell? ⟨b, off + k * 2, none⟩ = some (.int .i64 (E! E k).1) ∧ w.cell? ⟨b, off + k * 2 + 1, none⟩ = some (.int .i64 (E! E k).2) from fun k hk => by
    obtain ⟨b, off, h1, h2, h3⟩ := hE (List.ne_nil_of_length_pos (by omega))
    exact ⟨b, off, h1, h2, h3 k (by omega)⟩)
  have HF := Lib.hid (show ∀ k, k < m' → ∃ b off, bo = some ⟨b, off, none⟩ ∧ b < w.heap.size ∧ w.cell? ⟨b, off + k * 2, none⟩ = some (.int .i64 (E! F k).1) ∧ w.cell? ⟨b, off + k * 2 + 1, none⟩ = some (.int .i64 (E! F k).2) from fun k hk => by
    obtain ⟨b, off, h1, h2, h3⟩ := hF (List.ne_nil_of_length_pos (by omega))
    exact ⟨b, off, h1, h2, h3 k (by omega)⟩)
  obtain ⟨ε, hε⟩ : ∃ ε, ε = E! E := ⟨_, rfl⟩
  obtain ⟨φ, hφ⟩ : ∃ ε, ε = E! F := ⟨_, rfl⟩
  rw [← hε] at HN HY HE
  rw [← hφ] at HN HY HF
  clear hE hF hr hm hm' hε hφ
  by_cases hmm : m = m'
  case neg =>
    have d0 : ((m : Int) != (m' : Int)) = true := by simp; omega
    have HR := Lib.hid (HNE.out hmm)
    clear hmm
    go_enter Tryz.func41, Tryz.ntmps41
    go_wp2
    exact bodyPost_ret (v := .bool false) (by simp [results, Tryz.results41, go_sem]) rfl ⟨by rw [HR.out], 0, rfl⟩
  case pos =>
  subst hmm
  go_enter Tryz.func41, Tryz.ntmps41
  go_wp2
  go_loopw [13] (fun i ws => ∃ k : Nat, k ≤ m ∧ i = .int .i64 k ∧ (∃ n, ws = w.drewN n) ∧ Hid (∀ j, j < k → ε j = φ j)) (fun i _ => m - (intOf i).toNat)
  case atStart => exact ⟨0, by omega, rfl, ⟨0, rfl⟩, fun j hj => by omega⟩
  case round =>
  obtain ⟨k, hk, rfl, ⟨q, hws⟩, hall⟩ := hrel
  rw [hws]
  clear hws
  by_cases hlt : k < m
  case neg =>
    have HR := Lib.hid (HY.out trivial fun j hj => hall.out j (by omega))
    go_wp2
    exact bodyPost_ret (v := .bool true) (by simp [results, Tryz.results41, go_sem]) rfl ⟨by rw [HR.out], q, rfl⟩
  case pos =>
  obtain ⟨b, off, rfl, hb, g0, g1⟩ := HE.out k hlt
  obtain ⟨b', off', rfl, hb', g0', g1'⟩ := HF.out k hlt
  obtain ⟨x, hx⟩ : ∃ x, x = ε k := ⟨_, rfl⟩
  obtain ⟨y, hy⟩ : ∃ x, x = φ k := ⟨_, rfl⟩
  rw [← hx] at g0 g1
  rw [← hy] at g0' g1'
  obtain ⟨x0, x1⟩ := x
  obtain ⟨y0, y1⟩ := y
  obtain ⟨t, ht⟩ : ∃ t, t = (x0 == y0 && x1 == y1) := ⟨_, rfl⟩
  have hte : ∀ w, (Op.equalIn 10000 79 (.agg #[.int .i64 x0, .int .i64 x1]) (.agg #[.int .i64 y0, .int .i64 y1])).run Tryz.prog w = .ok t w := fun w => by rw [ht]; exact two_equal x0 x1 y0 y1 w
  have HT := Lib.hid (show (t = false → r = false) ∧ (t = true → ε k = φ k) from ⟨fun h => HN.out k hlt (fun e => by rw [← hx, ← hy] at e; injection e with e1 e2; rw [h, e1, e2] at ht; simp at ht), fun h => by
    rw [h] at ht
    simp only [Bool.true_eq, Bool.and_eq_true, beq_iff_eq] at ht
    rw [← hx, ← hy, ht.1, ht.2]⟩)
  have hk0 : (0 : Int) ≤ (k : Int) := by omega
  have hk1 : (k : Int) < (m : Int) := by omega
  clear hx hy ht
  cases t
  case false =>
    have HR := Lib.hid (HT.out.1 rfl)
    go_upto_region 6 with fail
    go_quiet (fail)
    go_wp2
    exact bodyPost_ret (v := .bool false) (by simp [results, Tryz.results41, go_sem]) rfl ⟨by rw [HR.out], _, rfl⟩
  case true =>
    have HR := Lib.hid (show ∀ j, j < k + 1 → ε j = φ j from fun j hj => by
      by_cases e : j = k
      · rw [e]; exact HT.out.2 rfl
      · exact hall.out j (by omega))
    go_upto_region 6 with fail
    go_quiet (fail)
    go_wp2
    go_roundw
    case rel => exact ⟨k + 1, by omega, by go_num, ⟨_, rfl⟩, HR⟩
    case measure => simp [intOf]; omega
end Go.Proofs.YtbeefabboabfgaaGreat

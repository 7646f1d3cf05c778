/- slices.IndexFunc, slices.DeleteFunc of edges, by the test of tree.Prune. slices.DeleteFunc of edges: contract. tree.Prune: contract. tree.Prune: contract. -/
import Derived.Test.YtkjamheoihlekaaGreatTreePrune1
import Derived.Test.YtkjamheoihlekaaGreatQueue
import Derived.Laws.IdiomCopy
import Derived.Laws.AppendOwn
import Derived.Lib.SliceRun
import Derived.Test.YtkjamheoihlekaaGreatCornerNew
import Derived.Test.YtkjamheoihlekaaGreatShelf
import Derived.Deep.AppendLies
namespace Go.Proofs.YtkjamheoihlekaaGreat
set_option linter.unusedVariables false
set_option linter.unusedSimpArgs false
open Go.RowKit Go.Maps
/-- Block g holds the edges L 0 .. L (n - 1), and whatever behind them. -/
def Ed (X : World) (g : Nat) (L : Nat → Int × Int) (n : Nat) : Prop :=
  ∃ xs, RowIs X g 40 xs ∧ n * 2 ≤ xs.length ∧ ∀ k, k < n → xs[k * 2]? = some (.int .i64 (L k).1) ∧ xs[k * 2 + 1]? = some (.int .i64 (L k).2)
theorem Ed.more {X Y : World} {g : Nat} {L : Nat → Int × Int} {n : Nat} (h : Ed X g L n) (hb : Below X.heap.size X Y) : Ed Y g L n := by
  obtain ⟨xs, h1, h2, h3⟩ := h
  exact ⟨xs, h1.after hb, h2, h3⟩
theorem Ed.get {X : World} {g : Nat} {L : Nat → Int × Int} {n : Nat} (h : Ed X g L n) {k : Nat} (hk : k < n) : X.cell? ⟨g, k * 2, none⟩ = some (.int .i64 (L k).1) ∧ X.cell? ⟨g, k * 2 + 1, none⟩ = some (.int .i64 (L k).2) ∧ X.frozen? ⟨g, k * 2, none⟩ = false ∧ X.frozen? ⟨g, k * 2 + 1, none⟩ = false ∧ g < X.heap.size := by
  obtain ⟨xs, h1, h2, h3⟩ := h
  obtain ⟨a, b⟩ := h3 k hk
  exact ⟨h1.cell a, h1.cell b, h1.free _, h1.free _, h1.lt⟩
theorem Ed.set {X : World} {g : Nat} {L : Nat → Int × Int} {n : Nat} (h : Ed X g L n) {i : Nat} (hi : i < n) (x y : Int) :
    Ed ((X.setCell ⟨g, i * 2, none⟩ (.int .i64 x)).setCell ⟨g, i * 2 + 1, none⟩ (.int .i64 y)) g (fun k => if k = i then (x, y) else L k) n := by
  obtain ⟨xs, h1, h2, h3⟩ := h
  refine ⟨_, (h1.set (i * 2) (.int .i64 x)).set (i * 2 + 1) (.int .i64 y), by simpa using h2, fun k hk => ?_⟩
  obtain ⟨a, b⟩ := h3 k hk
  by_cases e : k = i
  · subst e
    simp only [↓reduceIte]
    constructor
    · rw [List.getElem?_set_ne (by omega), List.getElem?_set_self (by omega)]
    · rw [List.getElem?_set_self (by simp; omega)]
  · simp only [if_neg e]
    constructor
    · rw [List.getElem?_set_ne (by omega), List.getElem?_set_ne (by omega)]; exact a
    · rw [List.getElem?_set_ne (by omega), List.getElem?_set_ne (by omega)]; exact b
theorem row_setCells {e : TypeId} {g : Nat} : ∀ (cs : List Value) (o : Nat) (X : World) (xs : List Value), RowIs X g e xs → ∃ ys, RowIs (X.setCells g o cs) g e ys ∧ ys.length = xs.length ∧ ∀ j, j < o → ys[j]? = xs[j]?
  | [], o, X, xs, h => ⟨xs, h, rfl, fun _ _ => rfl⟩
  | c :: cs, o, X, xs, h => by
    obtain ⟨ys, h1, h2, h3⟩ := row_setCells cs (o + 1) _ _ (h.set o c)
    refine ⟨ys, h1, by rw [h2]; simp, fun j hj => ?_⟩
    rw [h3 j (by omega), List.getElem?_set_ne (by omega)]
theorem grown_setCells (g : Nat) : ∀ (cs : List Value) (o : Nat) (X : World), X.grownBy (X.setCells g o cs) (some g)
  | [], _, _ => ⟨rfl, rfl, rfl, Nat.le_refl _, fun _ _ _ => rfl⟩
  | c :: cs, o, X => grown_tr (grown_set X g o c) (grown_setCells g cs (o + 1) _)
theorem Ed.clear {X : World} {g : Nat} {L : Nat → Int × Int} {n : Nat} (h : Ed X g L n) {i : Nat} (hi : i ≤ n) (cs : List Value) : Ed (X.setCells g (i * 2) cs) g L i := by
  obtain ⟨xs, h1, h2, h3⟩ := h
  obtain ⟨ys, k1, k2, k3⟩ := row_setCells cs (i * 2) X xs h1
  refine ⟨ys, k1, by omega, fun k hk => ?_⟩
  obtain ⟨a, b⟩ := h3 k (by omega)
  exact ⟨by rw [k3 _ (by omega)]; exact a, by rw [k3 _ (by omega)]; exact b⟩
theorem clear_edges {X : World} {g : Nat} {L : Nat → Int × Int} {n : Nat} (h : Ed X g L n) {i : Nat} (hi : i < n) (cap : Nat) :
    ∃ zs : List Value, ∀ ty, (Builtin.clear_ #[34] ty #[.slice (some ⟨g, i * 2, none⟩) (n - i) cap]).run Tryz.prog X = .ok (.tuple #[]) (X.setCells g (i * 2) zs) := by
  obtain ⟨xs, h1, h2, h3⟩ := h
  refine ⟨(Builtin.zeroCells #[.int .i64 0, .int .i64 0] (n - i)).toList, fun ty => ?_⟩
  have hl : (Builtin.zeroCells #[Value.int .i64 0, .int .i64 0] (n - i)).toList.length = (n - i) * 2 := by simp [size_zeroCells]
  have hu : Tryz.prog.underlying 34 = some (.slice 40) := by kernel_rfl
  have hz : ∀ w, (zeroValue 40).run Tryz.prog w = .ok (.agg #[.int .i64 0, .int .i64 0]) w := fun _ => by kernel_rfl
  have hst := run_storeCells_cells (P := Tryz.prog) g (i * 2) (Builtin.zeroCells #[.int .i64 0, .int .i64 0] (n - i)).toList 0 X (fun j hj => by
    rw [hl] at hj
    have : i * 2 + 0 + j < xs.length := by omega
    rw [h1.cell (List.getElem?_eq_getElem this)]
    rfl) (fun j hj => h1.free _) (fun v hv => by
    simp only [Builtin.zeroCells, Array.toList_map, List.mem_map] at hv
    obtain ⟨q, -, rfl⟩ := hv
    have : q % 2 = 0 ∨ q % 2 = 1 := by omega
    rcases this with e | e <;> simp [e, Value.oneCell'])
  have hpos : n - i ≠ 0 := by omega
  obtain ⟨r, hr⟩ : ∃ r, n - i = r + 1 := ⟨n - i - 1, by omega⟩
  rw [hr] at hst ⊢
  simp only [Nat.add_zero] at hst
  simp [Builtin.clear_, run_underlying hu, hz, Value.cells, hst, Result.andThen]
/-- The map of degrees, in its box. -/
structure PQ (Y : World) (m nn db : Nat) (f : Int → Nat) : Prop where
  mp : MapIs intFam Y m nn (mN f)
  d : Y.cell? ⟨db, 0, none⟩ = some (.map (some m))
  dl : db < Y.heap.size
theorem PQ.more {Y Z : World} {m nn db : Nat} {f : Int → Nat} (h : PQ Y m nn db f) (hb : Below Y.heap.size Y Z) : PQ Z m nn db f :=
  ⟨h.mp.below (Nat.le_refl _) hb, (hb.cell (p := ⟨db, 0, none⟩) h.dl).trans h.d, by have := hb.size; have := h.dl; omega⟩
theorem PQ.grown {Y Z : World} {m nn db g : Nat} {f : Int → Nat} (h : PQ Y m nn db f) (hg : Y.grownBy Z (some g)) (h1 : g ≠ m) (h2 : g ≠ db) : PQ Z m nn db f := by
  refine ⟨h.mp.same (hg.block m h.mp.lt (by simp; omega)), ?_, by have := hg.size; have := h.dl; omega⟩
  rw [← h.d]
  have := hg.block db h.dl (by simp; omega)
  simp only [World.cell?, this]
set_option maxRecDepth 100000 in
set_option maxHeartbeats 4000000 in
theorem index_ok {g : Nat} {L : Nat → Int × Int} {n : Nat} (cap m nn db : Nat) (f : Int → Nat) (X : World) (h : Ed X g L n) (hI : ∀ k, k < n → I64 (L k).1 ∧ I64 (L k).2) (hq : PQ X m nn db f) (hf : ∀ v, f v ≤ 300000) (hn : n ≤ 100000) :
    Calls Tryz.prog 90 #[.slice (some ⟨g, 0, none⟩) n cap, .func (.func 53) #[] #[.pointer (some ⟨db, 0, none⟩)]] X fun e w' => Below X.heap.size X w' ∧ ((e = .returned (.int .i64 (-1)) ∧ ∀ k, k < n → loneB f (L k) = false) ∨ ∃ i : Nat, i < n ∧ e = .returned (.int .i64 i) ∧ (∀ k, k < i → loneB f (L k) = false) ∧ loneB f (L i) = true) := by
  have HE := Lib.hid h
  have HI := Lib.hid hI
  have HQ := Lib.hid hq
  have HF := Lib.hid hf
  clear h hI hq hf
  go_enter Tryz.func90, Tryz.ntmps90
  go_wp2
  go_loopw [8] (fun v ws => ∃ i : Nat, i ≤ n ∧ v = .int .i64 i ∧ Below X.heap.size X ws ∧ Hid (∀ k, k < i → loneB f (L k) = false)) (fun v _ => n - (intOf v).toNat)
  case atStart => exact ⟨0, by omega, rfl, Below.refl _ _, Lib.hid fun k hk => by omega⟩
  case round =>
  obtain ⟨i, hi, rfl, hb, HL⟩ := hrel
  obtain ⟨Y, rfl⟩ : ∃ Y : World, Y = wr := ⟨_, rfl⟩
  by_cases hlt : i < n
  case neg =>
    obtain rfl : i = n := by omega
    have HB := Lib.hid hb
    clear hb
    go_wp2
    exact bodyPost_ret (v := .int .i64 (-1)) (by simp [results, Tryz.results90, go_sem]) rfl ⟨HB.out, .inl ⟨rfl, HL.out⟩⟩
  case pos =>
  obtain ⟨c1, c2, -, -, -⟩ := (HE.out.more hb).get hlt
  have hii := HI.out i hlt
  have hqY := HQ.out.more hb
  obtain ⟨⟨x, y⟩, hxy⟩ : ∃ e, e = L i := ⟨_, rfl⟩
  rw [← hxy] at c1 c2 hii
  have HC := Lib.hid (prune1_ok f m nn db x y hii.1 hii.2 HF.out Y hqY.mp hqY.d hqY.dl)
  have HXY := Lib.hid hxy
  have HB := Lib.hid hb
  have bi : (0 : Int) ≤ (i : Int) ∧ (i : Int) < (n : Int) := by omega
  have z0 : (0 : Nat) + i * 2 = i * 2 := by omega
  obtain ⟨r, hr⟩ : ∃ r, r = loneB f (x, y) := ⟨_, rfl⟩
  rw [← hr] at HC
  have HR := Lib.hid hr
  clear hb hii hqY hxy hr
  go_wp2_with fail
  refine HC.out.mono ?_
  rintro e w2 ⟨rfl, hb2⟩
  have HB2 := Lib.hid (below_more HB.out hb2 HB.out.size)
  clear hb2
  cases r
  case true =>
    go_wp2
    exact bodyPost_ret (v := .int .i64 (i : Int)) (by simp [results, Tryz.results90, go_sem]) rfl ⟨HB2.out, .inr ⟨i, hlt, rfl, HL.out, by rw [← HXY.out]; exact HR.out.symm⟩⟩
  case false =>
    have HN := Lib.hid (show ∀ k, k < i + 1 → loneB f (L k) = false from fun k hk => by
      by_cases e : k = i
      · subst e; rw [← HXY.out]; exact HR.out.symm
      · exact HL.out k (by omega))
    go_wp2
    go_roundw
    case rel => exact ⟨i + 1, by omega, by go_num, HB2.out, HN⟩
    case measure => simp [intOf]; omega
/-- What is left of the first j edges. -/
def Kept (f : Int → Nat) (L L' : Nat → Int × Int) (i j : Nat) : Prop := (List.range i).map L' = ((List.range j).map L).filter (fun e => !loneB f e) ∧ ∀ k, j ≤ k → L' k = L k
theorem Kept.first {f : Int → Nat} {L : Nat → Int × Int} {i : Nat} (h : ∀ k, k < i → loneB f (L k) = false) (h2 : loneB f (L i) = true) : Kept f L L i (i + 1) := by
  refine ⟨?_, fun _ _ => rfl⟩
  rw [List.range_succ, List.map_append, List.filter_append]
  have : ((List.range i).map L).filter (fun e => !loneB f e) = (List.range i).map L := List.filter_eq_self.2 fun e he => by
    obtain ⟨k, hk, rfl⟩ := List.mem_map.1 he
    rw [h k (by simpa using hk)]
    rfl
  rw [this]
  simp [h2]
theorem Kept.skip {f : Int → Nat} {L L' : Nat → Int × Int} {i j : Nat} (h : Kept f L L' i j) (h2 : loneB f (L j) = true) : Kept f L L' i (j + 1) := by
  refine ⟨?_, fun k hk => h.2 k (by omega)⟩
  rw [List.range_succ, List.map_append, List.filter_append, h.1]
  simp [h2]
theorem Kept.take {f : Int → Nat} {L L' : Nat → Int × Int} {i j : Nat} (h : Kept f L L' i j) (hij : i < j) (h2 : loneB f (L j) = false) : Kept f L (fun k => if k = i then L j else L' k) (i + 1) (j + 1) := by
  refine ⟨?_, fun k hk => ?_⟩
  · rw [List.range_succ, List.map_append, List.range_succ (n := j), List.map_append, List.filter_append, ← h.1]
    have : (List.range i).map (fun k => if k = i then L j else L' k) = (List.range i).map L' := List.map_congr_left fun k hk => by
      have : k ≠ i := by simp at hk; omega
      simp [this]
    rw [this]
    simp [h2]
  · show (if k = i then L j else L' k) = L k
    rw [if_neg (by omega)]
    exact h.2 k (by omega)
set_option maxRecDepth 100000 in
set_option maxHeartbeats 4000000 in
theorem del_ok {W : World} {B g : Nat} {L : Nat → Int × Int} {n : Nat} (cap m nn db : Nat) (f : Int → Nat) (X : World) (h : Ed X g L n) (hI : ∀ k, k < n → I64 (L k).1 ∧ I64 (L k).2) (hq : PQ X m nn db f) (hf : ∀ v, f v ≤ 300000) (hn : n ≤ 100000) (hcap : n ≤ cap) (hcap2 : cap ≤ maxLen) (hgm : g ≠ m) (hgd : g ≠ db) (hB : Below B W X) (hBg : B ≤ g) :
    Calls Tryz.prog 52 #[.slice (some ⟨g, 0, none⟩) n cap, .func (.func 53) #[] #[.pointer (some ⟨db, 0, none⟩)]] X fun e w' => ∃ (i : Nat) (L' : Nat → Int × Int), i ≤ n ∧ e = .returned (.slice (some ⟨g, 0, none⟩) i cap) ∧ Ed w' g L' i ∧ (List.range i).map L' = ((List.range n).map L).filter (fun e => !loneB f e) ∧ Below B W w' := by
  have HIX := Lib.hid (index_ok cap m nn db f X h hI hq hf hn)
  have HE := Lib.hid h
  have HI := Lib.hid hI
  have HQ := Lib.hid hq
  have HF := Lib.hid hf
  have HGM := Lib.hid hgm
  have HGD := Lib.hid hgd
  have HB := Lib.hid hB
  have HBG := Lib.hid hBg
  have HGX := Lib.hid (show g < X.heap.size from by obtain ⟨xs, h1, -⟩ := h; exact h1.lt)
  clear h hI hq hf hgm hgd hB hBg
  go_enter Tryz.func52, Tryz.ntmps52
  go_wp2_with fail
  refine HIX.out.mono ?_
  rintro e w1 ⟨hb1, ⟨rfl, hall⟩ | ⟨i0, hi0, rfl, hbef, hat⟩⟩
  · have HFN := Lib.hid (show Ed w1 g L n ∧ (List.range n).map L = ((List.range n).map L).filter (fun e => !loneB f e) ∧ Below B W w1 from ⟨HE.out.more hb1, (List.filter_eq_self.2 fun e he => by
      obtain ⟨k, hk, rfl⟩ := List.mem_map.1 he
      rw [hall k (by simpa using hk)]
      rfl).symm, below_more HB.out hb1 (by have := HGX.out; have := HBG.out; omega)⟩)
    clear hb1 hall
    go_wp2
    exact bodyPost_ret (v := .slice (some ⟨g, 0, none⟩) n cap) (by simp [results, Tryz.results52, go_sem]) rfl ⟨n, L, Nat.le_refl _, rfl, HFN.out.1, HFN.out.2.1, HFN.out.2.2⟩
  have HS0 := Lib.hid (show Ed w1 g L n ∧ Kept f L L i0 (i0 + 1) ∧ PQ w1 m nn db f ∧ Below B W w1 from ⟨HE.out.more hb1, Kept.first hbef hat, HQ.out.more hb1, below_more HB.out hb1 (by have := HGX.out; have := HBG.out; omega)⟩)
  have g0 : ((i0 : Int) == -1) = false := by simp
  clear hb1 hbef hat HE HQ HB
  go_wp2
  go_loopw [5, 6] (fun v5 v6 ws => ∃ (i j : Nat) (L' : Nat → Int × Int), i < j ∧ j ≤ n ∧ v5 = .int .i64 i ∧ v6 = .int .i64 j ∧ Ed ws g L' n ∧ Hid (Kept f L L' i j) ∧ PQ ws m nn db f ∧ Below B W ws) (fun _ v6 _ => n - (intOf v6).toNat)
  case atStart => exact ⟨i0, i0 + 1, L, by omega, by omega, rfl, by go_num, HS0.out.1, Lib.hid HS0.out.2.1, HS0.out.2.2.1, HS0.out.2.2.2⟩
  case round =>
  clear HS0 g0 hi0
  obtain ⟨i, j, L', hij, hj, rfl, rfl, hE, HK, hQ, hB⟩ := hrel
  obtain ⟨Y, rfl⟩ : ∃ Y : World, Y = wr := ⟨_, rfl⟩
  by_cases hlt : j < n
  case neg =>
    obtain rfl : j = n := by omega
    obtain ⟨zs, hcl⟩ := clear_edges hE (i := i) (by omega) (cap - i)
    have hc1 : ¬ cap = i := by omega
    have z0 : (0 : Nat) + i * 2 = i * 2 := by omega
    have HFN := Lib.hid (show Ed (Y.setCells g (i * 2) zs) g L' i ∧ Below B W (Y.setCells g (i * 2) zs) from ⟨hE.clear (by omega) zs, hB.grown (grown_setCells g zs (i * 2) Y) (by obtain ⟨xs, h1, -⟩ := hE; have := h1.lt; have := HBG.out; omega) (fun q hq => by cases hq; exact HBG.out)⟩)
    have hw1 : i ≤ j := by omega
    have hw2 : i ≤ cap := by omega
    have hmx : cap ≤ 9223372036854775807 := by unfold maxLen at hcap2; omega
    clear hE hQ hB
    go_wp2
    exact bodyPost_ret (v := .slice (some ⟨g, 0, none⟩) i cap) (by simp [results, Tryz.results52, go_sem]) rfl ⟨i, L', hw1, rfl, HFN.out.1, HK.out.1, HFN.out.2⟩
  case pos =>
  obtain ⟨c1, c2, -, -, hgY⟩ := hE.get hlt
  have hLj := HK.out.2 j (Nat.le_refl _)
  have hii := HI.out j hlt
  rw [hLj] at c1 c2
  obtain ⟨⟨x, y⟩, hxy⟩ : ∃ e, e = L j := ⟨_, rfl⟩
  rw [← hxy] at c1 c2 hii
  have hba : Below Y.heap.size Y (Y.alloc (.cells #[.int .i64 x, .int .i64 y] 40)) := (Below.refl _ _).alloc (Nat.le_refl _) _
  have hr := RowIs.made Y 40 [.int .i64 x, .int .i64 y]
  obtain ⟨Y1, hY1⟩ : ∃ Y1, Y1 = Y.alloc (.cells #[.int .i64 x, .int .i64 y] 40) := ⟨_, rfl⟩
  obtain ⟨yb, hyb⟩ : ∃ y, y = Y.heap.size := ⟨_, rfl⟩
  have hrY : RowIs Y1 yb 40 [.int .i64 x, .int .i64 y] := by rw [hY1, hyb]; exact hr
  rw [← hY1] at hba
  have hE1 := hE.more hba
  have hQ1 := hQ.more hba
  have HC := Lib.hid (prune1_ok f m nn db x y hii.1 hii.2 HF.out Y1 hQ1.mp hQ1.d hQ1.dl)
  obtain ⟨r, hr'⟩ : ∃ r, r = loneB f (x, y) := ⟨_, rfl⟩
  rw [← hr'] at HC
  have HR := Lib.hid (show r = loneB f (L j) from by rw [← hxy]; exact hr')
  have HXY := Lib.hid hxy
  have HRY := Lib.hid hrY
  have HE1 := Lib.hid hE1
  have HQ1 := Lib.hid hQ1
  have HB1 := Lib.hid (show Below B W Y1 ∧ B ≤ Y1.heap.size from ⟨below_more hB hba (by have := HBG.out; omega), by have := HBG.out; have := hba.size; omega⟩)
  have HY1 := Lib.hid hY1
  have HYB := Lib.hid (show yb = Y.heap.size ∧ g < yb from ⟨hyb, by rw [hyb]; exact hgY⟩)
  have bj : (0 : Int) ≤ (j : Int) ∧ (j : Int) < (n : Int) := by omega
  have q0 := hrY.cell (i := 0) rfl
  have q1 := hrY.cell (i := 1) rfl
  have z0 : (0 : Nat) + j * 2 = j * 2 := by omega
  clear hE hQ hB hLj hii hxy hba hr hY1 hrY hE1 hQ1 hr' hyb hgY
  go_upto_region 8 with fail
  rw [← HYB.out.1, ← HY1.out]
  go_wp2_with fail
  refine HC.out.mono ?_
  rintro e w2 ⟨rfl, hb2⟩
  have hE2 := HE1.out.more hb2
  have hQ2 := HQ1.out.more hb2
  have hB2 := below_more HB1.out.1 hb2 HB1.out.2
  have hr2 := HRY.out.after hb2
  cases r
  case true =>
    have HN := Lib.hid (show Ed w2 g L' n ∧ Kept f L L' i (j + 1) ∧ PQ w2 m nn db f ∧ Below B W w2 from ⟨hE2, HK.out.skip HR.out.symm, hQ2, hB2⟩)
    clear hE2 hQ2 hB2 hr2 hb2 c1 c2
    go_wp2
    go_roundw
    case rel => exact ⟨i, j + 1, L', by omega, by omega, rfl, by go_num, HN.out.1, Lib.hid HN.out.2.1, HN.out.2.2.1, HN.out.2.2.2⟩
    case measure => simp [intOf]; omega
  case false =>
    obtain ⟨d1, d2, d3, d4, d5⟩ := hE2.get (k := i) (by omega)
    have p0 := hr2.cell (i := 0) rfl
    have p1 := hr2.cell (i := 1) rfl
    obtain ⟨⟨u, v⟩, huv⟩ : ∃ e, e = L' i := ⟨_, rfl⟩
    rw [← huv] at d1 d2
    have hs := hE2.set (i := i) (by omega) x y
    have hgA := grown_set w2 g (i * 2) (.int .i64 x)
    have hgB := grown_set (w2.setCell ⟨g, i * 2, none⟩ (.int .i64 x)) g (i * 2 + 1) (.int .i64 y)
    have HN := Lib.hid (show Ed ((w2.setCell ⟨g, i * 2, none⟩ (.int .i64 x)).setCell ⟨g, i * 2 + 1, none⟩ (.int .i64 y)) g (fun k => if k = i then L j else L' k) n ∧ Kept f L (fun k => if k = i then L j else L' k) (i + 1) (j + 1) ∧ PQ ((w2.setCell ⟨g, i * 2, none⟩ (.int .i64 x)).setCell ⟨g, i * 2 + 1, none⟩ (.int .i64 y)) m nn db f ∧ Below B W ((w2.setCell ⟨g, i * 2, none⟩ (.int .i64 x)).setCell ⟨g, i * 2 + 1, none⟩ (.int .i64 y)) from
      ⟨by rw [← HXY.out]; exact hs, HK.out.take hij HR.out.symm, (hQ2.grown hgA HGM.out HGD.out).grown hgB HGM.out HGD.out, (hB2.grown hgA (by have := HBG.out; omega) (fun q hq => by cases hq; exact HBG.out)).grown hgB (by have := hgA.size; have := HBG.out; omega) (fun q hq => by cases hq; exact HBG.out)⟩)
    have bi : (0 : Int) ≤ (i : Int) ∧ (i : Int) < (n : Int) := by omega
    have z1 : (0 : Nat) + i * 2 = i * 2 := by omega
    clear hE2 hQ2 hB2 hr2 hb2 huv hs hgA hgB c1 c2
    go_wp2
    go_roundw
    case rel => exact ⟨i + 1, j + 1, _, by omega, by omega, by go_num, by go_num, HN.out.1, Lib.hid HN.out.2.1, HN.out.2.2.1, HN.out.2.2.2⟩
    case measure => simp [intOf]; omega
theorem ecells_one (L : List (Int × Int)) : ∀ u ∈ ecells L, u.oneCell' = true := by
  intro u hu
  simp only [ecells, List.mem_flatMap] at hu
  obtain ⟨t, _, ht⟩ := hu
  simp only [List.mem_cons, List.not_mem_nil, or_false] at ht
  rcases ht with rfl | rfl <;> rfl
theorem EdgesAt.cells {w : World} {b off : Nat} {E : List (Int × Int)} (h : EdgesAt w (some ⟨b, off, none⟩) E) : ∀ j u, (ecells E)[j]? = some u → w.cell? ⟨b, off + j, none⟩ = some u := by
  intro j u hj
  have hl : j < E.length * 2 := by have := (List.getElem?_eq_some_iff.1 hj).1; rw [ecells_length] at this; exact this
  obtain ⟨b', off', e, _, hc⟩ := h (by intro e; rw [e] at hl; simp at hl)
  cases e
  obtain ⟨c1, c2⟩ := hc (j / 2) (by omega)
  obtain ⟨g1, g2⟩ := ecells_get E (j / 2) (by omega)
  have hm : j % 2 = 0 ∨ j % 2 = 1 := by omega
  rcases hm with e | e
  · have e1 : j / 2 * 2 = j := by omega
    rw [e1] at g1 c1
    rw [g1] at hj
    cases hj
    exact c1
  · have e1 : j / 2 * 2 + 1 = j := by omega
    rw [e1] at g2
    have e2 : off + j / 2 * 2 + 1 = off + j := by omega
    rw [e2] at c2
    rw [g2] at hj
    cases hj
    exact c2
set_option maxHeartbeats 1000000 in
theorem cloneE_empty (a : Addr) (c : Nat) (w : World) :
    Calls Tryz.prog 50 #[.slice (some a) 0 c] w fun e w' => ∃ v', e = .returned v' ∧ w'.ownsRow w.heap.size 40 2 v' 0 [] ∧ Below w.heap.size w w' := by
  obtain ⟨i0, hi, hz0, hz1, hz2⟩ := info_parts infoEdge
  have q22 : ∀ (w : World) (a : Option Addr) (n c n' c' : Nat), (binOp .eql 34 (.slice a n c) (.slice none n' c')).run Tryz.prog w = .ok (.bool a.isNone) w := fun w a n c n' c' => Lib.run_eql_slice_nil w _ 40 a n c n' c' (by kernel_rfl)
  go_enter Tryz.func50, Tryz.ntmps50
  go_wp2_with (at_builtin; refine wpList_append_own _ rfl _ _ 34 rfl w.heap.size 40 i0 (.agg #[.int .i64 0, .int .i64 0]) 2 16 (by kernel_rfl) hi hz0 hz1 hz2 rfl (by decide) _ _ _ rfl (World.ownsRow_made w #[] 0 (Nat.le_refl _) (Nat.zero_le _) rfl) a 0 c [] rfl rfl (by intro j u hj; simp at hj) (by simp) (by decide) (by decide) (by simp) ?_)
  intro v' w1 hown hgrow _
  go_wp2
  go_ret
  exact ⟨v', rfl, by simpa using hown, ((Below.refl _ w).alloc (Nat.le_refl _) _).grown hgrow (by simp) (by intro k hk; simp [Value.ownBlock] at hk; omega)⟩
theorem clone_edges {w : World} {ao : Option Addr} {E : List (Int × Int)} (cap : Nat) (hE : EdgesAt w ao E) (hl : E.length ≤ 100000) :
    Calls Tryz.prog 50 #[.slice ao E.length cap] w fun e w' => ∃ ao' cap', e = .returned (.slice ao' E.length cap') ∧ w'.ownsRow w.heap.size 40 2 (.slice ao' E.length cap') E.length (ecells E) ∧ Below w.heap.size w w' := by
  obtain ⟨i0, hi, hz0, hz1, hz2⟩ := info_parts infoEdge
  have fin : ∀ {w' : World} {v'}, w'.ownsRow w.heap.size 40 2 v' E.length (ecells E) → Below w.heap.size w w' → ∃ ao' cap', Ending.returned v' = .returned (.slice ao' E.length cap') ∧ w'.ownsRow w.heap.size 40 2 (.slice ao' E.length cap') E.length (ecells E) ∧ Below w.heap.size w w' := by
    intro w' v' h hb
    obtain ⟨ao', cap', rfl⟩ := owns_slice h
    exact ⟨ao', cap', rfl, h, hb⟩
  cases ao with
  | none =>
    have h0 : E = [] := by
      cases E with
      | nil => rfl
      | cons t l =>
        obtain ⟨b, off, e, _⟩ := hE (by simp)
        cases e
    subst h0
    refine (AnyE.slices_Clone_nil Tryz.laysCloneEdge 0 cap w).mono ?_
    rintro e w' ⟨rfl, rfl⟩
    exact ⟨none, 0, rfl, World.ownsRow_nil _ _ _ _, Below.refl _ _⟩
  | some a =>
    by_cases h0 : E = []
    · subst h0
      refine (cloneE_empty a cap w).mono ?_
      rintro e w' ⟨v', rfl, ho, hb⟩
      exact fin ho hb
    · obtain ⟨b, off, e, hb, _⟩ := hE h0
      cases e
      refine (AnyE.slices_Clone Tryz.laysCloneEdge i0 _ 2 16 hi hz0 hz1 hz2 rfl (by decide) (fun _ => by kernel_rfl) b off E.length cap (ecells E) w (ecells_length E) (by unfold maxLen; omega) (by omega) hE.cells (ecells_one E)).mono ?_
      rintro e w' ⟨v', rfl, ho, _, hb⟩
      exact fin ho hb
theorem map_E! (E : List (Int × Int)) : (List.range E.length).map (E! E) = E := by
  apply List.ext_getElem (by simp)
  intro i h1 h2
  simp [E!, h2]
theorem E!_of {S : List (Int × Int)} {L : Nat → Int × Int} {i : Nat} (h : (List.range i).map L = S) : S.length = i ∧ ∀ k, k < i → E! S k = L k := by
  subst h
  refine ⟨by simp, fun k hk => by simp [E!, hk]⟩
/-- A row of edges of the call's own. -/
def EdL (X : World) (B : Nat) (v : Value) (L : List (Int × Int)) : Prop :=
  (L = [] ∧ ∃ a cap, v = .slice a 0 cap) ∨ (L ≠ [] ∧ ∃ g cap, v = .slice (some ⟨g, 0, none⟩) L.length cap ∧ B ≤ g ∧ L.length ≤ cap ∧ cap ≤ maxLen ∧ Ed X g (E! L) L.length)
theorem edl_owns {X : World} {B : Nat} {v : Value} {L : List (Int × Int)} (h : X.ownsRow B 40 2 v L.length (ecells L)) : EdL X B v L := by
  by_cases h0 : L = []
  · subst h0
    obtain ⟨a, cap, rfl⟩ := owns_slice h
    exact .inl ⟨rfl, a, cap, rfl⟩
  · right
    have hp := List.length_pos_iff.2 h0
    obtain ⟨h1, h2 | ⟨g, cap, cur, rfl, hb, hh, hn, hc, hs, ht⟩⟩ := h
    · omega
    · refine ⟨h0, g, cap, rfl, hb, hn, hc, cur.toList, ?_, ?_, fun k hk => ?_⟩
      · unfold RowIs; rw [hh]
      · have := congrArg List.length ht
        rw [List.length_take, ecells_length] at this
        omega
      · obtain ⟨g1, g2⟩ := ecells_get L k hk
        rw [← ht] at g1 g2
        rw [List.getElem?_take] at g1 g2
        split at g1
        · split at g2
          · exact ⟨g1, g2⟩
          · cases g2
        · cases g1
theorem EdL.edges {X : World} {B : Nat} {v : Value} {L : List (Int × Int)} (h : EdL X B v L) : ∃ a cap, v = .slice a L.length cap ∧ EdgesAt X a L := by
  rcases h with ⟨rfl, a, cap, rfl⟩ | ⟨h0, g, cap, rfl, -, -, -, he⟩
  · exact ⟨a, cap, rfl, fun q => absurd rfl q⟩
  · refine ⟨_, cap, rfl, fun _ => ⟨g, 0, rfl, ?_, fun i hi => ?_⟩⟩
    · obtain ⟨xs, h1, -⟩ := he; exact h1.lt
    · obtain ⟨c1, c2, -⟩ := he.get hi
      rw [Nat.zero_add]
      exact ⟨c1, c2⟩
theorem lone_keep (E : List (Int × Int)) : (fun e => !loneB (degE E) e) = keepE E := by
  funext e
  unfold loneB keepE
  by_cases h1 : degE E e.1 = 1 <;> by_cases h2 : degE E e.2 = 1 <;> simp [h1, h2]
def lenV : Value → Nat
  | .slice _ n _ => n
  | _ => 0
set_option maxRecDepth 100000 in
set_option maxHeartbeats 1000000 in
theorem index_nil (a : Option Addr) (cap : Nat) (fv : Value) (X : World) :
    Calls Tryz.prog 90 #[.slice a 0 cap, fv] X fun e w' => e = .returned (.int .i64 (-1)) ∧ X = w' := by
  go_enter Tryz.func90, Tryz.ntmps90
  go_wp2
  go_loopw [8] (fun v ws => v = .int .i64 0 ∧ Hid (X = ws)) (fun _ _ => 0)
  case atStart => exact ⟨rfl, Lib.hid rfl⟩
  case round =>
  obtain ⟨rfl, HW⟩ := hrel
  obtain rfl : X = wr := HW.out
  go_wp2
  go_ret
  exact ⟨rfl, rfl⟩
set_option maxRecDepth 100000 in
set_option maxHeartbeats 1000000 in
theorem del_nil (a : Option Addr) (cap : Nat) (fv : Value) (X : World) :
    Calls Tryz.prog 52 #[.slice a 0 cap, fv] X fun e w' => e = .returned (.slice a 0 cap) ∧ X = w' := by
  have HI := Lib.hid (index_nil a cap fv X)
  go_enter Tryz.func52, Tryz.ntmps52
  go_wp2_with fail
  refine HI.out.mono ?_
  rintro e w' ⟨rfl, rfl⟩
  go_wp2
  go_ret
  exact ⟨rfl, rfl⟩
theorem EI64.sub {E F : List (Int × Int)} (h : EI64 E) (hs : F.Sublist E) : EI64 F := fun e he => h e (hs.subset he)
/-- One round's end. -/
def DelP (W : World) (B : Nat) (S : List (Int × Int)) (e : Ending) (w' : World) : Prop := ∃ v, e = .returned v ∧ EdL w' B v S ∧ Below B W w'
set_option maxRecDepth 100000 in
set_option maxHeartbeats 1000000 in
theorem del_any {W X : World} {B : Nat} {a : Option Addr} {cap : Nat} {L : List (Int × Int)} (hv : EdL X B (.slice a L.length cap) L) (m nn db : Nat) (hI : EI64 L) (hq : PQ X m nn db (degE L)) (hl : L.length ≤ 100000) (hm : ∀ g, L ≠ [] → a = some ⟨g, 0, none⟩ → g < m ∧ g < db) (hB : Below B W X) (hBX : B ≤ X.heap.size) :
    Calls Tryz.prog 52 #[.slice a L.length cap, .func (.func 53) #[] #[.pointer (some ⟨db, 0, none⟩)]] X (DelP W B (shave L)) := by
  rcases hv with ⟨rfl, a', cap', he⟩ | ⟨h0, g, cap', he, hg, hc1, hc2, hE⟩
  · refine (del_nil a cap _ X).mono ?_
    rintro e w' ⟨rfl, rfl⟩
    exact ⟨_, rfl, .inl ⟨rfl, a, cap, rfl⟩, hB⟩
  · simp only [Value.slice.injEq, true_and] at he
    obtain ⟨rfl, rfl⟩ := he
    obtain ⟨m1, m2⟩ := hm g h0 rfl
    refine (del_ok (W := W) (B := B) (L := E! L) cap m nn db (degE L) X hE (fun k hk => hI _ (E!_mem hk)) hq (fun v => by have := degE_le L v; omega) hl hc1 hc2 (by omega) (by omega) hB hg).mono ?_
    rintro e w' ⟨i, L', hi, rfl, hE', hmap, hb⟩
    rw [map_E!, lone_keep] at hmap
    obtain ⟨s1, s2⟩ := E!_of hmap
    refine ⟨_, rfl, ?_, hb⟩
    by_cases h1 : shave L = []
    · left
      refine ⟨h1, some ⟨g, 0, none⟩, cap, ?_⟩
      have : i = 0 := by
        have := s1
        change (shave L).length = i at this
        rw [h1] at this
        exact this.symm
      rw [this]
    · right
      have s1' : (shave L).length = i := s1
      refine ⟨h1, g, cap, by rw [s1'], hg, by omega, hc2, ?_⟩
      rw [s1']
      obtain ⟨xs, x1, x2, x3⟩ := hE'
      exact ⟨xs, x1, x2, fun k hk => by
        have e : E! (shave L) k = L' k := s2 k hk
        rw [e]
        exact x3 k hk⟩
set_option maxRecDepth 100000 in
set_option maxHeartbeats 4000000 in
theorem prune_ok (E : List (Int × Int)) (ao : Option Addr) (cap : Nat) (w : World) (hE : EdgesAt w ao E) (hI : EI64 E) (hl : E.length ≤ 100000) :
    Calls Tryz.prog 19 #[.slice ao E.length cap] w fun e w' => ∃ ao' cap', e = .returned (.slice ao' (pruneE E).length cap') ∧ EdgesAt w' ao' (pruneE E) ∧ Below w.heap.size w w' := by
  have HC := Lib.hid (clone_edges cap hE hl)
  have HI := Lib.hid hI
  have HLE := Lib.hid hl
  obtain ⟨n, hn⟩ : ∃ n, n = E.length := ⟨_, rfl⟩
  obtain ⟨B, hB⟩ : ∃ B, B = w.heap.size := ⟨_, rfl⟩
  have HB := Lib.hid hB
  have HN := Lib.hid hn
  rw [← hn] at HC ⊢
  clear hE hI hl hn hB
  go_enter Tryz.func19, Tryz.ntmps19
  go_wp2_with fail
  refine HC.out.mono ?_
  rintro e w1 ⟨ao1, cap1, rfl, ho, hb⟩
  have HS := Lib.hid (show EdL w1 B (.slice ao1 n cap1) (pruneN 0 E) ∧ Below B w w1 ∧ B ≤ w1.heap.size from ⟨edl_owns (L := E) (by rw [HB.out, ← HN.out]; exact ho), by rw [HB.out]; exact hb, by rw [HB.out]; exact hb.size⟩)
  clear ho hb
  go_wp2
  go_loopw [0] (fun v ws => ∃ (k : Nat) (a : Option Addr) (c : Nat) (L : List (Int × Int)), v = .slice a L.length c ∧ Hid (L = pruneN k E) ∧ EdL ws B v L ∧ Below B w ws ∧ B ≤ ws.heap.size) (fun v _ => lenV v)
  case atStart => exact ⟨0, ao1, cap1, E, by rw [HN.out], Lib.hid rfl, HS.out.1, HS.out.2.1, HS.out.2.2⟩
  case round =>
  clear HS
  obtain ⟨k, a, c, L, rfl, HL, hv, hb, hsz⟩ := hrel
  obtain ⟨X, rfl⟩ : ∃ X : World, X = wr := ⟨_, rfl⟩
  have hsub : L.Sublist E := by rw [HL.out]; exact prune_sub E k
  have hll : L.length ≤ 100000 := by have := hsub.length_le; have := HLE.out; omega
  have hLI := HI.out.sub hsub
  obtain ⟨a', c', hea, hEA⟩ := hv.edges
  simp only [Value.slice.injEq, true_and] at hea
  obtain ⟨rfl, rfl⟩ := hea
  have HD := Lib.hid (degrees_ok L a c X hEA hLI hll)
  have HV := Lib.hid hv
  have HBX := Lib.hid hb
  have HSZ := Lib.hid hsz
  have HLI := Lib.hid hLI
  obtain ⟨ll, hll'⟩ : ∃ l, l = L.length := ⟨_, rfl⟩
  have HLL := Lib.hid hll'
  rw [← hll'] at HD hll
  have HGL := Lib.hid (show ∀ g, L ≠ [] → a = some ⟨g, 0, none⟩ → g < X.heap.size from fun g h0 hg => by
    rcases hv with ⟨h1, -⟩ | ⟨-, g', cap', he, -, -, -, hE'⟩
    · exact absurd h1 h0
    · rw [hg] at he
      simp only [Value.slice.injEq, Option.some.injEq, Addr.mk.injEq, and_true, true_and] at he
      obtain ⟨xs, x1, -⟩ := hE'
      rw [he.1]
      exact x1.lt)
  clear hv hb hsz hsub hLI hEA
  rw [← hll']
  clear hll'
  go_wp2_with fail
  refine HD.out.mono ?_
  rintro e w2 ⟨m, nn, rfl, hm, hmap, hb2⟩
  obtain ⟨W3, hW3⟩ : ∃ W3, W3 = w2.alloc (.cells #[.map (some m)] 84) := ⟨_, rfl⟩
  have hb3 : Below w2.heap.size w2 W3 := by rw [hW3]; exact (Below.refl _ _).alloc (Nat.le_refl _) _
  have hr3 : RowIs W3 w2.heap.size 84 [.map (some m)] := by rw [hW3]; exact RowIs.made w2 84 [.map (some m)]
  obtain ⟨db, hdb⟩ : ∃ d, d = w2.heap.size := ⟨_, rfl⟩
  rw [← hdb] at hr3
  have hX3 : Below X.heap.size X W3 := below_more hb2 hb3 hb2.size
  have HDA := Lib.hid (del_any (W := w) (X := W3) (B := B) (a := a) (cap := c) (L := L) (by
    rcases HV.out with ⟨h1, h2⟩ | ⟨h1, g, cap', h2, h3, h4, h5, h6⟩
    · exact .inl ⟨h1, h2⟩
    · exact .inr ⟨h1, g, cap', h2, h3, h4, h5, h6.more hX3⟩) m nn db HLI.out ⟨hmap.below (Nat.le_refl _) hb3, hr3.cell rfl, hr3.lt⟩ (by rw [← HLL.out]; exact hll) (fun g h0 hg => by have := HGL.out g h0 hg; have := hmap.lt; omega) (below_more HBX.out hX3 HSZ.out) (by have := hX3.size; have := HSZ.out; omega))
  rw [← HLL.out] at HDA
  have HW3 := Lib.hid hW3
  have HDB := Lib.hid hdb
  have HB3 := Lib.hid (show B ≤ W3.heap.size from by have := hX3.size; have := HSZ.out; omega)
  clear hm hmap hb2 hW3 hb3 hr3 hdb hX3
  go_wp2_with fail
  rw [← HW3.out, ← HDB.out]
  refine HDA.out.mono ?_
  rintro e w4 ⟨v4, rfl, hv4, hb4⟩
  obtain ⟨a4, c4, rfl, hE4⟩ := hv4.edges
  have hle := shave_le L
  obtain ⟨i, hi⟩ : ∃ i, i = (shave L).length := ⟨_, rfl⟩
  rw [← hi, ← HLL.out] at hle
  have HI4 := Lib.hid hi
  have HE4 := Lib.hid hE4
  have HV4 := Lib.hid hv4
  have HB4 := Lib.hid hb4
  have HS4 := Lib.hid (show B ≤ w4.heap.size from by rw [HB.out]; exact HB4.out.size)
  rw [← hi]
  clear hv4 hE4 hb4 hi
  by_cases he : i = ll
  case pos =>
    have hpe : pruneE E = shave L := by
      have := (prune_end (E := E) (k := k) (by rw [← HL.out, ← HI4.out, ← HLL.out]; exact he)).2
      rw [this, HL.out]
      rfl
    have HP := Lib.hid hpe
    have g1 : ((i : Int) == (ll : Int)) = true := by rw [he]; simp
    clear hpe
    go_wp2
    refine bodyPost_ret (v := .slice a4 i c4) (by simp [results, Tryz.results19, go_sem, he]) rfl ⟨a4, c4, ?_, ?_, ?_⟩
    · rw [HP.out, ← HI4.out, he]
    · rw [HP.out]; exact HE4.out
    · rw [← HB.out]; exact HB4.out
  case neg =>
    have g1 : ((i : Int) == (ll : Int)) = false := by simp; omega
    go_wp2
    go_roundw
    case rel => exact ⟨k + 1, a4, c4, shave L, by rw [HI4.out], Lib.hid (by rw [HL.out]; rfl), by rw [HI4.out]; exact HV4.out, HB4.out, HS4.out⟩
    case measure => simp [lenV]; omega
end Go.Proofs.YtkjamheoihlekaaGreat

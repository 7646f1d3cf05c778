/- Worlds that are as they were below a block, but for one. The state of gypsumref40.Cut's loops: a struct's block beside rows that grow. border.behind: who comes behind whom, as a map. -/
import Derived.Test.YtkjamheoihlekaaGreatQueue
import Derived.Test.YtkjamheoihlekaaGreatFanPerm
namespace Go.Proofs.YtkjamheoihlekaaGreat
set_option linter.unusedVariables false
set_option linter.unusedSimpArgs false
open Go.RowKit
/-- Below block B, but block g, w' is as w was. -/
structure But (B g : Nat) (w w' : World) : Prop where
  os : w'.os = w.os
  tape : w'.tape = w.tape
  output : w'.output = w.output
  size : w.heap.size ≤ w'.heap.size
  block : ∀ k, k < B → k ≠ g → w'.heap[k]? = w.heap[k]?
theorem But.refl (B g : Nat) (w : World) : But B g w w := ⟨rfl, rfl, rfl, Nat.le_refl _, fun _ _ _ => rfl⟩
theorem But.trans {B g : Nat} {a b c : World} (h : But B g a b) (k : But B g b c) : But B g a c :=
  ⟨k.os.trans h.os, k.tape.trans h.tape, k.output.trans h.output, Nat.le_trans h.size k.size, fun i hi hg => (k.block i hi hg).trans (h.block i hi hg)⟩
theorem But.below {B B' g : Nat} {a b : World} (h : But B g a b) (h1 : B' ≤ B) (h2 : B' ≤ g) : Below B' a b :=
  ⟨h.os, h.tape, h.output, h.size, fun i hi => h.block i (by omega) (by omega)⟩
theorem But.more {B B' g : Nat} {a b c : World} (h : But B g a b) (k : Below B' b c) (hB : B ≤ B') : But B g a c :=
  h.trans ⟨k.os, k.tape, k.output, k.size, fun i hi _ => k.block i (by omega)⟩
theorem But.grown {B g : Nat} {row : Option Nat} {a b c : World} (h : But B g a b) (k : b.grownBy c row) (hB : B ≤ b.heap.size) (hr : ∀ q, row = some q → B ≤ q ∨ q = g) : But B g a c :=
  h.trans ⟨k.os, k.tape, k.output, k.size, fun i hi hg => k.block i (by omega) fun e => by
    rcases hr i e.symm with h | h
    · omega
    · exact hg h⟩
theorem But.cell {B g : Nat} {a b : World} (h : But B g a b) {k i : Nat} (hk : k < B) (hg : k ≠ g) : b.cell? ⟨k, i, none⟩ = a.cell? ⟨k, i, none⟩ := by
  simp [World.cell?, h.block k hk hg]
theorem But.row {B g : Nat} {a b : World} (h : But B g a b) {k : Nat} {e : TypeId} {xs : List Value} (hr : RowIs a k e xs) (hk : k < B) (hg : k ≠ g) : RowIs b k e xs := (h.block k hk hg).trans hr
structure RSt (W X : World) (ob base : Nat) (e : TypeId) (cells : List Value) (R : List ORow) : Prop where
  row : RowIs X ob e cells
  rows : Rows base X R
  but : But base ob W X
  ob : ob < base
  mx : base ≤ X.heap.size
section
variable {W X Y : World} {ob base : Nat} {e : TypeId} {cells : List Value} {R : List ORow}
theorem RSt.more (h : RSt W X ob base e cells R) (hb : Below X.heap.size X Y) : RSt W Y ob base e cells R :=
  ⟨h.row.below hb h.row.lt, h.rows.more hb, h.but.more hb h.mx, h.ob, by have := hb.size; have := h.mx; omega⟩
theorem RSt.alloc (h : RSt W X ob base e cells R) (o : Obj) : RSt W (X.alloc o) ob base e cells R := h.more ((Below.refl _ _).alloc (Nat.le_refl _) o)
theorem RSt.drew (h : RSt W X ob base e cells R) : RSt W X.drew ob base e cells R := h.more (Below.refl _ _).drew
theorem RSt.store (h : RSt W X ob base e cells R) (i : Nat) (v : Value) : RSt W (X.setCell ⟨ob, i, none⟩ v) ob base e (cells.set i v) R := by
  have hg := grown_set X ob i v
  exact ⟨h.row.set i v, h.rows.other hg h.ob, h.but.grown hg h.mx (fun q hq => .inr (by cases hq; rfl)), h.ob, by have := hg.size; have := h.mx; omega⟩
theorem RSt.push (h : RSt W X ob base e cells R) (i : Nat) (r : ORow) (hi : R[i]? = some r) {g cap n' : Nat} {xs : List Value} (hown : Y.ownsRow base r.e r.size (.slice (some ⟨g, 0, none⟩) n' cap) n' xs) (hg : X.grownBy Y r.v.ownBlock) (hat : r.v.ownBlock = some g ∨ X.heap.size ≤ g) :
    RSt W Y ob base e cells (R.set i { r with v := .slice (some ⟨g, 0, none⟩) n' cap, n := n', xs := xs }) := by
  have hr := h.rows.own r (List.mem_of_getElem? hi)
  have hob := h.ob
  have off : ∀ b, b < base → some b ≠ r.v.ownBlock := fun b hb q => by have := (hr.lt b q.symm).1; omega
  exact ⟨h.row.grown hg (off _ hob), h.rows.push i r hi hown hg hat, h.but.grown hg h.mx (fun q hq => .inl (hr.lt q hq).1), hob, by have := hg.size; have := h.mx; omega⟩
theorem RSt.low (h : RSt W X ob base e cells R) : Below ob W X := h.but.below (by have := h.ob; omega) (Nat.le_refl _)
theorem RSt.old {b n' size : Nat} {e' : TypeId} {v : Value} {xs : List Value} (h : RSt W X ob base e cells R) (ho : W.ownsRow b e' size v n' xs) (hne : ∀ k, v.ownBlock = some k → k < base ∧ k ≠ ob) : X.ownsRow b e' size v n' xs := by
  refine ⟨ho.1, ?_⟩
  rcases ho.2 with q | ⟨g, cap, cur, rfl, hb, hgg, rest⟩
  · exact .inl q
  · obtain ⟨h1, h2⟩ := hne g rfl
    exact .inr ⟨g, cap, cur, rfl, hb, (h.but.block g h1 h2).trans hgg, rest⟩
theorem RSt.oldRow {g : Nat} {e' : TypeId} {xs : List Value} (h : RSt W X ob base e cells R) (hr : RowIs W g e' xs) (h1 : g < base) (h2 : g ≠ ob) : RowIs X g e' xs := h.but.row hr h1 h2
end
/-- What the map holds. -/
def behC (E : List (Int × Int)) (v : Int) : Option Value := (nextB E v).map (Value.int .i64)
theorem behC_nil : behC [] = fun _ => none := rfl
theorem behC_snoc {E : List (Int × Int)} {e : Int × Int} (h : e.2 ∉ E.map Prod.snd) : behC (E ++ [e]) = fun v => if v = e.2 then some (Value.int .i64 e.1) else behC E v := by
  funext v
  unfold behC
  rw [nextB_snoc h]
  by_cases hv : v = e.2
  · simp [hv]
  · simp [hv]
theorem takeE_snoc {E : List (Int × Int)} {k : Nat} (h : k < E.length) : E.take (k + 1) = E.take k ++ [E! E k] := by
  rw [List.take_add_one]
  congr 1
  simp [E!, List.getD_eq_getElem?_getD, List.getElem?_eq_getElem h]
theorem OneIn.fresh {E : List (Int × Int)} (h : OneIn E) {k : Nat} (hk : k < E.length) : (E! E k).2 ∉ (E.take k).map Prod.snd := by
  intro hm
  obtain ⟨e, he, hv⟩ := List.mem_map.1 hm
  obtain ⟨i, hi, rfl⟩ := List.mem_iff_getElem.1 he
  rw [List.length_take] at hi
  rw [List.getElem_take] at hv
  have hp := List.pairwise_map.1 (List.nodup_iff_pairwise_ne.1 h.ends)
  have := List.pairwise_iff_getElem.1 hp i k (by omega) hk (by omega)
  apply this
  rw [hv]
  simp [E!, List.getD_eq_getElem?_getD, List.getElem?_eq_getElem hk]
theorem map_nocell {w : World} {m n : Nat} {C : Int → Option Value} (h : MapIs intFam w m n C) (i : Nat) : w.cell? ⟨m, i, none⟩ = none := by
  obtain ⟨es, clock, h1, -⟩ := h
  simp [World.cell?, h1]
set_option maxRecDepth 100000 in
set_option maxHeartbeats 2000000 in
theorem behind_ok (b : Nat) (N : Int) (T : List Tr) (w : World) (h : Tab w b N T) (hs : Surf N T) :
    Calls Tryz.prog 131 #[.pointer (some ⟨b, 0, none⟩)] w fun e w' => ∃ m cn, e = .returned (.map (some m)) ∧ w.heap.size ≤ m ∧ MapIs intFam w' m cn (behC (bordE T (3 * T.length))) ∧ Below w.heap.size w w' := by
  obtain ⟨E, hE⟩ : ∃ E, E = bordE T (3 * T.length) := ⟨_, rfl⟩
  have HED := Lib.hid (fun (X : World) (hX : Tab X b N T) => edges_any b N T X hX)
  simp only [← hE] at HED
  rw [← hE]
  have hone : OneIn E := by rw [hE]; exact hs.oneIn
  have hin : ∀ u, u ∈ E.map Prod.snd → I64 u := fun u hu => by
    have := hs.bord_in (by rw [← hE]; exact hu)
    have := hs.n1
    constructor <;> omega
  obtain ⟨el, hel⟩ : ∃ l, l = E.length := ⟨_, rfl⟩
  have helb : el ≤ 30000 := by
    have := bordE_le T (3 * T.length)
    rw [← hE] at this
    have := hs.t1
    omega
  obtain ⟨W0, hW0⟩ : ∃ W0, W0 = w.alloc (.map #[] 0) := ⟨_, rfl⟩
  have hb0 : Below w.heap.size w W0 := by rw [hW0]; exact (Below.refl _ _).alloc (Nat.le_refl _) _
  have hm0 : MapIs intFam W0 w.heap.size 0 (behC (E.take 0)) := by rw [hW0]; exact MapIs.made w
  have HT := Lib.hid (h.mono (Nat.le_refl _) hb0)
  have HB0 := Lib.hid hb0
  have HM0 := Lib.hid hm0
  have HW0 := Lib.hid hW0
  have HEL := Lib.hid hel
  have HONE := Lib.hid hone
  have HIN := Lib.hid hin
  obtain ⟨mb, hmb⟩ : ∃ m, m = w.heap.size := ⟨_, rfl⟩
  rw [← hmb] at HM0
  have HMB := Lib.hid hmb
  clear h hs hE hone hin hel hb0 hm0 hW0 hmb
  have hmm := @run_makeMap Tryz.prog
  go_enter Tryz.func131, Tryz.ntmps131
  go_upto_region 2 with fail
  rw [← HW0.out, ← HMB.out]
  clear hmm
  go_wp2_with fail
  refine (HED.out W0 HT.out).mono ?_
  rintro e w1 ⟨ao, cap, rfl, hea, hb1⟩
  rw [← HEL.out]
  have HEA := Lib.hid hea
  have HM1 := Lib.hid (HM0.out.below (Nat.le_refl _) hb1)
  have HB1 := Lib.hid (below_more HB0.out hb1 HB0.out.size)
  have HMLT := Lib.hid (show mb < w1.heap.size from HM1.out.lt)
  clear hea hb1
  go_wp2
  go_loopw [10] (fun i ws => ∃ k cn : Nat, k ≤ el ∧ i = .int .i64 k ∧ MapIs intFam ws mb cn (behC (E.take k)) ∧ But w1.heap.size mb w1 ws ∧ w1.heap.size ≤ ws.heap.size) (fun i _ => el - (intOf i).toNat)
  case atStart => exact ⟨0, 0, by omega, rfl, HM1.out, But.refl _ _ _, Nat.le_refl _⟩
  case round =>
  obtain ⟨k, cn, hk, rfl, hm, hb, hsz⟩ := hrel
  obtain ⟨X, rfl⟩ : ∃ X : World, X = wr := ⟨_, rfl⟩
  have HM := Lib.hid hm
  have HB := Lib.hid hb
  have HSZ := Lib.hid hsz
  clear hm hb hsz
  by_cases hkl : k < el
  case neg =>
    obtain rfl : el = k := by omega
    have HF := Lib.hid (show MapIs intFam X mb cn (behC E) from by
      have := HM.out
      rwa [List.take_of_length_le (by rw [← HEL.out]; exact Nat.le_refl _)] at this)
    have HBF := Lib.hid (show Below w.heap.size w X from HB1.out.trans (HB.out.below HB1.out.size (by rw [HMB.out]; exact Nat.le_refl _)))
    go_wp2
    go_ret
    exact ⟨mb, cn, rfl, by rw [HMB.out]; exact Nat.le_refl _, HF.out, HBF.out⟩
  case pos =>
  obtain ⟨eb, off, hao, hlt, hc⟩ := HEA.out (by intro e; rw [e] at HEL; have := HEL.out; simp at this; omega)
  subst hao
  obtain ⟨g0, g1⟩ := hc k (by rw [← HEL.out]; exact hkl)
  obtain ⟨a, ha⟩ : ∃ a, a = (E! E k).1 := ⟨_, rfl⟩
  obtain ⟨v, hv⟩ : ∃ v, v = (E! E k).2 := ⟨_, rfl⟩
  rw [← ha] at g0
  rw [← hv] at g1
  have hne : eb ≠ mb := fun e => by
    rw [e] at g0
    rw [map_nocell HM1.out] at g0
    cases g0
  have x0 := (HB.out.cell hlt hne).trans g0
  have x1 := (HB.out.cell hlt hne).trans g1
  obtain ⟨X1, hX1⟩ : ∃ X1, X1 = X.alloc (.cells #[.int .i64 a, .int .i64 v] 40) := ⟨_, rfl⟩
  have hbX : Below X.heap.size X X1 := by rw [hX1]; exact (Below.refl _ _).alloc (Nat.le_refl _) _
  have hrX : RowIs X1 X.heap.size 40 [.int .i64 a, .int .i64 v] := by rw [hX1]; exact RowIs.made X 40 [.int .i64 a, .int .i64 v]
  have hvS : v ∈ E.map Prod.snd := by rw [hv]; exact List.mem_map.2 ⟨_, E!_mem (by rw [← HEL.out]; exact hkl), rfl⟩
  obtain ⟨X2, hst2, hm2, hg2⟩ := (HM.out.below (Nat.le_refl _) hbX).store 84 3 (by kernel_rfl) v (HIN.out v hvS) (.int .i64 a)
  simp only [intFam] at hst2
  have hsn : behC (E.take (k + 1)) = fun b => if b = v then some (Value.int .i64 a) else behC (E.take k) b := by
    rw [takeE_snoc (by rw [← HEL.out]; exact hkl), behC_snoc (HONE.out.fresh (by rw [← HEL.out]; exact hkl)), ← ha, ← hv]
  rw [← hsn] at hm2
  have HM2 := Lib.hid hm2
  have HB2 := Lib.hid (show But w1.heap.size mb w1 X2 from (HB.out.more hbX HSZ.out).grown hg2 (by have := hbX.size; have := HSZ.out; omega) (fun q hq => .inr (by cases hq; rfl)))
  have HSZ2 := Lib.hid (show w1.heap.size ≤ X2.heap.size from by have := hbX.size; have := HSZ.out; have := hg2.size; omega)
  have HX1 := Lib.hid hX1
  have y0 := hrX.cell (i := 0) rfl
  have y1 := hrX.cell (i := 1) rfl
  clear hc g0 g1 hne ha hv hX1 hbX hrX hvS hm2 hg2 hsn
  go_upto_region 5 with fail
  rw [← HX1.out]
  go_wp2
  go_roundw
  case rel => exact ⟨k + 1, _, by omega, by go_num, HM2.out, HB2.out, HSZ2.out⟩
  case measure => simp [intOf]; omega
end Go.Proofs.YtkjamheoihlekaaGreat

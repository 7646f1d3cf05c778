/- border.Loops: all border loops. corner.Table.Corner; genus.Of's 'at'; genus.Numbers.done. genus.Of: what its loops count. Plain. genus.Of: the numbers of each shell. genus.Whole: the numbers of all shells together. Of no table: shell.Of, Count, border.Loops, genus.Of, Whole. Plain: the edges of a shell, from both their ends; how many there are; loops and borders. Plain: gypsumlaw14.GenusFew. Plain: permutations of a finite list of numbers; how many cycles they have; two numbers swapped ahead make one cycle more or less. Plain: Euler's number of a shell: borders, Euler's number and twice the handles are two; there are no handles below 0. Plain: the cycles when all edges of a shell are glued are its inner vertices and its border loops; Euler's number. gypsumref14's loops, plain: edges one behind the other; as many cycles as loops. gypsumref14.loops, plain: which edges are gone. gypsumref14.Of, plain: the edges of a shell, each once. -/
import Derived.Test.YtkjamheoihlekaaGreatRangeM
import Derived.Sort.CutIn
import Derived.Test.YtkjamheoihlekaaGreatCornerNew
import Derived.Test.YtkjamheoihlekaaGreatFaceLaw
import Derived.Test.YtkjamheoihlekaaGreatQueue
import Derived.BigQuiet
import Derived.StillTailTactics
import Derived.Test.YtkjamheoihlekaaGreatShellOf
import Derived.Test.YtkjamheoihlekaaGreatFanPerm
import Derived.Test.YtkjamheoihlekaaGreatSpread
import Derived.Test.YtkjamheoihlekaaGreatSurfDef
namespace Go.Proofs.YtkjamheoihlekaaGreat
set_option linter.unusedVariables false
set_option linter.unusedSimpArgs false
open Go.RowKit Go.Shelf
open Go.RowKit
open Classical
open Go.RowKit Classical
attribute [local go_sem] Oper.semAt_some
set_option maxHeartbeats 400000 in
theorem vertices_any (w : World) (b : Nat) (N : Int) (T : List Tr) (h : TabS w b N T) :
    Calls Tryz.prog 75 #[.pointer (some ⟨b, 0, none⟩)] w fun e w' => e = .returned (.int .i64 N) ∧ w = w' := by
  obtain ⟨ao, cap, h0, h1, h2, h3⟩ := h
  go_enter Tryz.func75, Tryz.ntmps75
  go_wp2
  go_ret
  exact ⟨rfl, rfl⟩
theorem info44 : (Tryz.prog.info? 28).map (fun i => (i.zero, i.size, i.bytes)) = some (some (.slice none 0 0), 1, 24) := by kernel_rfl
open Classical in
/-- What the map of the seen ones holds. -/
noncomputable def seenC (E : List (Int × Int)) (k : Nat) : Int → Option Value := fun u => if seenB E k u then some (.bool true) else none
theorem seenC_zero (E : List (Int × Int)) : seenC E 0 = fun _ => none := by
  funext u
  unfold seenC
  rw [if_neg]
  rintro ⟨w, hw, -⟩
  omega
theorem seenC_same {E : List (Int × Int)} {k : Nat} (h : ∀ u, seenB E (k + 1) u ↔ seenB E k u) : seenC E (k + 1) = seenC E k := by
  funext u
  unfold seenC
  by_cases hu : seenB E k u
  · rw [if_pos hu, if_pos ((h u).2 hu)]
  · rw [if_neg hu, if_neg fun q => hu ((h u).1 q)]
/-- The same, some of a loop put in. -/
noncomputable def seenP (E : List (Int × Int)) (k : Nat) (pre : List Int) : Int → Option Value := fun u => if u ∈ pre then some (.bool true) else seenC E k u
theorem seenP_nil (E : List (Int × Int)) (k : Nat) : seenP E k [] = seenC E k := by
  funext u
  simp [seenP]
theorem seenP_snoc (E : List (Int × Int)) (k : Nat) (pre : List Int) (x : Int) : seenP E k (pre ++ [x]) = fun u => if u = x then some (.bool true) else seenP E k pre u := by
  funext u
  unfold seenP
  by_cases h1 : u = x
  · simp [h1]
  · simp [h1]
theorem seenP_all (E : List (Int × Int)) (k : Nat) : seenP E k (orb E (k : Int)) = seenC E (k + 1) := by
  funext u
  unfold seenP seenC
  by_cases h1 : u ∈ orb E (k : Int)
  · rw [if_pos h1, if_pos (seen_add u |>.2 (.inr h1))]
  · rw [if_neg h1]
    by_cases h2 : seenB E k u
    · rw [if_pos h2, if_pos (seen_add u |>.2 (.inl h2))]
    · rw [if_neg h2, if_neg]
      intro q
      rcases (seen_add u).1 q with q | q
      · exact h2 q
      · exact h1 q
/-- A list of rows, each of its own. -/
def FamOwn (w : World) (base : Nat) (vs : List Value) (LL : List (List Int)) : Prop :=
  vs.length = LL.length ∧ ∀ (i : Nat) (l : List Int), LL[i]? = some l → ∃ a c, vs[i]? = some (Value.slice a l.length c) ∧ w.ownsRow base 3 1 (.slice a l.length c) l.length (ic l)
theorem owns_apart14 {w : World} {base base' : Nat} {e e' : TypeId} {sz sz' n n' : Nat} {v v' : Value} {xs xs' : List Value} (h : w.ownsRow base e sz v n xs) (k : w.ownsRow base' e' sz' v' n' xs') (hne : e ≠ e') : v.ownBlock = none ∨ v.ownBlock ≠ v'.ownBlock := by
  cases hk : v.ownBlock with
  | none => exact .inl rfl
  | some g =>
    refine .inr fun e2 => ?_
    rcases h.2 with ⟨q, -⟩ | ⟨g1, cap1, cur1, rfl, -, hg1, -⟩
    · rw [q] at hk; cases hk
    rcases k.2 with ⟨q, -⟩ | ⟨g2, cap2, cur2, rfl, -, hg2, -⟩
    · rw [q] at e2; cases e2
    simp only [Value.ownBlock, Option.some.injEq] at hk e2
    rw [hk] at hg1
    rw [← e2] at hg2
    rw [hg1] at hg2
    simp only [Option.some.injEq, Obj.cells.injEq] at hg2
    exact hne hg2.2.1
theorem FamOwn.kept {w w' : World} {base : Nat} {row : Option Nat} {vs : List Value} {LL : List (List Int)} (h : FamOwn w base vs LL) (hg : w.grownBy w' row) (hr : ∀ (i : Nat) (l : List Int) (a : Option Addr) (c : Nat), LL[i]? = some l → vs[i]? = some (Value.slice a l.length c) → w.ownsRow base 3 1 (.slice a l.length c) l.length (ic l) → (Value.slice a l.length c).ownBlock = none ∨ (Value.slice a l.length c).ownBlock ≠ row) : FamOwn w' base vs LL :=
  ⟨h.1, fun i l hi => by
    obtain ⟨a, c, h1, h2⟩ := h.2 i l hi
    exact ⟨a, c, h1, h2.kept hg (hr i l a c hi h1 h2)⟩⟩
theorem FamOwn.below {w w' : World} {base : Nat} {vs : List Value} {LL : List (List Int)} (h : FamOwn w base vs LL) (hb : Below w.heap.size w w') : FamOwn w' base vs LL :=
  h.kept (below_grown hb) fun i l a c _ _ ho => by
    cases q : (Value.slice a l.length c).ownBlock with
    | none => exact .inl rfl
    | some g => exact .inr (by simp)
theorem FamOwn.lower {w : World} {base B : Nat} {vs : List Value} {LL : List (List Int)} (h : FamOwn w base vs LL) (hB : B ≤ base) : FamOwn w B vs LL :=
  ⟨h.1, fun i l hi => by
    obtain ⟨a, c, h1, h2⟩ := h.2 i l hi
    exact ⟨a, c, h1, owns_base h2 hB⟩⟩
theorem FamOwn.push {w : World} {base : Nat} {vs : List Value} {LL : List (List Int)} (h : FamOwn w base vs LL) {l : List Int} {a : Option Addr} {c : Nat} (ho : w.ownsRow base 3 1 (.slice a l.length c) l.length (ic l)) : FamOwn w base (vs ++ [.slice a l.length c]) (LL ++ [l]) := by
  refine ⟨by simp [h.1], fun i l' hi => ?_⟩
  rcases Nat.lt_trichotomy i LL.length with hlt | heq | hgt
  · rw [List.getElem?_append_left hlt] at hi
    obtain ⟨a', c', h1, h2⟩ := h.2 i l' hi
    exact ⟨a', c', by rw [List.getElem?_append_left (by rw [h.1]; exact hlt)]; exact h1, h2⟩
  · subst heq
    rw [List.getElem?_append_right (Nat.le_refl _)] at hi
    simp only [Nat.sub_self, List.getElem?_cons_zero, Option.some.injEq] at hi
    subst hi
    exact ⟨a, c, by rw [List.getElem?_append_right (by rw [h.1]; exact Nat.le_refl _), h.1]; simp, ho⟩
  · rw [List.getElem?_eq_none (by simp; omega)] at hi
    cases hi
theorem But.grownBy {g : Nat} {w w' : World} (h : But w.heap.size g w w') : w.grownBy w' (some g) := ⟨h.os, h.tape, h.output, h.size, fun j hj hne => h.block j hj fun e => hne (by rw [e])⟩
/-- The marks that ranges over a function leave. -/
def markD (D : Nat) : Deferred := { target := .collected D, args := #[] }
def Marks14 (B : Nat) (Ds : List Nat) (W : World) : Prop := Ds.Nodup ∧ ∀ D, D ∈ Ds → B ≤ D ∧ W.heap[D]? = some (.deferred (some []))
theorem Marks14.lt {B : Nat} {Ds : List Nat} {W : World} (h : Marks14 B Ds W) {D : Nat} (hD : D ∈ Ds) : D < W.heap.size := (Array.getElem?_eq_some_iff.1 (h.2 D hD).2).1
theorem Marks14.keeps {B : Nat} {Ds : List Nat} {W W' : World} (h : Marks14 B Ds W) (hk : ∀ D, D < W.heap.size → B ≤ D → W.heap[D]? = some (.deferred (some [])) → W'.heap[D]? = W.heap[D]?) : Marks14 B Ds W' :=
  ⟨h.1, fun D hD => ⟨(h.2 D hD).1, (hk D (h.lt hD) (h.2 D hD).1 (h.2 D hD).2).trans (h.2 D hD).2⟩⟩
theorem leaves_marks {F : Fence} {n : Nat} {P : Program} {fn : Func} {tmps : Array Value} {R : Ending → World → Prop} {Φ : World → Prop} {B : Nat} (hΦ : ∀ W D, B ≤ D → Φ W → W.heap[D]? = some (.deferred (some [])) → Φ (W.putObj D (.deferred none)))
    (fin : ∀ W, Φ W → LeavesIn F n P fn tmps R [] .returning W) : ∀ (Ds : List Nat) (W : World), Marks14 B Ds W → Φ W → LeavesInM F n P fn tmps R (Ds.map markD) .returning W
  | [], W, _, h => fin W h
  | D :: Ds, W, hm, h => by
    have hD := hm.2 D (by simp)
    refine ⟨by simp, .inl ⟨D, _, rfl, run_takeDeferred hD.2, ?_⟩⟩
    have hn := List.nodup_cons.1 hm.1
    refine leaves_marks hΦ fin Ds _ ⟨hn.2, fun D' hD' => ?_⟩ (hΦ W D hD.1 h hD.2)
    have h' := hm.2 D' (by simp [hD'])
    exact ⟨h'.1, (World.putObj_heap_other (fun e => hn.1 (by rw [← e]; exact hD'))).trans h'.2⟩
/-- The state of border.Loops's loop. -/
structure LSt (W X : World) (E : List (Int × Int)) (ms k cn : Nat) (v : Value) (vs : List Value) (Ds : List Nat) : Prop where
  map : MapIs intFam X ms cn (seenC E k)
  row : X.ownsRow W.heap.size 28 1 v (loopsL E k).length vs
  fam : FamOwn X W.heap.size vs (loopsL E k)
  but : But W.heap.size ms W X
  ml : ms < W.heap.size
  marks : Marks14 W.heap.size Ds X
  sz : W.heap.size ≤ X.heap.size
set_option maxRecDepth 100000 in
set_option maxHeartbeats 2000000 in
theorem loops_ok (b n : Nat) (T : List Tr) (w : World) (h : Tab w b n T) (hs : Surf n T) :
    Calls Tryz.prog 76 #[.pointer (some ⟨b, 0, none⟩)] w fun e w' => ∃ v vs, e = .returned v ∧ w'.ownsRow w.heap.size 28 1 v (loopsL (bordE T (3 * T.length)) n).length vs ∧ FamOwn w' w.heap.size vs (loopsL (bordE T (3 * T.length)) n) ∧ Below w.heap.size w w' := by
  refine (callsIn_wide (n := 8)).1 ?_
  have h1 : (1 : Nat) ≤ 8 := by omega
  obtain ⟨E, hE⟩ : ∃ E, E = bordE T (3 * T.length) := ⟨_, rfl⟩
  obtain ⟨W0, hW0⟩ : ∃ W0, W0 = (w.alloc (.map #[] 0)).alloc (.cells #[.map (some w.heap.size)] 67) := ⟨_, rfl⟩
  have hb0 : Below w.heap.size w W0 := by rw [hW0]; exact ((Below.refl _ _).alloc (Nat.le_refl _) _).alloc (by simp) _
  have HV := Lib.hid (vertices_any W0 b n T (h.s.mono (Nat.le_refl _) hb0))
  have HW0 := Lib.hid hW0
  have hone : OneIn E := by rw [hE]; exact hs.oneIn
  have hnn : n ≤ 4096 := by have := hs.n1; omega
  have hlen : ∀ v : Int, (orb E v).length ≤ 100000 := fun v => by
    by_cases hv : v ∈ E.map Prod.snd
    · obtain ⟨p, hp⟩ := hone.per hv
      rw [orb_eq hv hp, List.length_map, List.length_range]
      have h1 := hp.le
      have h2 := bordE_le T (3 * T.length)
      rw [← hE] at h2
      have := hs.t1
      omega
    · rw [orb_nil hv]; simp
  have hint : ∀ v u : Int, u ∈ orb E v → I64 u := fun v u hu => by
    have hm := hone.orb_sub hu
    have h1 := hs.bord_in (u := u) (by rw [← hE]; exact hm)
    have h2 := hs.n1
    constructor <;> omega
  have h0 : ∀ u, u ∈ E.map Prod.snd → 0 ≤ u := fun u hu => (hs.bord_in (by rw [← hE]; exact hu)).1
  have HTAB := Lib.hid (show ∀ X, Below W0.heap.size W0 X → Tab X b n T from fun X hX => (h.mono (Nat.le_refl _) hb0).mono (Nat.le_refl _) hX)
  have HTB := Lib.hid (show ∀ X, But W0.heap.size w.heap.size W0 X → Tab X b n T from fun X hX => h.mono (Nat.le_refl _) (hb0.trans (hX.below hb0.size (Nat.le_refl _))))
  have HE := Lib.hid hE
  have HS := Lib.hid hs
  have HONE := Lib.hid hone
  have HLEN := Lib.hid hlen
  have HINT := Lib.hid hint
  have HNN0 := Lib.hid h0
  have HB0 := Lib.hid hb0
  have HBX := Lib.hid (show W0.cell? ⟨w.heap.size + 1, 0, none⟩ = some (.map (some w.heap.size)) ∧ W0.heap.size = w.heap.size + 2 from ⟨by
    have := (RowIs.made' (w.alloc (.map #[] 0)) 67 [.map (some w.heap.size)] (w.heap.size + 1) (by simp)).cell (i := 0) rfl
    rw [hW0]; exact this, by rw [hW0]; simp⟩)
  rw [← hE]
  clear h hs hE hone hlen hint h0 hb0
  refine callsIn_of_wp_marks Tryz.func76 rfl trivial ?_ rfl
  simp only [Tryz.ntmps76, List.size_toArray, List.length_cons, List.length_nil, Nat.reduceAdd, Nat.reduceSub, Array.replicate_succ, Array.replicate_zero, List.push_toArray, List.append_toArray, List.nil_append, List.cons_append]
  have hmm := @run_makeMap Tryz.prog
  clear hW0
  gi_wp2_with (refine ⟨trivial, ?_⟩; gi_at_call 75; rw [← HW0.out]; refine (callsIn_wide.2 HV.out).mono ?_; rintro e w1 ⟨rfl, rfl⟩)
  obtain ⟨X0, hX0⟩ : ∃ X0, X0 = W0 := ⟨_, rfl⟩
  have HST := Lib.hid (show LSt W0 W0 E w.heap.size 0 0 (.slice none 0 0) [] [] from by
    rw [HW0.out]
    refine ⟨?_, World.ownsRow_nil _ _ _ _, ⟨rfl, fun i l h => by simp [loopsL] at h⟩, But.refl _ _ _, by simp; omega, ⟨List.nodup_nil, fun D hD => by cases hD⟩, Nat.le_refl _⟩
    rw [seenC_zero]
    exact (MapIs.made w).same (Below.heap_alloc _ _ _ (by simp)))
  refine wpIn_loop (fun a' w' => ∃ (k cn : Nat) (v3 u5 u6 u7 u14 u15 u16 u17 u18 u19 u20 u21 u22 u23 u24 u25 u26 u27 u28 u29 u30 u31 u32 u33 u34 u35 u36 : Value) (vs : List Value) (Ds : List Nat), k ≤ n ∧ LSt W0 w' E w.heap.size k cn v3 vs Ds ∧ a' = { tmps := #[.pointer (some ⟨b, 0, none⟩), undef, .slice none 0 0, v3, .pointer (some ⟨w.heap.size + 1, 0, none⟩), u5, u6, u7, .pointer (some ⟨b, 0, none⟩), .bool false, .map (some w.heap.size), .pointer (some ⟨b, 0, none⟩), .int .i64 (n : Int), .int .i64 (k : Int), u14, u15, u16, u17, u18, u19, u20, u21, u22, u23, u24, u25, u26, u27, u28, u29, u30, u31, u32, u33, u34, u35, u36, undef], defers := Ds.map markD }) (fun a' w' => n - (intOf (a'.tmps.getD 13 undef)).toNat) ?_ ?_
  · exact ⟨0, 0, .slice none 0 0, undef, undef, undef, undef, undef, undef, undef, undef, undef, undef, undef, undef, undef, undef, undef, undef, undef, undef, undef, undef, undef, undef, undef, undef, undef, undef, [], [], by omega, HST.out, rfl⟩
  rintro a' X ⟨k, cn, v3, u5, u6, u7, u14, u15, u16, u17, u18, u19, u20, u21, u22, u23, u24, u25, u26, u27, u28, u29, u30, u31, u32, u33, u34, u35, u36, vs, Ds, hk, hst, rfl⟩
  have HST := Lib.hid hst
  have hbx : X.cell? ⟨w.heap.size + 1, 0, none⟩ = some (.map (some w.heap.size)) := (hst.but.cell (by have := HBX.out.2; omega) (by omega)).trans HBX.out.1
  clear hst
  by_cases hkn : k < n
  case neg =>
    obtain rfl : n = k := by omega
    have hd : decide ((n : Int) < (n : Int)) = false := by simp
    gi_wp2
    have hms : w.heap.size < W0.heap.size := HST.out.ml
    refine leaves_marks (Φ := fun W => W.ownsRow W0.heap.size 28 1 v3 (loopsL E n).length vs ∧ FamOwn W W0.heap.size vs (loopsL E n) ∧ Below w.heap.size w W) (B := W0.heap.size) ?_ ?_ Ds X HST.out.marks ⟨HST.out.row, HST.out.fam, HB0.out.trans (HST.out.but.below HB0.out.size (Nat.le_refl _))⟩
    · rintro W D hD ⟨q1, q2, q3⟩ hdf
      refine ⟨ownsRow_putObj q1 _ hdf rfl, q2.kept (grownBy_putObj' W D _) (fun i l a c _ _ ho => own_ne ho D (fun a cs e => by rw [hdf] at e; cases e)), q3.grown (grownBy_putObj' W D _) q3.size (fun q hq => by cases hq; omega)⟩
    · rintro W ⟨q1, q2, q3⟩
      exact ⟨_, results_tmp rfl _ _ _, v3, vs, rfl, owns_base q1 (by omega), q2.lower (by omega), q3⟩
  case pos =>
  have hd : decide ((k : Int) < (n : Int)) = true := by simpa using hkn
  have hk64 : I64 (k : Int) := ⟨by omega, by omega⟩
  have hlk := HST.out.map.look 67 4 (by kernel_rfl) zero_bool (k : Int) hk64 false
  by_cases hsn : seenB E k (k : Int)
  case pos =>
    have e : seenC E k (k : Int) = some (.bool true) := by unfold seenC; rw [if_pos hsn]
    rw [e] at hlk
    simp only [intFam] at hlk
    have hkS : (k : Int) ∈ E.map Prod.snd := by
      obtain ⟨w', hw', hm⟩ := hsn
      exact HONE.out.orb_sub hm
    have HS2 := Lib.hid (show LSt W0 X E w.heap.size (k + 1) cn v3 vs Ds from by
      have hmin := (seen_min HONE.out HNN0.out hkS).1 hsn
      refine ⟨by rw [seenC_same (seen_same HONE.out hsn)]; exact HST.out.map, by rw [loopsL_no hmin]; exact HST.out.row, by rw [loopsL_no hmin]; exact HST.out.fam, HST.out.but, HST.out.ml, HST.out.marks, HST.out.sz⟩)
    clear e hsn hkS
    gi_wp2
    refine ⟨⟨k + 1, cn, v3, _, _, _, _, _, _, _, _, _, _, _, _, _, _, _, _, _, _, _, _, _, _, _, _, _, _, vs, Ds, by omega, HS2.out, rfl⟩, ?_⟩
    show n - (intOf (.int .i64 ((k : Int) + 1))).toNat < n - (intOf (.int .i64 (k : Int))).toNat
    simp [intOf]; omega
  case neg =>
  have e : seenC E k (k : Int) = none := by unfold seenC; rw [if_neg hsn]
  rw [e] at hlk
  simp only [intFam] at hlk
  obtain ⟨X1, hX1⟩ : ∃ X1, X1 = (X.alloc (.cells #[.pointer (some ⟨b, 0, none⟩)] 26)).alloc (.cells #[.int .i64 (k : Int)] 3) := ⟨_, rfl⟩
  have hXX1 : Below X.heap.size X X1 := by rw [hX1]; exact ((Below.refl _ _).alloc (Nat.le_refl _) _).alloc (by simp) _
  have hs1 : X1.heap.size = X.heap.size + 2 := by rw [hX1]; simp
  have hr1 : X1.cell? ⟨X.heap.size, 0, none⟩ = some (.pointer (some ⟨b, 0, none⟩)) := by
    rw [hX1]; exact ((RowIs.made X 26 [.pointer (some ⟨b, 0, none⟩)]).alloc _).cell (i := 0) rfl
  have hr2 : X1.cell? ⟨X.heap.size + 1, 0, none⟩ = some (.int .i64 (k : Int)) := by
    rw [hX1]; exact (RowIs.made' (X.alloc (.cells #[.pointer (some ⟨b, 0, none⟩)] 26)) 3 [.int .i64 (k : Int)] (X.heap.size + 1) (by simp)).cell (i := 0) rfl
  have htab1 : Tab X1 b n T := HTB.out X1 (HST.out.but.more hXX1 HST.out.sz)
  have HCO := Lib.hid (collect_seq 7 (by omega) 130 #[.pointer (some ⟨X.heap.size, 0, none⟩), .pointer (some ⟨X.heap.size + 1, 0, none⟩)] (orb E (k : Int)) (HLEN.out k) (fun j => j = X.heap.size ∨ j = X.heap.size + 1) X1 (by rintro j (rfl | rfl) <;> omega) (enters_of Tryz.func130 (by kernel_rfl) rfl)
    (by have := walk_seq 5 (by omega) b n T HS.out X.heap.size (X.heap.size + 1) (k : Int) hk64 X1 (by omega) (by omega) hr1 hr2 htab1; rwa [← HE.out] at this))
  have HX1 := Lib.hid hX1
  have HXX1 := Lib.hid hXX1
  have HS1 := Lib.hid hs1
  have HSN := Lib.hid hsn
  clear hX1 hXX1 hs1 hr1 hr2 htab1 e hsn
  gi_upto_region 10 with (first | (refine ⟨trivial, ?_⟩; gi_at_call 104; refine (walk_any _ b (k : Int) X).mono ?_; rintro e w' ⟨rfl, hw'⟩; rw [← HX1.out] at hw'; have hw2 := hw'.symm; clear hw'; subst hw2) | (refine ⟨trivial, ?_⟩; gi_at_call 91; refine HCO.out.mono ?_; rintro e X2 ⟨vl, rfl, hown2, hb12⟩; obtain ⟨la, lc, rfl⟩ := owns_slice hown2))
  have HXX2 := Lib.hid (below_more HXX1.out (hb12.mono (Nat.le_refl _)) (by have := HXX1.out.size; omega))
  obtain ⟨X3, hX3⟩ : ∃ X3, X3 = (X2.alloc (.cells #[.pointer (some ⟨b, 0, none⟩)] 26)).alloc (.cells #[.int .i64 (k : Int)] 3) := ⟨_, rfl⟩
  have hX23 : Below X2.heap.size X2 X3 := by rw [hX3]; exact ((Below.refl _ _).alloc (Nat.le_refl _) _).alloc (by simp) _
  have hs3 : X3.heap.size = X2.heap.size + 2 := by rw [hX3]; simp
  have hr1 : X3.cell? ⟨X2.heap.size, 0, none⟩ = some (.pointer (some ⟨b, 0, none⟩)) := by
    rw [hX3]; exact ((RowIs.made X2 26 [.pointer (some ⟨b, 0, none⟩)]).alloc _).cell (i := 0) rfl
  have hr2 : X3.cell? ⟨X2.heap.size + 1, 0, none⟩ = some (.int .i64 (k : Int)) := by
    rw [hX3]; exact (RowIs.made' (X2.alloc (.cells #[.pointer (some ⟨b, 0, none⟩)] 26)) 3 [.int .i64 (k : Int)] (X2.heap.size + 1) (by simp)).cell (i := 0) rfl
  have HXX3 := Lib.hid (below_more HXX2.out hX23 HXX2.out.size)
  have HBUT3 := Lib.hid (HST.out.but.more HXX3.out HST.out.sz)
  have HSQ := Lib.hid (show SeqM Fence.wide (8 - 1) Tryz.prog 130 #[.pointer (some ⟨X2.heap.size, 0, none⟩), .pointer (some ⟨X2.heap.size + 1, 0, none⟩)] (fun x : Int => #[.int .i64 x]) (fun j => j = X2.heap.size ∨ j = X2.heap.size + 1) (orb E (k : Int)) X3 from by
    have := walk_seq (8 - 1) (by omega) b n T HS.out X2.heap.size (X2.heap.size + 1) (k : Int) hk64 X3 (by omega) (by omega) hr1 hr2 (HTB.out X3 HBUT3.out)
    rwa [← HE.out] at this)
  have HO2 := Lib.hid (owns_below hown2 hX23)
  have HX3 := Lib.hid hX3
  have HS3 := Lib.hid hs3
  have hml := HST.out.ml
  have HM3 := Lib.hid (HST.out.map.below (Nat.le_refl _) HXX3.out)
  have hsz03 : W0.heap.size ≤ X3.heap.size := by have := HST.out.sz; have := HXX3.out.size; omega
  have HSZ12 := Lib.hid (show W0.heap.size + 2 ≤ X1.heap.size ∧ X1.heap.size ≤ X2.heap.size from ⟨by have := HST.out.sz; have := HS1.out; omega, hb12.size⟩)
  have hbx3 : X3.cell? ⟨w.heap.size + 1, 0, none⟩ = some (.map (some w.heap.size)) := (HBUT3.out.cell (by have := HBX.out.2; omega) (by omega)).trans HBX.out.1
  clear hX3 hX23 hs3 hr1 hr2 hown2 hb12 hbx hlk HCO
  gi_wp2_with (refine ⟨trivial, ?_⟩; gi_at_call 104; refine (walk_any _ b (k : Int) X2).mono ?_; rintro e w' ⟨rfl, hw'⟩; rw [← HX3.out] at hw'; have hw2 := hw'.symm; clear hw'; subst hw2)
  refine rangeFunc_M rfl h1 (gf := 130) (lb := #[.pointer (some ⟨X2.heap.size, 0, none⟩), .pointer (some ⟨X2.heap.size + 1, 0, none⟩)]) rfl trivial (enters_of Tryz.func130 (by kernel_rfl) rfl) HSQ.out (Below.refl _ _) (fun _ => rfl) (by rintro j (rfl | rfl) <;> (have := HS3.out; omega))
    (fun pre W => (∃ c, MapIs intFam W w.heap.size c (seenP E k pre)) ∧ But X3.heap.size w.heap.size X3 W ∧ X3.heap.size ≤ W.heap.size) ?_ ⟨⟨cn, by rw [seenP_nil]; exact HM3.out⟩, But.refl _ _ _, Nat.le_refl _⟩ (fun x => { tmps := #[.pointer (some ⟨b, 0, none⟩), undef, .slice none 0 0, v3, .pointer (some ⟨w.heap.size + 1, 0, none⟩), .int .i64 (k : Int), .slice la (orb E (k : Int)).length lc, .int .i64 x, .pointer (some ⟨b, 0, none⟩), .bool false, .map (some w.heap.size), .pointer (some ⟨b, 0, none⟩), .int .i64 (n : Int), .int .i64 (k : Int), .bool true, .int .i64 (k : Int), .map (some w.heap.size), .int .i64 (k : Int), .bool false, .pointer (some ⟨b, 0, none⟩), .int .i64 (k : Int), .func (.func 130) #[] #[.pointer (some ⟨X.heap.size, 0, none⟩), .pointer (some ⟨X.heap.size + 1, 0, none⟩)], .slice la (orb E (k : Int)).length lc, .pointer (some ⟨b, 0, none⟩), .int .i64 (k : Int), .func (.func 130) #[] #[.pointer (some ⟨X2.heap.size, 0, none⟩), .pointer (some ⟨X2.heap.size + 1, 0, none⟩)], .int .i64 x, u27, u28, u29, u30, u31, u32, u33, u34, u35, u36, undef], defers := [] }) ?assign ?body ?done
  · rintro s A B row ⟨⟨c, hm⟩, hb, hz⟩ hg hr
    exact ⟨⟨c, hm.same (hg.block _ hm.lt (fun e => by have := (hr _ e.symm).1; omega))⟩, hb.grown hg hz (fun q hq => .inl (hr q hq).1), by have := hg.size; omega⟩
  case assign =>
    intro l x W K hK
    gi_wp2
    exact hK
  case body =>
    rintro l pre x W ⟨⟨c, hm⟩, hb, hz⟩ hpre
    have hbw := (hb.cell (by have := HBX.out.2; omega) (by omega)).trans hbx3
    have hx : x ∈ orb E (k : Int) := hpre.subset (by simp)
    obtain ⟨W', hst, hm', hg'⟩ := hm.store 67 4 (by kernel_rfl) x (HINT.out _ x hx) (.bool true)
    simp only [intFam] at hst
    have HM' := Lib.hid hm'
    have HG' := Lib.hid hg'
    have HBW := Lib.hid hb
    have HZ := Lib.hid hz
    clear hm hb hz hm' hg' hx
    gi_wp2
    refine ⟨KeepsFrom.of_grownBy HG'.out (fun j e => by cases e; omega), ?_, ⟨⟨_, by rw [seenP_snoc]; exact HM'.out⟩, HBW.out.grown HG'.out HZ.out (fun q hq => .inr (by cases hq; rfl)), by have := HG'.out.size; have := HZ.out; omega⟩⟩
    rintro j (rfl | rfl)
    · exact HG'.out.block _ (by have := HZ.out; have := HS3.out; omega) (by have := HSZ12.out; simp; omega)
    · exact HG'.out.block _ (by have := HZ.out; have := HS3.out; omega) (by have := HSZ12.out; simp; omega)
  case done =>
  rintro D X4 hD ⟨⟨c, hm4⟩, hb4, hz4⟩ hK
  have HG34 := Lib.hid hb4.grownBy
  have HM5 := Lib.hid (show MapIs intFam X4 w.heap.size c (seenC E (k + 1)) from by rw [← seenP_all]; exact hm4)
  have HROW := Lib.hid ((owns_below HST.out.row HXX3.out).kept HG34.out (owns_off (owns_below HST.out.row HXX3.out) hml))
  have HFAM := Lib.hid ((HST.out.fam.below HXX3.out).kept HG34.out (fun i l a c _ _ ho => owns_off ho hml))
  have HL4 := Lib.hid (owns_base (HO2.out.kept HG34.out (owns_off HO2.out (by have := HSZ12.out; omega))) (show W0.heap.size ≤ X1.heap.size by have := HSZ12.out; omega))
  have HBUT4 := Lib.hid (HBUT3.out.trans (show But W0.heap.size w.heap.size X3 X4 from ⟨hb4.os, hb4.tape, hb4.output, hb4.size, fun i hi hg => hb4.block i (by omega) hg⟩))
  have HSZ4 := Lib.hid (show W0.heap.size ≤ X4.heap.size from by omega)
  have HMK := Lib.hid (show Marks14 W0.heap.size (D :: Ds) X4 from by
    have hm := HST.out.marks
    refine ⟨List.nodup_cons.2 ⟨fun hD' => ?_, hm.1⟩, fun D' hD' => ?_⟩
    · have h1 := hm.lt hD'
      have h2 := HXX3.out.size
      omega
    · rcases List.mem_cons.1 hD' with rfl | hD'
      · exact ⟨by omega, hK⟩
      · have h1 := hm.lt hD'
        have h2 := hm.2 D' hD'
        have h3 := HXX3.out.size
        exact ⟨h2.1, ((hb4.block D' (by omega) (by omega)).trans (HXX3.out.block D' h1)).trans h2.2⟩)
  have HKD := Lib.hid hK
  have HDD := Lib.hid hD
  have hvs : vs.length = (loopsL E k).length := HST.out.fam.1
  have hll := loopsL_le (E := E) k
  obtain ⟨ol, hol⟩ : ∃ o, o = (orb E (k : Int)).length := ⟨_, rfl⟩
  have HOL := Lib.hid hol
  rw [← hol] at HL4 ⊢
  clear hm4 hb4 hz4 hK hD hbx3 hsz03
  by_cases hkS : (k : Int) ∈ E.map Prod.snd
  case neg =>
    have hnil := orb_nil hkS
    have hol0 : ol = 0 := by rw [hol, hnil]; rfl
    have hmin : minB E (k : Int) = false := by
      cases q : minB E (k : Int) with
      | false => rfl
      | true => exact absurd (minB_iff.1 q).1 hkS
    have d1 : decide ((ol : Int) > 0) = false := by simp [hol0]
    have d2 : decide ((0 : Int) < (ol : Int)) = false := by simp [hol0]
    have d3 : decide (0 < ol) = false := by simp [hol0]
    have HS2 := Lib.hid (show LSt W0 X4 E w.heap.size (k + 1) c v3 vs (D :: Ds) from ⟨HM5.out, by rw [loopsL_no hmin]; exact HROW.out, by rw [loopsL_no hmin]; exact HFAM.out, HBUT4.out, hml, HMK.out, HSZ4.out⟩)
    clear hol hol0 hnil hkS hmin hvs hll
    dsimp only
    gi_wp2
    refine ⟨⟨k + 1, c, v3, _, _, _, _, _, _, _, _, _, _, _, _, _, _, _, _, _, _, _, _, _, _, _, _, _, _, vs, D :: Ds, by omega, HS2.out, rfl⟩, ?_⟩
    show n - (intOf (.int .i64 ((k : Int) + 1))).toNat < n - (intOf (.int .i64 (k : Int))).toNat
    simp [intOf]; omega
  case pos =>
  obtain ⟨p, hp⟩ := HONE.out.per hkS
  have holp : 0 < ol := by rw [hol, orb_eq hkS hp, List.length_map, List.length_range]; exact hp.pos
  have hmin : minB E (k : Int) = true := by
    cases q : minB E (k : Int) with
    | true => rfl
    | false => exact absurd ((seen_min HONE.out HNN0.out hkS).2 q) HSN.out
  have d1 : decide ((ol : Int) > 0) = true := by simp; omega
  have d2 : decide ((0 : Int) < (ol : Int)) = true := by simp; omega
  have d3 : decide (0 < ol) = true := by simp; omega
  have HMIN := Lib.hid hmin
  obtain ⟨ii, hii, hj0, hj1, hj2⟩ := info_parts info44
  obtain ⟨rl, hrl⟩ : ∃ r, r = (loopsL E k).length := ⟨_, rfl⟩
  have HRL := Lib.hid hrl
  rw [← hrl] at HROW hll
  clear hol hp hkS hmin hvs hrl
  dsimp only
  gi_wp2_with (gi_at_builtin; refine wpListIn_append_own _ rfl _ _ 44 rfl W0.heap.size 28 ii (.slice none 0 0) 1 24 (by kernel_rfl) hii hj0 hj1 hj2 rfl (by decide) _ _ _ rfl (HROW.out.alloc _) ⟨X4.heap.size, 0, none⟩ 1 1 [.slice la ol lc] rfl rfl (cell_one_new _ _ _) (by simp [Value.oneCell']) (by unfold maxLen; omega) (by omega) (by have := HSZ4.out; simp; omega) ?_; intro v' w5 hown' hgrow _)
  have ha4 : Below X4.heap.size X4 (X4.alloc (.cells #[.slice la ol lc] 28)) := (Below.refl _ _).alloc (Nat.le_refl _) _
  have hov := HROW.out.alloc (.cells #[.slice la ol lc] 28)
  have HS2 := Lib.hid (show LSt W0 w5 E w.heap.size (k + 1) c v' (vs ++ [.slice la ol lc]) (D :: Ds) from by
    have hmlt := HM5.out.lt
    refine ⟨HM5.out.same ((hgrow.block _ (by simp; omega) (fun e => ?_)).trans (ha4.block _ hmlt)), ?_, ?_, ?_, hml, ?_, ?_⟩
    · have := (HROW.out.lt _ e.symm).1
      omega
    · rw [loopsL_yes HMIN.out, List.length_append, ← HRL.out]
      exact hown'
    · rw [loopsL_yes HMIN.out, HOL.out]
      have h1 : FamOwn w5 W0.heap.size vs (loopsL E k) := (HFAM.out.below ha4).kept hgrow (fun i l a c _ _ ho => owns_apart14 ho hov (by decide))
      have h2 := (owns_below HL4.out ha4).kept hgrow (owns_apart14 (owns_below HL4.out ha4) hov (by decide))
      rw [HOL.out] at h2
      exact h1.push h2
    · exact (HBUT4.out.more ha4 HSZ4.out).grown hgrow (by have := HSZ4.out; simp; omega) (fun q hq => .inl (HROW.out.lt q hq).1)
    · refine HMK.out.keeps fun D' hlt hB hd => ?_
      refine (hgrow.block D' (by simp; omega) (fun e => ?_)).trans (ha4.block D' hlt)
      rcases own_ne HROW.out D' (fun a cs q => by rw [hd] at q; cases q) with q | q
      · have e' : some D' = v3.ownBlock := e
        rw [q] at e'
        cases e'
      · exact q e.symm
    · have := hgrow.size
      have := HSZ4.out
      simp at *
      omega)
  refine ⟨⟨k + 1, c, v', _, _, _, _, _, _, _, _, _, _, _, _, _, _, _, _, _, _, _, _, _, _, _, _, _, _, vs ++ [.slice la ol lc], D :: Ds, by omega, HS2.out, rfl⟩, ?_⟩
  show n - (intOf (.int .i64 ((k : Int) + 1))).toNat < n - (intOf (.int .i64 (k : Int))).toNat
  simp [intOf]; omega
theorem firstF_has {N : Int} {T : List Tr} (hs : Surf N T) {v : Nat} (hv : (v : Int) < N) : ∃ c : Nat, firstF T 0 v = (c : Int) ∧ c < 3 * T.length ∧ vt T (c : Int) = (v : Int) := by
  obtain ⟨i, hi, hb⟩ := hs.used (v : Int) (by omega) hv
  obtain ⟨j, hj, e⟩ := hasB_iff.1 hb
  unfold firstF
  cases hf : (List.range' 0 (3 * T.length - 0)).find? fun (c : Nat) => vt T (c : Int) == (v : Int) with
  | none =>
    have := List.find?_eq_none.1 hf (3 * i + j) (by simp [List.mem_range'_1]; omega)
    have e2 := vt_tri T i j hj
    rw [e] at e2
    exact absurd (by simpa using e2) this
  | some c =>
    have h1 := List.mem_of_find?_eq_some hf
    have h2 := List.find?_some hf
    simp only [List.mem_range'_1] at h1
    exact ⟨c, rfl, by omega, by simpa using h2⟩
set_option maxRecDepth 100000 in
set_option maxHeartbeats 1000000 in
theorem corner_any (b n v : Nat) (T : List Tr) (w : World) (h : FirstAt w b T n) (hv : v < n) (hn : n ≤ 10000) :
    Calls Tryz.prog 74 #[.pointer (some ⟨b, 0, none⟩), .int .i64 (v : Int)] w fun e w' => e = .returned (.int .i64 (firstF T 0 v)) ∧ w' = w := by
  obtain ⟨f, h1, h2, h3⟩ := h
  have c0 := h3.cell (iv_get (firstF T 0) hv)
  generalize firstF T 0 v = z at c0 ⊢
  have d0 : decide ((v : Int) < 0) = false := by simp
  have d1 : decide ((v : Int) ≥ (n : Int)) = false := by simp; omega
  have d2 : decide ((n : Int) ≤ (v : Int)) = false := by simp; omega
  have d3 : decide (n ≤ v) = false := by simp; omega
  clear h3
  go_enter Tryz.func74, Tryz.ntmps74
  go_wp2
  go_ret
  exact ⟨rfl, rfl⟩
set_option maxRecDepth 100000 in
set_option maxHeartbeats 1000000 in
theorem at_any (b n v b1 b3 gl : Nat) (T : List Tr) (L : Nat → Int) (w : World) (hs : Surf n T) (h : FirstAt w b T n) (hv : v < n) (h1 : w.cell? ⟨b1, 0, none⟩ = some (.pointer (some ⟨b, 0, none⟩))) (h3 : w.cell? ⟨b3, 0, none⟩ = some (.slice (some ⟨gl, 0, none⟩) T.length T.length)) (hL : RowIs w gl 3 (iv L T.length)) :
    Calls Tryz.prog 73 #[.int .i64 (v : Int), .pointer (some ⟨b3, 0, none⟩), .pointer (some ⟨b1, 0, none⟩)] w fun e w' => e = .returned (.int .i64 (L ((firstF T 0 v).toNat / 3))) ∧ Below w.heap.size w w' := by
  obtain ⟨c, hc, hc3, -⟩ := firstF_has hs (v := v) (by omega)
  have hn4 : n ≤ 4096 := by have := hs.n1; omega
  have ht := hs.t1
  have HC := Lib.hid (show ∀ q, Calls Tryz.prog 74 #[.pointer (some ⟨b, 0, none⟩), .int .i64 (v : Int)] (w.drewN q) fun e w' => e = .returned (.int .i64 (c : Int)) ∧ ∃ r, w' = w.drewN r from fun q => by
    have := corner_any b n v T (w.drewN q) (h.mono (Nat.le_refl _) (by exact ⟨rfl, rfl, rfl, Nat.le_refl _, fun _ _ => rfl⟩)) hv (by omega)
    rw [hc] at this
    exact this.mono fun e w' ⟨h1, h2⟩ => ⟨h1, q, h2⟩)
  obtain ⟨k, hk⟩ : ∃ k, k = c / 3 := ⟨_, rfl⟩
  have hkl : k < T.length := by omega
  have s3 : (c : Int) / 3 = (k : Int) := by omega
  have c0 := hL.cell (iv_get L hkl)
  rw [hc, Int.toNat_natCast, ← hk]
  generalize L k = z at c0 ⊢
  obtain ⟨len, hlen⟩ : ∃ l, l = T.length := ⟨_, rfl⟩
  rw [← hlen] at h3 hkl ht
  clear hL hc hk hlen hs h
  go_enter Tryz.func73, Tryz.ntmps73
  go_upto_region 1 with fail
  go_quiet ((go_at_call 74; with_reducible exact HC.out _))
  go_wp2
  go_ret
  exact ⟨rfl, ⟨rfl, rfl, rfl, Nat.le_refl _, fun _ _ => rfl⟩⟩
set_option maxRecDepth 100000 in
set_option maxHeartbeats 2000000 in
theorem done_any (g o m6 : Nat) (Φ : Nat → Int) (V F B tw : Nat) (w : World) (hr : RowIs w g 64 (iv Φ m6)) (ho : o + 6 ≤ m6) (hV : Φ o = (V : Int)) (hF : Φ (o + 2) = (F : Int)) (hB : Φ (o + 3) = (B : Int)) (bV : V ≤ 100000) (bF : F ≤ 100000) (bB : B ≤ 100000) (bT : tw ≤ 100000) :
    Calls Tryz.prog 77 #[.pointer (some ⟨g, o, none⟩), .int .i64 (tw : Int)] w fun e w' => e = .returned (.tuple #[]) ∧ w.grownBy w' (some g) ∧
      RowIs w' g 64 (iv (upd (upd (upd Φ (o + 1) ((tw / 2 : Nat) : Int)) (o + 4) ((V : Int) - ((tw / 2 : Nat) : Int) + (F : Int))) (o + 5) (((2 : Int) - (B : Int) - ((V : Int) - ((tw / 2 : Nat) : Int) + (F : Int))).tdiv 2)) m6) := by
  obtain ⟨e, he⟩ : ∃ e, e = tw / 2 := ⟨_, rfl⟩
  have s2 : (tw : Int) / 2 = (e : Int) := by omega
  rw [← he]
  have be : e ≤ 50000 := by omega
  obtain ⟨eu, heu⟩ : ∃ x : Int, x = (V : Int) - (e : Int) + (F : Int) := ⟨_, rfl⟩
  have r0 := hr.set (o + 1) (.int .i64 (e : Int))
  rw [iv_set] at r0
  obtain ⟨w1, hw1⟩ : ∃ w1, w1 = w.setCell ⟨g, o + 1, none⟩ (.int .i64 (e : Int)) := ⟨_, rfl⟩
  rw [← hw1] at r0
  have HG1 := Lib.hid (show w.grownBy w1 (some g) from by rw [hw1]; exact grown_set _ _ _ _)
  have HR1 := Lib.hid r0
  have HW1 := Lib.hid hw1
  have f1 := hr.free (o + 1)
  have c1 := hr.cell (iv_get Φ (show o + 1 < m6 by omega))
  have u0 : upd Φ (o + 1) (e : Int) o = (V : Int) := by unfold upd; rw [if_neg (by omega)]; exact hV
  have u1 : upd Φ (o + 1) (e : Int) (o + 1) = (e : Int) := by unfold upd; rw [if_pos rfl]
  have u2 : upd Φ (o + 1) (e : Int) (o + 2) = (F : Int) := by unfold upd; rw [if_neg (by omega)]; exact hF
  have u3 : upd Φ (o + 1) (e : Int) (o + 3) = (B : Int) := by unfold upd; rw [if_neg (by omega)]; exact hB
  obtain ⟨Ψ, hΨ⟩ : ∃ Ψ, Ψ = upd Φ (o + 1) (e : Int) := ⟨_, rfl⟩
  rw [← hΨ] at u0 u1 u2 u3 HR1 ⊢
  have HPS := Lib.hid hΨ
  have x0 := HR1.out.cell (iv_get Ψ (show o < m6 by omega))
  have x1 := HR1.out.cell (iv_get Ψ (show o + 1 < m6 by omega))
  have x2 := HR1.out.cell (iv_get Ψ (show o + 2 < m6 by omega))
  have x4 := HR1.out.cell (iv_get Ψ (show o + 4 < m6 by omega))
  rw [u0] at x0
  rw [u1] at x1
  rw [u2] at x2
  have f4 := HR1.out.free (o + 4)
  have HU3 := Lib.hid u3
  generalize Φ (o + 1) = z1 at c1
  generalize Ψ (o + 4) = z4 at x4
  clear hw1 r0 hr he hV hF hB u0 u1 u2 u3 hΨ
  rw [← heu]
  have hse : (V : Int) - (e : Int) + (F : Int) = eu := heu.symm
  have beu : -100000 ≤ eu ∧ eu ≤ 200000 := by omega
  clear heu
  go_enter Tryz.func77, Tryz.ntmps77
  go_upto_region 1 with fail
  rw [← HW1.out]
  obtain ⟨Y, hY⟩ : ∃ Y, Y = w1.drew := ⟨_, rfl⟩
  have HY := Lib.hid hY
  have HRY := Lib.hid (show RowIs Y g 64 (iv Ψ m6) from by rw [hY]; exact HR1.out.drew1)
  have y4 : Y.cell? ⟨g, o + 4, none⟩ = some (.int .i64 z4) := by rw [hY]; exact x4
  have yf4 : Y.frozen? ⟨g, o + 4, none⟩ = false := by rw [hY]; exact f4
  clear hY
  go_still_tail 17, (by kernel_rfl)
  change wpList _ _ _ _ _ w1.drew
  rw [← HY.out]
  clear x4 f4
  obtain ⟨Y2, hY2⟩ : ∃ Y2, Y2 = Y.setCell ⟨g, o + 4, none⟩ (.int .i64 ((V : Int) - (e : Int) + (F : Int))) := ⟨_, rfl⟩
  have HY2 := Lib.hid hY2
  have HRY2 := Lib.hid (show RowIs Y2 g 64 (iv (upd Ψ (o + 4) eu) m6) from by
    have := HRY.out.set (o + 4) (.int .i64 eu)
    rw [iv_set] at this
    rw [hY2, hse]; exact this)
  have HSE := Lib.hid hse
  have HGY := Lib.hid (show w.grownBy Y2 (some g) from by
    rw [hY2]
    exact grown_tr (grown_tr HG1.out (by rw [HY.out]; exact ⟨rfl, rfl, rfl, Nat.le_refl _, fun _ _ _ => rfl⟩)) (grown_set _ _ _ _))
  clear hY2 hse
  go_upto_region 2 with fail
  rw [← HY2.out]
  have v3 : upd Ψ (o + 4) eu (o + 3) = (B : Int) := by unfold upd; rw [if_neg (by omega)]; exact HU3.out
  have v4 : upd Ψ (o + 4) eu (o + 4) = eu := by unfold upd; rw [if_pos rfl]
  obtain ⟨Θ, hΘ⟩ : ∃ Θ, Θ = upd Ψ (o + 4) eu := ⟨_, rfl⟩
  rw [← hΘ] at v3 v4 HRY2
  have HTH := Lib.hid hΘ
  obtain ⟨Z, hZ⟩ : ∃ Z, Z = Y2.drew := ⟨_, rfl⟩
  have HZ := Lib.hid hZ
  have HRZ := Lib.hid (show RowIs Z g 64 (iv Θ m6) from by rw [hZ]; exact HRY2.out.drew1)
  have z3 := HRY2.out.cell (iv_get Θ (show o + 3 < m6 by omega))
  have z4 := HRY2.out.cell (iv_get Θ (show o + 4 < m6 by omega))
  have z5 := HRZ.out.cell (iv_get Θ (show o + 5 < m6 by omega))
  rw [v3] at z3
  rw [v4] at z4
  have zf5 := HRZ.out.free (o + 5)
  generalize Θ (o + 5) = z5' at z5
  clear v3 v4 hΘ hZ y4 yf4
  go_still_tail 14, (by kernel_rfl)
  change wpList _ _ _ _ _ Y2.drew
  rw [← HZ.out]
  have HGF := Lib.hid (show w.grownBy (Z.setCell ⟨g, o + 5, none⟩ (.int .i64 (((2 : Int) - (B : Int) - eu).tdiv 2))) (some g) from
    grown_tr (grown_tr HGY.out (by rw [HZ.out]; exact ⟨rfl, rfl, rfl, Nat.le_refl _, fun _ _ _ => rfl⟩)) (grown_set _ _ _ _))
  have HRF := Lib.hid (show RowIs (Z.setCell ⟨g, o + 5, none⟩ (.int .i64 (((2 : Int) - (B : Int) - eu).tdiv 2))) g 64 (iv (upd (upd Ψ (o + 4) eu) (o + 5) (((2 : Int) - (B : Int) - eu).tdiv 2)) m6) from by
    have := HRZ.out.set (o + 5) (.int .i64 (((2 : Int) - (B : Int) - eu).tdiv 2))
    rw [iv_set, HTH.out] at this
    exact this)
  go_wp2
  exact bodyPost_end (v := .tuple #[]) (by simp [results, Tryz.results77, go_sem]) rfl ⟨rfl, HGF.out, HRF.out⟩
/-- How many of the first i have the key k. -/
def cntK (key : Nat → Int) (i k : Nat) : Nat := ((List.range i).filter fun t => decide (key t = (k : Int))).length
theorem cntK_zero (key : Nat → Int) (k : Nat) : cntK key 0 k = 0 := rfl
theorem cntK_succ (key : Nat → Int) (i k : Nat) : cntK key (i + 1) k = cntK key i k + if key i = (k : Int) then 1 else 0 := by
  unfold cntK
  rw [List.range_succ, List.filter_append, List.length_append]
  by_cases h : key i = (k : Int) <;> simp [h]
theorem cntK_le (key : Nat → Int) (i k : Nat) : cntK key i k ≤ i := by
  have := List.length_filter_le (fun t => decide (key t = (k : Int))) (List.range i)
  simpa [cntK] using this
/-- The ends of edges at the first c corners: one a corner, two on the border. -/
def twn (T : List Tr) (L : Nat → Int) (c k : Nat) : Nat := cntK (fun x => L (x / 3)) c k + ((List.range c).filter fun x => decide (L (x / 3) = (k : Int)) && decide (opp T (x : Nat) < 0)).length
theorem twn_succ (T : List Tr) (L : Nat → Int) (c k : Nat) : twn T L (c + 1) k = twn T L c k + (if L (c / 3) = (k : Int) then (if opp T (c : Nat) < 0 then 2 else 1) else 0) := by
  unfold twn
  rw [cntK_succ, List.range_succ, List.filter_append, List.length_append]
  by_cases h : L (c / 3) = (k : Int) <;> by_cases g : opp T (c : Nat) < 0 <;> simp [h, g] <;> omega
theorem twn_le (T : List Tr) (L : Nat → Int) (c k : Nat) : twn T L c k ≤ 2 * c := by
  have h1 := cntK_le (fun x => L (x / 3)) c k
  have h2 := List.length_filter_le (fun x => decide (L (x / 3) = (k : Int)) && decide (opp T (x : Nat) < 0)) (List.range c)
  rw [List.length_range] at h2
  unfold twn
  omega
/-- The shell of a vertex. -/
def shV (T : List Tr) (L : Nat → Int) (v : Nat) : Int := L ((firstF T 0 v).toNat / 3)
/-- The first vertices of the border loops. -/
def headsB (E : List (Int × Int)) (n : Nat) : List Nat := (List.range n).filter fun v => minB E (v : Int)
theorem loopsL_heads (E : List (Int × Int)) (n : Nat) : loopsL E n = (headsB E n).map fun (v : Nat) => orb E (v : Int) := rfl
theorem headsB_le (E : List (Int × Int)) (n : Nat) : (headsB E n).length ≤ n := by
  have := List.length_filter_le (fun v : Nat => minB E (v : Int)) (List.range n)
  simpa [headsB] using this
theorem headsB_mem {E : List (Int × Int)} {n v : Nat} : v ∈ headsB E n ↔ v < n ∧ minB E (v : Int) = true := by simp [headsB]
/-- A loop begins with its vertex. -/
theorem orb_head {E : List (Int × Int)} {v : Int} (hv : v ∈ E.map Prod.snd) : ∃ l, orb E v = v :: l := by
  unfold orb
  cases hb : nextB E v with
  | none => exact absurd hv (nextB_none.1 hb)
  | some b => exact ⟨_, rfl⟩
/-- The numbers under way. -/
def numF (V F B : Nat → Nat) : Nat → Int := fun i => if i % 6 = 0 then (V (i / 6) : Int) else if i % 6 = 2 then (F (i / 6) : Int) else if i % 6 = 3 then (B (i / 6) : Int) else 0
theorem numF_V (V F B : Nat → Nat) (s : Nat) : numF V F B (6 * s) = (V s : Int) := by
  unfold numF
  rw [if_pos (by omega), show 6 * s / 6 = s by omega]
theorem numF_F (V F B : Nat → Nat) (s : Nat) : numF V F B (6 * s + 2) = (F s : Int) := by
  unfold numF
  rw [if_neg (by omega), if_pos (by omega), show (6 * s + 2) / 6 = s by omega]
theorem numF_B (V F B : Nat → Nat) (s : Nat) : numF V F B (6 * s + 3) = (B s : Int) := by
  unfold numF
  rw [if_neg (by omega), if_neg (by omega), if_pos (by omega), show (6 * s + 3) / 6 = s by omega]
theorem numF_upF (V F F' B : Nat → Nat) (s : Nat) (h : ∀ k, F' k = F k + if k = s then 1 else 0) : upd (numF V F B) (6 * s + 2) ((F s : Int) + 1) = numF V F' B := by
  funext i
  unfold upd numF
  by_cases e : i = 6 * s + 2
  · subst e
    rw [if_pos rfl, if_neg (by omega), if_pos (by omega), show (6 * s + 2) / 6 = s by omega, h s, if_pos rfl]
    omega
  · rw [if_neg e]
    by_cases e2 : i % 6 = 2
    · rw [if_neg (by omega), if_pos e2, if_neg (by omega), if_pos e2, h (i / 6), if_neg (by omega)]
      rfl
    · by_cases e0 : i % 6 = 0
      · rw [if_pos e0, if_pos e0]
      · rw [if_neg e0, if_neg e2, if_neg e0, if_neg e2]
theorem numF_upV (V V' F B : Nat → Nat) (s : Nat) (h : ∀ k, V' k = V k + if k = s then 1 else 0) : upd (numF V F B) (6 * s) ((V s : Int) + 1) = numF V' F B := by
  funext i
  unfold upd numF
  by_cases e : i = 6 * s
  · subst e
    rw [if_pos rfl, if_pos (by omega), show 6 * s / 6 = s by omega, h s, if_pos rfl]
    omega
  · rw [if_neg e]
    by_cases e0 : i % 6 = 0
    · rw [if_pos e0, if_pos e0, h (i / 6), if_neg (by omega)]
      rfl
    · rw [if_neg e0, if_neg e0]
theorem numF_upB (V F B B' : Nat → Nat) (s : Nat) (h : ∀ k, B' k = B k + if k = s then 1 else 0) : upd (numF V F B) (6 * s + 3) ((B s : Int) + 1) = numF V F B' := by
  funext i
  unfold upd numF
  by_cases e : i = 6 * s + 3
  · subst e
    rw [if_pos rfl, if_neg (by omega), if_neg (by omega), if_pos (by omega), show (6 * s + 3) / 6 = s by omega, h s, if_pos rfl]
    omega
  · rw [if_neg e]
    by_cases e3 : i % 6 = 3
    · rw [if_neg (by omega), if_neg (by omega), if_pos e3, if_neg (by omega), if_neg (by omega), if_pos e3, h (i / 6), if_neg (by omega)]
      rfl
    · by_cases e0 : i % 6 = 0
      · rw [if_pos e0, if_pos e0]
      · rw [if_neg e0, if_neg e0]
        by_cases e2 : i % 6 = 2
        · rw [if_pos e2, if_pos e2]
        · rw [if_neg e2, if_neg e3, if_neg e2, if_neg e3]
/-- The numbers of a shell. -/
def finF (V F B tw : Nat → Nat) : Nat → Int := fun i =>
  let k := i / 6
  let eu := (V k : Int) - ((tw k / 2 : Nat) : Int) + (F k : Int)
  if i % 6 = 0 then (V k : Int) else if i % 6 = 1 then ((tw k / 2 : Nat) : Int) else if i % 6 = 2 then (F k : Int) else if i % 6 = 3 then (B k : Int) else if i % 6 = 4 then eu else ((2 : Int) - (B k : Int) - eu).tdiv 2
/-- Those of the first s shells done. -/
def dunF (V F B tw : Nat → Nat) (s : Nat) : Nat → Int := fun i => if i / 6 < s then finF V F B tw i else numF V F B i
theorem dunF_zero (V F B tw : Nat → Nat) : dunF V F B tw 0 = numF V F B := by
  funext i
  unfold dunF
  rw [if_neg (by omega)]
theorem dunF_here (V F B tw : Nat → Nat) (s j : Nat) (hj : j < 6) : dunF V F B tw s (6 * s + j) = numF V F B (6 * s + j) := by
  unfold dunF
  rw [if_neg (by omega)]
theorem dunF_step (V F B tw : Nat → Nat) (s : Nat) : upd (upd (upd (dunF V F B tw s) (6 * s + 1) ((tw s / 2 : Nat) : Int)) (6 * s + 4) ((V s : Int) - ((tw s / 2 : Nat) : Int) + (F s : Int))) (6 * s + 5) (((2 : Int) - (B s : Int) - ((V s : Int) - ((tw s / 2 : Nat) : Int) + (F s : Int))).tdiv 2) = dunF V F B tw (s + 1) := by
  funext i
  unfold upd dunF
  by_cases e5 : i = 6 * s + 5
  · subst e5
    rw [if_pos rfl, if_pos (by omega)]
    unfold finF
    rw [if_neg (by omega), if_neg (by omega), if_neg (by omega), if_neg (by omega), if_neg (by omega), show (6 * s + 5) / 6 = s by omega]
  · rw [if_neg e5]
    by_cases e4 : i = 6 * s + 4
    · subst e4
      rw [if_pos rfl, if_pos (by omega)]
      unfold finF
      rw [if_neg (by omega), if_neg (by omega), if_neg (by omega), if_neg (by omega), if_pos (by omega), show (6 * s + 4) / 6 = s by omega]
    · rw [if_neg e4]
      by_cases e1 : i = 6 * s + 1
      · subst e1
        rw [if_pos rfl, if_pos (by omega)]
        unfold finF
        rw [if_neg (by omega), if_pos (by omega), show (6 * s + 1) / 6 = s by omega]
      · rw [if_neg e1]
        by_cases hs : i / 6 < s
        · rw [if_pos hs, if_pos (by omega)]
        · rw [if_neg hs]
          by_cases h1 : i / 6 < s + 1
          · rw [if_pos h1]
            have hk : i / 6 = s := by omega
            unfold finF numF
            by_cases e0 : i % 6 = 0
            · rw [if_pos e0, if_pos e0]
            · have n1 : ¬ i % 6 = 1 := by omega
              rw [if_neg e0, if_neg e0, if_neg n1]
              by_cases e2 : i % 6 = 2
              · rw [if_pos e2, if_pos e2]
              · rw [if_neg e2, if_neg e2]
                by_cases e3 : i % 6 = 3
                · rw [if_pos e3, if_pos e3]
                · omega
          · rw [if_neg h1]
theorem madeCells_six (m : Nat) : (madeCells #[Value.int .i64 0, .int .i64 0, .int .i64 0, .int .i64 0, .int .i64 0, .int .i64 0] (m * 6)).toList = iv (fun _ => 0) (6 * m) := by
  apply List.ext_getElem
  · simp [madeCells, iv]; omega
  · intro i h1 h2
    have hm : i % 6 < 6 := Nat.mod_lt _ (by omega)
    simp only [madeCells, iv, Array.toList_map, Array.toList_range, List.getElem_map, List.getElem_range]
    generalize e : i % 6 = r at hm ⊢
    match r, hm with
    | 0, _ => simp [e]
    | 1, _ => simp [e]
    | 2, _ => simp [e]
    | 3, _ => simp [e]
    | 4, _ => simp [e]
    | 5, _ => simp [e]
theorem infoNum : (Tryz.prog.info? 64).map (fun i => (i.zero, i.size, i.bytes)) = some (some (.agg #[.int .i64 0, .int .i64 0, .int .i64 0, .int .i64 0, .int .i64 0, .int .i64 0]), 6, 48) := by kernel_rfl
def nV (T : List Tr) (L : Nat → Int) (n : Nat) : Nat → Nat := cntK (shV T L) n
def nF (T : List Tr) (L : Nat → Int) : Nat → Nat := cntK L T.length
def keyB (T : List Tr) (L : Nat → Int) (n : Nat) (j : Nat) : Int := shV T L ((headsB (bordE T (3 * T.length)) n).getD j 0)
def nB (T : List Tr) (L : Nat → Int) (n : Nat) : Nat → Nat := cntK (keyB T L n) (headsB (bordE T (3 * T.length)) n).length
def nT (T : List Tr) (L : Nat → Int) : Nat → Nat := twn T L (3 * T.length)
/-- The numbers of the shells, six a shell. -/
def genF (T : List Tr) (L : Nat → Int) (n : Nat) : Nat → Int := finF (nV T L n) (nF T L) (nB T L n) (nT T L)
/-- The state of genus.Of's loops: the numbers, the ends of edges. -/
structure GSt (W X : World) (go gt m : Nat) (Φ τ : Nat → Int) : Prop where
  row : RowIs X go 64 (iv Φ (6 * m))
  tw : RowIs X gt 3 (iv τ m)
  low : Below go W X
  ord : go < gt
section
variable {W X Y : World} {go gt m : Nat} {Φ τ : Nat → Int}
theorem GSt.more (h : GSt W X go gt m Φ τ) (hb : Below X.heap.size X Y) : GSt W Y go gt m Φ τ :=
  ⟨h.row.after hb, h.tw.after hb, below_more h.low hb (by have := h.row.lt; omega), h.ord⟩
theorem GSt.setO (h : GSt W X go gt m Φ τ) (i : Nat) (v : Int) : GSt W (X.setCell ⟨go, i, none⟩ (.int .i64 v)) go gt m (upd Φ i v) τ := by
  have := h.row.set i (.int .i64 v)
  rw [iv_set] at this
  exact ⟨this, h.tw.other (by have := h.ord; show go ≠ gt; omega) _, h.low.setCell (p := ⟨go, i, none⟩) (Nat.le_refl _) _, h.ord⟩
theorem GSt.setT (h : GSt W X go gt m Φ τ) (i : Nat) (v : Int) : GSt W (X.setCell ⟨gt, i, none⟩ (.int .i64 v)) go gt m Φ (upd τ i v) := by
  have := h.tw.set i (.int .i64 v)
  rw [iv_set] at this
  have ho := h.ord
  exact ⟨h.row.other (by show gt ≠ go; omega) _, this, h.low.setCell (p := ⟨gt, i, none⟩) (by show go ≤ gt; omega) _, h.ord⟩
end
theorem numF_zero : numF (fun _ => 0) (fun _ => 0) (fun _ => 0) = fun _ => 0 := by
  funext i
  unfold numF
  by_cases h0 : i % 6 = 0
  · rw [if_pos h0]; rfl
  · rw [if_neg h0]
    by_cases h2 : i % 6 = 2
    · rw [if_pos h2]; rfl
    · rw [if_neg h2]
      by_cases h3 : i % 6 = 3
      · rw [if_pos h3]; rfl
      · rw [if_neg h3]
theorem twn_upd {T : List Tr} {L : Nat → Int} {c s : Nat} (h : L (c / 3) = (s : Int)) (d : Nat) (hd : d = if opp T (c : Nat) < 0 then 2 else 1) : upd (fun k => (twn T L c k : Int)) s ((twn T L c s : Int) + (d : Int)) = fun k => (twn T L (c + 1) k : Int) := by
  funext k
  unfold upd
  rw [twn_succ, h]
  by_cases e : k = s
  · subst e
    rw [if_pos rfl, if_pos rfl, ← hd]
    omega
  · rw [if_neg e, if_neg (by omega)]
    simp
set_option maxRecDepth 100000 in
set_option maxHeartbeats 4000000 in
theorem genus_of (b n m : Nat) (T : List Tr) (L : Nat → Int) (w : World) (h : Tab w b n T) (hf : FirstAt w b T n) (hs : Surf n T) (hL : IsShells (Adj T) T.length L) (hm : (m : Int) = cnt L T.length) :
    Calls Tryz.prog 33 #[.pointer (some ⟨b, 0, none⟩)] w fun e w' => ∃ g, e = .returned (.slice (some ⟨g, 0, none⟩) m m) ∧ w.heap.size ≤ g ∧ RowIs w' g 64 (iv (genF T L n) (6 * m)) ∧ Below w.heap.size w w' := by
  obtain ⟨i0, hi, hz0, hz1, hz2⟩ := info_parts info3
  obtain ⟨j0, hj, hy0, hy1, hy2⟩ := info_parts infoNum
  obtain ⟨W0, hW0⟩ : ∃ W0, W0 = w.alloc (.cells #[.pointer (some ⟨b, 0, none⟩)] 26) := ⟨_, rfl⟩
  have hb0 : Below w.heap.size w W0 := by rw [hW0]; exact (Below.refl _ _).alloc (Nat.le_refl _) _
  have hr0 : RowIs W0 w.heap.size 26 [.pointer (some ⟨b, 0, none⟩)] := by rw [hW0]; exact RowIs.made w 26 [.pointer (some ⟨b, 0, none⟩)]
  have hn4 : n ≤ 4096 := by have := hs.n1; omega
  have ht8 := hs.t1
  have hmle : m ≤ T.length := by have := hL.cnt_le; omega
  have HLS := Lib.hid (show ∀ k, k < T.length → ∃ s : Nat, s < m ∧ L k = (s : Int) from fun k hk => by
    obtain ⟨s, e⟩ := Int.eq_ofNat_of_zero_le (hL.nonneg k hk)
    have := cnt_lt L T.length k hk
    exact ⟨s, by omega, e⟩)
  have HVS := Lib.hid (show ∀ v, v < n → ∃ s : Nat, s < m ∧ shV T L v = (s : Int) from fun v hv => by
    obtain ⟨c, hc, hc3, -⟩ := firstF_has hs (v := v) (by omega)
    unfold shV
    rw [hc, Int.toNat_natCast]
    exact HLS.out (c / 3) (by omega))
  have HTAB := Lib.hid (show ∀ X, Below w.heap.size w X → Tab X b n T ∧ FirstAt X b T n from fun X hX => ⟨h.mono (Nat.le_refl _) hX, hf.mono (Nat.le_refl _) hX⟩)
  have HS := Lib.hid hs
  have HSH := Lib.hid hL
  have HM := Lib.hid hm
  have HB0 := Lib.hid hb0
  have HR0 := Lib.hid hr0
  have HW0 := Lib.hid hW0
  have HOL := Lib.hid (of_L hs hL W0 b (HTAB.out W0 hb0).1)
  obtain ⟨xb, hxb⟩ : ∃ x, x = w.heap.size := ⟨_, rfl⟩
  rw [← hxb] at HR0
  obtain ⟨len, hlen⟩ : ∃ l, l = T.length := ⟨_, rfl⟩
  rw [← hlen] at HOL ht8 hmle HLS
  have HL := Lib.hid hlen
  have HXB := Lib.hid hxb
  clear h hf hs hL hm hb0 hr0 hW0 hxb hlen
  go_enter Tryz.func33, Tryz.ntmps33
  go_upto_region 1 with fail
  rw [← HW0.out, ← HXB.out]
  have c0 := HR0.out.cell (i := 0) rfl
  go_wp2_with fail
  refine HOL.out.mono ?_
  rintro e w1 ⟨gl, rfl, hgl, hrl, hb1⟩
  obtain ⟨W1, hW1⟩ : ∃ W1, W1 = w1.alloc (.cells #[.slice (some ⟨gl, 0, none⟩) len len] 28) := ⟨_, rfl⟩
  have hb11 : Below w1.heap.size w1 W1 := by rw [hW1]; exact (Below.refl _ _).alloc (Nat.le_refl _) _
  obtain ⟨b3, hb3⟩ : ∃ x, x = w1.heap.size := ⟨_, rfl⟩
  have HR3 := Lib.hid (show RowIs W1 b3 28 [.slice (some ⟨gl, 0, none⟩) len len] from by rw [hW1, hb3]; exact RowIs.made w1 28 [.slice (some ⟨gl, 0, none⟩) len len])
  have HRL := Lib.hid (hrl.after hb11)
  have HB01 := Lib.hid (below_more hb1 hb11 hb1.size)
  have HR01 := Lib.hid (HR0.out.after HB01.out)
  have HBW1 := Lib.hid (below_more HB0.out HB01.out HB0.out.size)
  have HW1 := Lib.hid hW1
  have HB3 := Lib.hid hb3
  have HCT := Lib.hid (count_L HS.out HSH.out HM.out W1 b (HTAB.out W1 HBW1.out).1)
  have c1 := HR01.out.cell (i := 0) rfl
  clear hW1 hb11 hb3 hrl hb1 hgl c0
  go_upto_region 2 with fail
  rw [← HW1.out, ← HB3.out]
  go_wp2_with fail
  refine HCT.out.mono ?_
  rintro e w2 ⟨rfl, hb2⟩
  have HB12 := Lib.hid hb2
  clear c1 hb2
  go_wp2_with (at_make; refine wpList_make_full _ rfl _ _ _ rfl w2.heap.size 64 j0 (.agg #[.int .i64 0, .int .i64 0, .int .i64 0, .int .i64 0, .int .i64 0, .int .i64 0]) 6 (by kernel_rfl) hj hy0 hy1 _ _ _ _ m rfl rfl rfl rfl (by rw [hy2]; omega) (by unfold maxLen; omega) (Nat.le_refl _) ?_)
  intro w3 hown hgr
  have hro : RowIs w3 w2.heap.size 64 (iv (fun _ => 0) (6 * m)) := by rw [← madeCells_six]; exact RowIs.of_owns hown
  have hb23 : Below w2.heap.size w2 w3 := (Below.refl _ _).grown hgr (Nat.le_refl _) (by simp)
  obtain ⟨go, hgo⟩ : ∃ g, g = w2.heap.size := ⟨_, rfl⟩
  rw [← hgo] at hro ⊢
  have HRO := Lib.hid hro
  have HB23 := Lib.hid hb23
  have HGO := Lib.hid hgo
  clear hown hgr hro hb23 hgo
  go_upto_region 3 with fail
  go_wp2_with (at_make; refine wpList_make_full _ rfl _ _ _ rfl w3.heap.size 3 i0 (.int .i64 0) 1 (by kernel_rfl) hi hz0 hz1 _ _ _ _ m rfl rfl rfl rfl (by rw [hz2]; omega) (by unfold maxLen; omega) (by simp) ?_)
  intro W4 hown hgr
  rw [madeCells_iv] at hown
  have hrt := RowIs.of_owns hown
  have hb34 : Below w3.heap.size w3 W4 := (Below.refl _ _).grown hgr (Nat.le_refl _) (by simp)
  obtain ⟨gt, hgt⟩ : ∃ g, g = w3.heap.size := ⟨_, rfl⟩
  rw [← hgt] at hrt ⊢
  have hsz12 := HB12.out.size
  have hsz23 := HB23.out.size
  have hlgo : go < gt := by have := HRO.out.lt; omega
  have HGS := Lib.hid (show GSt W4 W4 go gt m (numF (fun _ => 0) (cntK L 0) (fun _ => 0)) (fun s => (twn T L (3 * 0) s : Int)) from by
    refine ⟨?_, ?_, Below.refl _ _, hlgo⟩
    · rw [show cntK L 0 = fun _ => 0 from rfl, numF_zero]
      exact HRO.out.after hb34
    · exact hrt)
  have HLOW := Lib.hid (show ∀ X, Below go W4 X → X.cell? ⟨xb, 0, none⟩ = some (.pointer (some ⟨b, 0, none⟩)) ∧ X.cell? ⟨b3, 0, none⟩ = some (.slice (some ⟨gl, 0, none⟩) len len) ∧ RowIs X gl 3 (iv L len) ∧ Below w.heap.size w X from fun X hX => by
    have h24 : Below w2.heap.size w2 X := (HB23.out.trans (hb34.mono hsz23)).trans (by rw [← HGO.out]; exact hX)
    have h1X : Below W1.heap.size W1 X := below_more HB12.out h24 hsz12
    refine ⟨(HR01.out.after h1X).cell (i := 0) rfl, (HR3.out.after h1X).cell (i := 0) rfl, HRL.out.after h1X, below_more HBW1.out h1X HBW1.out.size⟩)
  have HGO2 := Lib.hid (show w.heap.size ≤ go from by rw [HGO.out]; have := HBW1.out.size; omega)
  clear hown hgr hrt hb34 hgt hsz12 hsz23 HRO HB23 HB12 HRL HR01 HR3 HBW1 HW1 HB3 HCT HOL HB01 HR0 HB0 HW0
  obtain ⟨q1, q3, -, -⟩ := HLOW.out W4 (Below.refl _ _)
  go_upto_region 6 with fail
  clear q1 q3
  go_loopw [25] (fun i ws => ∃ k : Nat, k ≤ len ∧ i = .int .i64 k ∧ GSt W4 ws go gt m (numF (fun _ => 0) (cntK L k) (fun _ => 0)) (fun s => (twn T L (3 * k) s : Int))) (fun i _ => len - (intOf i).toNat)
  case atStart => exact ⟨0, by omega, rfl, HGS.out⟩
  case round =>
  clear HGS
  obtain ⟨k, hk, rfl, hst⟩ := hrel
  obtain ⟨X, rfl⟩ : ∃ X : World, X = wr := ⟨_, rfl⟩
  have HST := Lib.hid hst
  obtain ⟨x1, x3, xl, -⟩ := HLOW.out X hst.low
  clear hst
  by_cases hkl : k < len
  case neg =>
    obtain rfl : len = k := by omega
    have HF1 := Lib.hid (show GSt W4 X go gt m (numF (cntK (shV T L) 0) (nF T L) (fun _ => 0)) (fun s => (nT T L s : Int)) from by
      have := HST.out
      rw [HL.out] at this
      exact this)
    obtain ⟨-, -, -, hbw⟩ := HLOW.out X HST.out.low
    have HVT := Lib.hid (vertices_any X b n T (HTAB.out X hbw).1.s)
    clear HST xl hbw x3 hkl hk
    go_wp2_with fail
    refine HVT.out.mono ?_
    rintro e X' ⟨rfl, rfl⟩
    clear x1 HVT
    go_wp2
    go_loopw [66] (fun i ws => ∃ v : Nat, v ≤ n ∧ i = .int .i64 v ∧ GSt W4 ws go gt m (numF (cntK (shV T L) v) (nF T L) (fun _ => 0)) (fun s => (nT T L s : Int))) (fun i _ => n - (intOf i).toNat)
    case atStart => exact ⟨0, by omega, rfl, HF1.out⟩
    case round =>
    clear HF1
    obtain ⟨v, hv, rfl, hst⟩ := hrel
    obtain ⟨X, rfl⟩ : ∃ X : World, X = wr := ⟨_, rfl⟩
    have HST := Lib.hid hst
    obtain ⟨x1, x3, xl, hbw⟩ := HLOW.out X hst.low
    clear hst
    by_cases hvn : v < n
    case neg =>
      obtain rfl : n = v := by omega
      have HF2 := Lib.hid (show GSt W4 X go gt m (numF (nV T L n) (nF T L) (cntK (keyB T L n) 0)) (fun s => (nT T L s : Int)) from HST.out)
      have HLP := Lib.hid (loops_ok b n T X (HTAB.out X hbw).1 HS.out)
      have hgX : go < X.heap.size := HST.out.row.lt
      obtain ⟨E, hE⟩ : ∃ E, E = bordE T (3 * T.length) := ⟨_, rfl⟩
      rw [← hE] at HLP
      have hone : OneIn E := by rw [hE]; exact HS.out.oneIn
      have HONE := Lib.hid hone
      have HEE := Lib.hid hE
      obtain ⟨hl, hhl⟩ : ∃ x, x = (headsB E n).length := ⟨_, rfl⟩
      have hll : (loopsL E n).length = hl := by rw [hhl, loopsL_heads, List.length_map]
      have hlb := headsB_le E n
      rw [hll] at HLP
      rw [← hhl] at hlb
      have HHL := Lib.hid hhl
      clear xl hbw x3 hvn hv HST hone hE hhl hll
      go_wp2_with fail
      refine HLP.out.mono ?_
      rintro e Y ⟨vl, vs, rfl, hown, hfam, hbY⟩
      obtain ⟨la, lc, hve⟩ := owns_slice hown
      subst hve
      have HF3 := Lib.hid (HF2.out.more hbY)
      have HOW := Lib.hid hown
      have HFA := Lib.hid hfam
      have hXY := hbY.size
      clear x1 HLP HF2 hown hfam hbY
      go_wp2
      go_loopw [83] (fun i ws => ∃ j : Nat, j ≤ hl ∧ i = .int .i64 j ∧ GSt W4 ws go gt m (numF (nV T L n) (nF T L) (cntK (keyB T L n) j)) (fun s => (nT T L s : Int)) ∧ But Y.heap.size go Y ws ∧ Y.heap.size ≤ ws.heap.size) (fun i _ => hl - (intOf i).toNat)
      case atStart => exact ⟨0, by omega, rfl, HF3.out, But.refl _ _ _, Nat.le_refl _⟩
      case round =>
      clear HF3
      obtain ⟨j, hj', rfl, hst, hbut, hsz⟩ := hrel
      obtain ⟨Z, rfl⟩ : ∃ X : World, X = wr := ⟨_, rfl⟩
      have HST := Lib.hid hst
      have HBUT := Lib.hid hbut
      have HSZ := Lib.hid hsz
      obtain ⟨x1, x3, xl, hbw⟩ := HLOW.out Z hst.low
      clear hst hbut hsz
      by_cases hjl : j < hl
      case neg =>
        obtain rfl : hl = j := by omega
        have HF4 := Lib.hid (show GSt W4 Z go gt m (dunF (nV T L n) (nF T L) (nB T L n) (nT T L) 0) (fun s => (nT T L s : Int)) from by
          rw [dunF_zero]
          have := HST.out
          rw [HHL.out, HEE.out] at this
          exact this)
        clear HST HBUT HSZ HOW HFA x1 x3 xl hbw hjl hj' hXY hgX
        go_wp2
        go_loopw [102] (fun i ws => ∃ j : Nat, j ≤ m ∧ i = .int .i64 j ∧ GSt W4 ws go gt m (dunF (nV T L n) (nF T L) (nB T L n) (nT T L) j) (fun s => (nT T L s : Int))) (fun i _ => m - (intOf i).toNat)
        case atStart => exact ⟨0, by omega, rfl, HF4.out⟩
        case round =>
        clear HF4
        obtain ⟨j, hj', rfl, hst⟩ := hrel
        obtain ⟨Z, rfl⟩ : ∃ X : World, X = wr := ⟨_, rfl⟩
        have HST := Lib.hid hst
        obtain ⟨-, -, -, hbw⟩ := HLOW.out Z hst.low
        have HBW := Lib.hid hbw
        clear hst hbw
        by_cases hjm : j < m
        case neg =>
          obtain rfl : m = j := by omega
          have HEND := Lib.hid (show RowIs Z go 64 (iv (genF T L n) (6 * m)) from by
            have := HST.out.row
            rw [iv_congr (h := genF T L n) (fun i hi => by unfold dunF genF; rw [if_pos (by omega)])] at this
            exact this)
          go_wp2
          go_ret
          exact ⟨go, rfl, HGO2.out, HEND.out, HBW.out⟩
        case pos =>
        obtain ⟨Z1, hZ1⟩ : ∃ Z1, Z1 = Z.drew := ⟨_, rfl⟩
        have HST1 := Lib.hid (show GSt W4 Z1 go gt m (dunF (nV T L n) (nF T L) (nB T L n) (nT T L) j) (fun s => (nT T L s : Int)) from by rw [hZ1]; exact HST.out.more (Below.refl _ _).drew)
        have bT : nT T L j ≤ 100000 := by
          have h1 := twn_le T L (3 * T.length) j
          have h2 := HL.out
          unfold nT
          omega
        have bV : nV T L n j ≤ 100000 := by have := cntK_le (shV T L) n j; unfold nV; omega
        have bF : nF T L j ≤ 100000 := by have := cntK_le L T.length j; have := HL.out; unfold nF; omega
        have bB : nB T L n j ≤ 100000 := by
          have := cntK_le (keyB T L n) (headsB (bordE T (3 * T.length)) n).length j
          have h2 := headsB_le (bordE T (3 * T.length)) n
          unfold nB
          omega
        have HDN := Lib.hid (done_any go (j * 6) (6 * m) (dunF (nV T L n) (nF T L) (nB T L n) (nT T L) j) (nV T L n j) (nF T L j) (nB T L n j) (nT T L j) Z1 HST1.out.row (by omega)
          (by have := dunF_here (nV T L n) (nF T L) (nB T L n) (nT T L) j 0 (by omega); rw [show 6 * j + 0 = 6 * j from rfl, numF_V, show 6 * j = j * 6 by omega] at this; exact this)
          (by have := dunF_here (nV T L n) (nF T L) (nB T L n) (nT T L) j 2 (by omega); rw [numF_F, show 6 * j + 2 = j * 6 + 2 by omega] at this; exact this)
          (by have := dunF_here (nV T L n) (nF T L) (nB T L n) (nT T L) j 3 (by omega); rw [numF_B, show 6 * j + 3 = j * 6 + 3 by omega] at this; exact this) bV bF bB bT)
        rw [show j * 6 + 1 = 6 * j + 1 by omega, show j * 6 + 4 = 6 * j + 4 by omega, show j * 6 + 5 = 6 * j + 5 by omega, dunF_step] at HDN
        have g0 := HST.out.tw.cell (iv_get (fun s => (nT T L s : Int)) hjm)
        obtain ⟨tj, htj⟩ : ∃ x, x = nT T L j := ⟨_, rfl⟩
        rw [← htj] at g0 HDN
        have HZ1 := Lib.hid hZ1
        clear bV bF bB bT htj hZ1
        go_upto_region 29 with fail
        go_still_tail 7, (by kernel_rfl)
        change wpList _ _ _ _ _ Z.drew
        rw [← HZ1.out]
        clear g0
        go_wp2_with fail
        refine HDN.out.mono ?_
        rintro e Z2 ⟨rfl, hg2, hr2⟩
        have HF := Lib.hid (show GSt W4 Z2 go gt m (dunF (nV T L n) (nF T L) (nB T L n) (nT T L) (j + 1)) (fun s => (nT T L s : Int)) from
          ⟨hr2, HST1.out.tw.grown hg2 (by have := HST1.out.ord; simp; omega), HST1.out.low.grown hg2 (by have := HST1.out.row.lt; omega) (fun q hq => by cases hq; omega), HST1.out.ord⟩)
        clear hg2 hr2 HDN HST HST1
        go_wp2
        go_roundw
        case rel => exact ⟨j + 1, by omega, by go_num, HF.out⟩
        case measure => simp [intOf]; omega
      case pos =>
      have hv0 : ∃ v0, (headsB E n)[j]? = some v0 := ⟨_, List.getElem?_eq_getElem (by rw [← HHL.out]; exact hjl)⟩
      obtain ⟨v0, hv0⟩ := hv0
      obtain ⟨hv0n, hv0m⟩ := headsB_mem.1 (List.mem_of_getElem? hv0)
      obtain ⟨tl, htl⟩ := orb_head (minB_iff.1 hv0m).1
      have hlj : (loopsL E n)[j]? = some ((v0 : Int) :: tl) := by rw [loopsL_heads, List.getElem?_map, hv0, ← htl]; rfl
      obtain ⟨ea, ec, hvs, hrow⟩ := HFA.out.2 j _ hlj
      obtain ⟨g1, cap1, e1, hg1, hg1l, -, -, hcell1, -⟩ := owns_block HOW.out (by omega)
      obtain ⟨g2, cap2, e2, hg2, hg2l, -, -, hcell2, -⟩ := owns_block hrow (by simp)
      simp only [Value.slice.injEq] at e1 e2
      obtain ⟨rfl, -, -⟩ := e1
      obtain ⟨rfl, -, -⟩ := e2
      have y1 := (HBUT.out.cell hg1l (by omega)).trans (hcell1 j _ hvs)
      have y2 := (HBUT.out.cell hg2l (by omega)).trans (hcell2 0 (.int .i64 (v0 : Int)) rfl)
      obtain ⟨el, hel⟩ : ∃ x, x = ((v0 : Int) :: tl).length := ⟨_, rfl⟩
      have hel0 : 0 < el := by rw [hel]; simp
      rw [← hel] at y1
      obtain ⟨s, hsm, hvs0⟩ := HVS.out v0 hv0n
      have HAT := Lib.hid (at_any b n v0 xb b3 gl T L Z HS.out (HTAB.out Z hbw).2 hv0n x1 (by rw [← HL.out]; exact x3) (by rw [← HL.out]; exact xl))
      rw [show L ((firstF T 0 v0).toNat / 3) = (s : Int) from hvs0] at HAT
      have HKB := Lib.hid (show keyB T L n j = (s : Int) from by
        unfold keyB
        rw [← HEE.out, List.getD_eq_getElem?_getD, hv0]
        exact hvs0)
      clear hbw xl hvs0 x1 x3 hv0 hv0m htl hlj hvs hrow hcell1 hcell2 hel
      go_wp2_with fail
      refine HAT.out.mono ?_
      rintro e Z2 ⟨rfl, hb2⟩
      have HST2 := Lib.hid (HST.out.more hb2)
      have HBUT2 := Lib.hid (HBUT.out.more hb2 HSZ.out)
      have HSZ2 := Lib.hid (show Y.heap.size ≤ Z2.heap.size from by have := hb2.size; have := HSZ.out; omega)
      have hcB := cntK_le (keyB T L n) j s
      have o0 := HST2.out.row.cell (iv_get (numF (nV T L n) (nF T L) (cntK (keyB T L n) j)) (show s * 6 + 3 < 6 * m by omega))
      rw [show s * 6 + 3 = 6 * s + 3 by omega, numF_B, show 6 * s + 3 = s * 6 + 3 by omega] at o0
      have of0 := HST2.out.row.free (s * 6 + 3)
      obtain ⟨f, hfc⟩ : ∃ f, f = cntK (keyB T L n) j s := ⟨_, rfl⟩
      rw [← hfc] at o0 hcB
      have HF := Lib.hid (show GSt W4 (Z2.setCell ⟨go, s * 6 + 3, none⟩ (.int .i64 ((f : Int) + 1))) go gt m (numF (nV T L n) (nF T L) (cntK (keyB T L n) (j + 1))) (fun s => (nT T L s : Int)) from by
        have := HST2.out.setO (s * 6 + 3) ((f : Int) + 1)
        rw [hfc, show s * 6 + 3 = 6 * s + 3 by omega, numF_upB _ _ _ (cntK (keyB T L n) (j + 1)) s (fun i => by
          rw [cntK_succ, HKB.out]
          by_cases e : i = s
          · rw [if_pos e, if_pos (by omega)]
          · rw [if_neg e, if_neg (by omega)])] at this
        rw [hfc, show s * 6 + 3 = 6 * s + 3 by omega]
        exact this)
      have HBUT3 := Lib.hid (show But Y.heap.size go Y (Z2.setCell ⟨go, s * 6 + 3, none⟩ (.int .i64 ((f : Int) + 1))) from HBUT2.out.grown (grown_set _ _ _ _) HSZ2.out (fun q hq => .inr (by cases hq; rfl)))
      have HSZ3 := Lib.hid (show Y.heap.size ≤ (Z2.setCell ⟨go, s * 6 + 3, none⟩ (.int .i64 ((f : Int) + 1))).heap.size from by have := (grown_set Z2 go (s * 6 + 3) (.int .i64 ((f : Int) + 1))).size; have := HSZ2.out; omega)
      clear hfc hb2 HST HST2 HAT y1 y2
      go_wp2
      go_roundw
      case rel => exact ⟨j + 1, by omega, by go_num, HF.out, HBUT3.out, HSZ3.out⟩
      case measure => simp [intOf]; omega
    case pos =>
    obtain ⟨s, hsm, hvs⟩ := HVS.out v hvn
    have HAT := Lib.hid (at_any b n v xb b3 gl T L X HS.out (HTAB.out X hbw).2 hvn x1 (by rw [← HL.out]; exact x3) (by rw [← HL.out]; exact xl))
    rw [show L ((firstF T 0 v).toNat / 3) = (s : Int) from hvs] at HAT
    have HKV := Lib.hid hvs
    clear hbw xl hvs x1 x3
    go_wp2_with fail
    refine HAT.out.mono ?_
    rintro e X2 ⟨rfl, hb2⟩
    have HST2 := Lib.hid (HST.out.more hb2)
    have hcV := cntK_le (shV T L) v s
    have o0 := HST2.out.row.cell (iv_get (numF (cntK (shV T L) v) (nF T L) (fun _ => 0)) (show s * 6 < 6 * m by omega))
    rw [show s * 6 = 6 * s by omega, numF_V, show 6 * s = s * 6 by omega] at o0
    have of0 := HST2.out.row.free (s * 6)
    obtain ⟨f, hfc⟩ : ∃ f, f = cntK (shV T L) v s := ⟨_, rfl⟩
    rw [← hfc] at o0 hcV
    have HF := Lib.hid (show GSt W4 (X2.setCell ⟨go, s * 6, none⟩ (.int .i64 ((f : Int) + 1))) go gt m (numF (cntK (shV T L) (v + 1)) (nF T L) (fun _ => 0)) (fun s => (nT T L s : Int)) from by
      have := HST2.out.setO (s * 6) ((f : Int) + 1)
      rw [hfc, show s * 6 = 6 * s by omega, numF_upV _ (cntK (shV T L) (v + 1)) _ _ s (fun j => by
        rw [cntK_succ, HKV.out]
        by_cases e : j = s
        · rw [if_pos e, if_pos (by omega)]
        · rw [if_neg e, if_neg (by omega)])] at this
      rw [hfc, show s * 6 = 6 * s by omega]
      exact this)
    clear hfc hb2 HST HST2 HAT
    go_wp2
    go_roundw
    case rel => exact ⟨v + 1, by omega, by go_num, HF.out⟩
    case measure => simp [intOf]; omega
  case pos =>
  obtain ⟨s, hsm, hls⟩ := HLS.out k hkl
  have l0 := xl.cell (iv_get L hkl)
  rw [hls] at l0
  have HLK := Lib.hid hls
  have hcF := cntK_le L k s
  have o0 := HST.out.row.cell (iv_get (numF (fun _ => 0) (cntK L k) (fun _ => 0)) (show s * 6 + 2 < 6 * m by omega))
  rw [show s * 6 + 2 = 6 * s + 2 by omega, numF_F, show 6 * s + 2 = s * 6 + 2 by omega] at o0
  have of0 := HST.out.row.free (s * 6 + 2)
  obtain ⟨f, hfc⟩ : ∃ f, f = cntK L k s := ⟨_, rfl⟩
  rw [← hfc] at o0 hcF
  obtain ⟨X1, hX1⟩ : ∃ X1, X1 = X.setCell ⟨go, s * 6 + 2, none⟩ (.int .i64 ((f : Int) + 1)) := ⟨_, rfl⟩
  have HST1 := Lib.hid (show GSt W4 X1 go gt m (numF (fun _ => 0) (cntK L (k + 1)) (fun _ => 0)) (fun s => (twn T L (3 * k + 0) s : Int)) from by
    have := HST.out.setO (s * 6 + 2) ((f : Int) + 1)
    rw [← hX1, hfc, show s * 6 + 2 = 6 * s + 2 by omega, numF_upF _ _ (cntK L (k + 1)) _ s (fun j => by
      rw [cntK_succ, HLK.out]
      by_cases e : j = s
      · rw [if_pos e, if_pos (by omega)]
      · rw [if_neg e, if_neg (by omega)])] at this
    exact this)
  have HX1 := Lib.hid hX1
  clear hX1 hls xl hfc HST
  go_upto_region 9 with fail
  rw [← HX1.out]
  obtain ⟨k3, hk3⟩ : ∃ a, a = 3 * k := ⟨_, rfl⟩
  have s0 : (3 : Int) * (k : Int) = (k3 : Int) := by omega
  have HK3 := Lib.hid hk3
  have hk3b : k3 + 3 ≤ 24576 := by omega
  have HST2 := Lib.hid (show GSt W4 X1 go gt m (numF (fun _ => 0) (cntK L (k + 1)) (fun _ => 0)) (fun s => (twn T L (k3 + 0) s : Int)) from by rw [hk3]; exact HST1.out)
  clear hk3 HST1 o0 of0 l0 x3
  go_wp2
  go_loopw [9] (fun j ws => ∃ q : Nat, q ≤ 3 ∧ j = .int .i64 ((k3 + q : Nat) : Int) ∧ GSt W4 ws go gt m (numF (fun _ => 0) (cntK L (k + 1)) (fun _ => 0)) (fun s => (twn T L (k3 + q) s : Int))) (fun j _ => k3 + 3 - (intOf j).toNat)
  case atStart => exact ⟨0, by omega, rfl, HST2.out⟩
  case round =>
  clear HST2 HX1
  obtain ⟨q, hq, rfl, hst⟩ := hrel
  obtain ⟨X, rfl⟩ : ∃ X : World, X = wr := ⟨_, rfl⟩
  have HST := Lib.hid hst
  clear hst
  by_cases hq3 : q < 3
  case neg =>
    have hqe : q = 3 := by omega
    have d0 : decide (((k3 + q : Nat) : Int) < (k3 : Int) + 3) = false := by simp; omega
    have HF := Lib.hid (show GSt W4 X go gt m (numF (fun _ => 0) (cntK L (k + 1)) (fun _ => 0)) (fun s => (twn T L (3 * (k + 1)) s : Int)) from by
      have := HST.out
      rw [hqe, HK3.out] at this
      exact this)
    clear hqe
    go_wp2
    go_roundw
    case rel => exact ⟨k + 1, by omega, by go_num, HF.out⟩
    case measure => simp [intOf]; omega
  case pos =>
  obtain ⟨c, hc⟩ : ∃ c, c = k3 + q := ⟨_, rfl⟩
  rw [← hc] at HST ⊢
  have d0 : decide ((c : Int) < (k3 : Int) + 3) = true := by simp; omega
  have hcs : L (c / 3) = (s : Int) := by
    have := HLK.out
    rw [show c / 3 = k by have := HK3.out; omega]
    exact this
  have HCS := Lib.hid hcs
  have htw := twn_le T L c s
  have g0 := HST.out.tw.cell (iv_get (fun s => (twn T L c s : Int)) hsm)
  have gf0 := HST.out.tw.free s
  obtain ⟨z, hz⟩ : ∃ z, z = twn T L c s := ⟨_, rfl⟩
  rw [← hz] at g0 htw
  obtain ⟨X2, hX2⟩ : ∃ X2, X2 = X.setCell ⟨gt, s, none⟩ (.int .i64 ((z : Int) + 1)) := ⟨_, rfl⟩
  have hst2 := HST.out.setT s ((z : Int) + 1)
  rw [← hX2] at hst2
  have HST2 := Lib.hid hst2
  have HX2 := Lib.hid hX2
  obtain ⟨x1, -, -, hbw⟩ := HLOW.out X2 hst2.low
  have HOP := Lib.hid (opp_any (c : Int) X2 b n T (HTAB.out X2 hbw).1 (by omega) (by have := HL.out; have := HK3.out; omega))
  have hcb : c ≤ 24576 := by omega
  have HZ := Lib.hid hz
  have HC := Lib.hid hc
  clear hX2 hst2 hbw hcs hz hc HST
  go_upto_region 13 with fail
  rw [← HX2.out]
  clear g0 gf0
  go_wp2_with fail
  refine HOP.out.mono ?_
  rintro e X3 ⟨rfl, hb3⟩
  have HST3 := Lib.hid (HST2.out.more hb3)
  obtain ⟨o, ho⟩ : ∃ o, o = opp T (c : Int) := ⟨_, rfl⟩
  rw [← ho]
  clear hb3 x1 HST2 HX2
  by_cases hneg : o < 0
  case neg =>
    have d1 : decide (o < 0) = false := by simpa using hneg
    have HF := Lib.hid (show GSt W4 X3 go gt m (numF (fun _ => 0) (cntK L (k + 1)) (fun _ => 0)) (fun s => (twn T L (k3 + (q + 1)) s : Int)) from by
      have := HST3.out
      rw [HZ.out, show ((twn T L c s : Int) + 1) = (twn T L c s : Int) + ((1 : Nat) : Int) from rfl, twn_upd HCS.out 1 (by rw [if_neg (by rw [← ho]; exact hneg)])] at this
      rw [show k3 + (q + 1) = c + 1 by have := HC.out; omega]
      exact this)
    have HC2 := Lib.hid (show (c : Int) + 1 = ((k3 + (q + 1) : Nat) : Int) from by have := HC.out; omega)
    clear hneg ho
    go_wp2
    go_roundw
    case rel => exact ⟨q + 1, by omega, by rw [HC2.out], HF.out⟩
    case measure => have := HC.out; simp [intOf]; omega
  case pos =>
  have d1 : decide (o < 0) = true := by simpa using hneg
  have g1 := HST3.out.tw.cell (iv_get _ hsm)
  rw [show upd (fun s => (twn T L c s : Int)) s ((z : Int) + 1) s = (z : Int) + 1 from by unfold upd; rw [if_pos rfl]] at g1
  have gf1 := HST3.out.tw.free s
  have HF := Lib.hid (show GSt W4 (X3.setCell ⟨gt, s, none⟩ (.int .i64 ((z : Int) + 1 + 1))) go gt m (numF (fun _ => 0) (cntK L (k + 1)) (fun _ => 0)) (fun s => (twn T L (k3 + (q + 1)) s : Int)) from by
    have := HST3.out.setT s ((z : Int) + 1 + 1)
    rw [show upd (upd (fun s => (twn T L c s : Int)) s ((z : Int) + 1)) s ((z : Int) + 1 + 1) = upd (fun s => (twn T L c s : Int)) s ((twn T L c s : Int) + ((2 : Nat) : Int)) from by
      funext j
      unfold upd
      by_cases e : j = s
      · rw [if_pos e, if_pos e, HZ.out]; omega
      · rw [if_neg e, if_neg e, if_neg e], twn_upd HCS.out 2 (by rw [if_pos (by rw [← ho]; exact hneg)])] at this
    rw [show k3 + (q + 1) = c + 1 by have := HC.out; omega]
    exact this)
  have HC2 := Lib.hid (show (c : Int) + 1 = ((k3 + (q + 1) : Nat) : Int) from by have := HC.out; omega)
  clear hneg ho
  go_wp2
  go_roundw
  case rel => exact ⟨q + 1, by omega, by rw [HC2.out], HF.out⟩
  case measure => have := HC.out; simp [intOf]; omega
/-- The sums of the first k shells' numbers. -/
def sumF (Φ : Nat → Int) : Nat → Nat → Int
  | 0, _ => 0
  | k + 1, j => sumF Φ k j + Φ (6 * k + j)
theorem genF_le {T : List Tr} {L : Nat → Int} {n : Nat} (hn : n ≤ 4096) (ht : T.length ≤ 8192) (i : Nat) : -300000 ≤ genF T L n i ∧ genF T L n i ≤ 300000 := by
  have h1 := cntK_le (shV T L) n (i / 6)
  have h2 := cntK_le L T.length (i / 6)
  have h3 := cntK_le (keyB T L n) (headsB (bordE T (3 * T.length)) n).length (i / 6)
  have h4 := headsB_le (bordE T (3 * T.length)) n
  have h5 := twn_le T L (3 * T.length) (i / 6)
  have e1 : nV T L n (i / 6) ≤ 4096 := by unfold nV; omega
  have e2 : nF T L (i / 6) ≤ 8192 := by unfold nF; omega
  have e3 : nB T L n (i / 6) ≤ 4096 := by unfold nB; omega
  have e4 : nT T L (i / 6) ≤ 49152 := by unfold nT; omega
  unfold genF finF
  dsimp only
  generalize nV T L n (i / 6) = a at e1 ⊢
  generalize nF T L (i / 6) = b at e2 ⊢
  generalize nB T L n (i / 6) = c at e3 ⊢
  generalize nT T L (i / 6) = d at e4 ⊢
  have ht : ∀ x : Int, -100000 ≤ x → x ≤ 100000 → -300000 ≤ x.tdiv 2 ∧ x.tdiv 2 ≤ 300000 := fun x h1 h2 => by
    rcases Int.le_total 0 x with h | h
    · rw [Int.tdiv_eq_ediv_of_nonneg h]; omega
    · have := Int.neg_tdiv x 2
      have h3 : (-x).tdiv 2 = (-x) / 2 := Int.tdiv_eq_ediv_of_nonneg (by omega)
      omega
  have := ht ((2 : Int) - (c : Int) - ((a : Int) - ((d / 2 : Nat) : Int) + (b : Int))) (by omega) (by omega)
  repeat' split
  all_goals omega
theorem sumF_le {Φ : Nat → Int} (h : ∀ i, -300000 ≤ Φ i ∧ Φ i ≤ 300000) (j : Nat) : ∀ k : Nat, -300000 * (k : Int) ≤ sumF Φ k j ∧ sumF Φ k j ≤ 300000 * (k : Int)
  | 0 => by simp [sumF]
  | k + 1 => by
    have h1 := sumF_le h j k
    have h2 := h (6 * k + j)
    unfold sumF
    constructor <;> omega
set_option maxRecDepth 100000 in
set_option maxHeartbeats 4000000 in
theorem whole_ok (b n m : Nat) (T : List Tr) (L : Nat → Int) (w : World) (h : Tab w b n T) (hf : FirstAt w b T n) (hs : Surf n T) (hL : IsShells (Adj T) T.length L) (hm : (m : Int) = cnt L T.length) :
    Calls Tryz.prog 34 #[.pointer (some ⟨b, 0, none⟩)] w fun e w' => e = .returned (.agg #[.int .i64 (sumF (genF T L n) m 0), .int .i64 (sumF (genF T L n) m 1), .int .i64 (sumF (genF T L n) m 2), .int .i64 (sumF (genF T L n) m 3), .int .i64 (sumF (genF T L n) m 4), .int .i64 (sumF (genF T L n) m 5)]) ∧ Below w.heap.size w w' := by
  obtain ⟨W0, hW0⟩ : ∃ W0, W0 = (w.alloc (.cells #[.int .i64 0, .int .i64 0, .int .i64 0, .int .i64 0, .int .i64 0, .int .i64 0] 64)).alloc (.cells #[.int .i64 0, .int .i64 0, .int .i64 0, .int .i64 0, .int .i64 0, .int .i64 0] 64) := ⟨_, rfl⟩
  have hb0 : Below w.heap.size w W0 := by rw [hW0]; exact ((Below.refl _ _).alloc (Nat.le_refl _) _).alloc (by simp) _
  have hr0 : RowIs W0 w.heap.size 64 (iv (fun _ => 0) 6) := by rw [hW0]; exact (RowIs.made w 64 (iv (fun _ => 0) 6)).alloc _
  have hr1 : RowIs W0 (w.heap.size + 1) 64 (iv (fun _ => 0) 6) := by rw [hW0]; exact RowIs.made' _ _ (iv (fun _ => 0) 6) _ (by simp)
  have hn4 : n ≤ 4096 := by have := hs.n1; omega
  have ht8 := hs.t1
  have hmle : m ≤ 8192 := by have := hL.cnt_le; omega
  have HG := Lib.hid (genus_of b n m T L W0 (h.mono (Nat.le_refl _) hb0) (hf.mono (Nat.le_refl _) hb0) hs hL hm)
  obtain ⟨Φ, hΦ⟩ : ∃ Φ, Φ = genF T L n := ⟨_, rfl⟩
  have HLE := Lib.hid (show ∀ i, -300000 ≤ Φ i ∧ Φ i ≤ 300000 from fun i => by rw [hΦ]; exact genF_le hn4 ht8 i)
  rw [← hΦ] at HG ⊢
  have HB0 := Lib.hid hb0
  have HR0 := Lib.hid hr0
  have HR1 := Lib.hid hr1
  have HW0 := Lib.hid hW0
  obtain ⟨xb, hxb⟩ : ∃ x, x = w.heap.size := ⟨_, rfl⟩
  rw [← hxb] at HR0 HR1
  have HXB := Lib.hid hxb
  clear h hf hs hL hm hb0 hr0 hr1 hW0 hΦ ht8 hxb
  go_enter Tryz.func34, Tryz.ntmps34
  go_upto_region 2 with fail
  simp only [← HXB.out]
  rw [← HW0.out]
  go_wp2_with fail
  refine HG.out.mono ?_
  rintro e W1 ⟨go, rfl, hgo, hro, hb1⟩
  have HRO := Lib.hid hro
  have HB1 := Lib.hid hb1
  have hx0 := (HR0.out.lt)
  have hx1 := HR1.out.lt
  have HROW1 := Lib.hid (HR1.out.after hb1)
  have HROW0 := Lib.hid (HR0.out.after hb1)
  have hlt := hro.lt
  clear hro hb1 HG
  go_wp2
  go_loopw [9] (fun i ws => ∃ k : Nat, k ≤ m ∧ i = .int .i64 k ∧ RowIs ws (xb + 1) 64 (iv (sumF Φ k) 6) ∧ But W1.heap.size (xb + 1) W1 ws ∧ W1.heap.size ≤ ws.heap.size) (fun i _ => m - (intOf i).toNat)
  case atStart => exact ⟨0, by omega, rfl, HROW1.out, But.refl _ _ _, Nat.le_refl _⟩
  case round =>
  obtain ⟨k, hk, rfl, hrow, hbut, hsz⟩ := hrel
  obtain ⟨X, rfl⟩ : ∃ X : World, X = wr := ⟨_, rfl⟩
  have HROW := Lib.hid hrow
  have HBUT := Lib.hid hbut
  have HSZ := Lib.hid hsz
  clear hrow hbut hsz
  by_cases hkm : k < m
  case neg =>
    obtain rfl : m = k := by omega
    obtain ⟨s0, hs0⟩ : ∃ x, x = sumF Φ m 0 := ⟨_, rfl⟩
    have p0 := HROW.out.cell (iv_get (sumF Φ m) (show 0 < 6 by omega))
    rw [← hs0] at p0
    have HQ0 := Lib.hid hs0
    obtain ⟨s1, hs1⟩ : ∃ x, x = sumF Φ m 1 := ⟨_, rfl⟩
    have p1 := HROW.out.cell (iv_get (sumF Φ m) (show 1 < 6 by omega))
    rw [← hs1] at p1
    have HQ1 := Lib.hid hs1
    obtain ⟨s2, hs2⟩ : ∃ x, x = sumF Φ m 2 := ⟨_, rfl⟩
    have p2 := HROW.out.cell (iv_get (sumF Φ m) (show 2 < 6 by omega))
    rw [← hs2] at p2
    have HQ2 := Lib.hid hs2
    obtain ⟨s3, hs3⟩ : ∃ x, x = sumF Φ m 3 := ⟨_, rfl⟩
    have p3 := HROW.out.cell (iv_get (sumF Φ m) (show 3 < 6 by omega))
    rw [← hs3] at p3
    have HQ3 := Lib.hid hs3
    obtain ⟨s4, hs4⟩ : ∃ x, x = sumF Φ m 4 := ⟨_, rfl⟩
    have p4 := HROW.out.cell (iv_get (sumF Φ m) (show 4 < 6 by omega))
    rw [← hs4] at p4
    have HQ4 := Lib.hid hs4
    obtain ⟨s5, hs5⟩ : ∃ x, x = sumF Φ m 5 := ⟨_, rfl⟩
    have p5 := HROW.out.cell (iv_get (sumF Φ m) (show 5 < 6 by omega))
    rw [← hs5] at p5
    have HQ5 := Lib.hid hs5
    have hr0 := HBUT.out.row HROW0.out (by have := HROW0.out.lt; exact this) (by omega)
    have z0 := hr0.cell (iv_get (fun _ => 0) (show 0 < 6 by omega))
    have z1 := hr0.cell (iv_get (fun _ => 0) (show 1 < 6 by omega))
    have z2 := hr0.cell (iv_get (fun _ => 0) (show 2 < 6 by omega))
    have z3 := hr0.cell (iv_get (fun _ => 0) (show 3 < 6 by omega))
    have z4 := hr0.cell (iv_get (fun _ => 0) (show 4 < 6 by omega))
    have z5 := hr0.cell (iv_get (fun _ => 0) (show 5 < 6 by omega))
    have zf := fun i => hr0.free i
    have hrF := ((((((hr0.set 0 (.int .i64 s0)).set 1 (.int .i64 s1)).set 2 (.int .i64 s2)).set 3 (.int .i64 s3)).set 4 (.int .i64 s4)).set 5 (.int .i64 s5))
    rw [iv_set, iv_set, iv_set, iv_set, iv_set, iv_set] at hrF
    have y0 := hrF.cell (iv_get _ (show 0 < 6 by omega))
    rw [show upd (upd (upd (upd (upd (upd (fun _ => 0) 0 s0) 1 s1) 2 s2) 3 s3) 4 s4) 5 s5 0 = s0 from by simp [upd]] at y0
    have y1 := hrF.cell (iv_get _ (show 1 < 6 by omega))
    rw [show upd (upd (upd (upd (upd (upd (fun _ => 0) 0 s0) 1 s1) 2 s2) 3 s3) 4 s4) 5 s5 1 = s1 from by simp [upd]] at y1
    have y2 := hrF.cell (iv_get _ (show 2 < 6 by omega))
    rw [show upd (upd (upd (upd (upd (upd (fun _ => 0) 0 s0) 1 s1) 2 s2) 3 s3) 4 s4) 5 s5 2 = s2 from by simp [upd]] at y2
    have y3 := hrF.cell (iv_get _ (show 3 < 6 by omega))
    rw [show upd (upd (upd (upd (upd (upd (fun _ => 0) 0 s0) 1 s1) 2 s2) 3 s3) 4 s4) 5 s5 3 = s3 from by simp [upd]] at y3
    have y4 := hrF.cell (iv_get _ (show 4 < 6 by omega))
    rw [show upd (upd (upd (upd (upd (upd (fun _ => 0) 0 s0) 1 s1) 2 s2) 3 s3) 4 s4) 5 s5 4 = s4 from by simp [upd]] at y4
    have y5 := hrF.cell (iv_get _ (show 5 < 6 by omega))
    rw [show upd (upd (upd (upd (upd (upd (fun _ => 0) 0 s0) 1 s1) 2 s2) 3 s3) 4 s4) 5 s5 5 = s5 from by simp [upd]] at y5
    have HBF := Lib.hid (show Below w.heap.size w ((((((X.setCell ⟨xb, 0, none⟩ (.int .i64 s0)).setCell ⟨xb, 1, none⟩ (.int .i64 s1)).setCell ⟨xb, 2, none⟩ (.int .i64 s2)).setCell ⟨xb, 3, none⟩ (.int .i64 s3)).setCell ⟨xb, 4, none⟩ (.int .i64 s4)).setCell ⟨xb, 5, none⟩ (.int .i64 s5)) from by
      have hbw : Below xb w X := by
        rw [HXB.out]
        exact (below_more HB0.out HB1.out HB0.out.size).trans (HBUT.out.below (by rw [← HXB.out]; omega) (by rw [← HXB.out]; omega))
      rw [HXB.out] at hbw ⊢
      exact (((((hbw.setCell (p := ⟨w.heap.size, 0, none⟩) (Nat.le_refl _) _).setCell (p := ⟨w.heap.size, 1, none⟩) (Nat.le_refl _) _).setCell (p := ⟨w.heap.size, 2, none⟩) (Nat.le_refl _) _).setCell (p := ⟨w.heap.size, 3, none⟩) (Nat.le_refl _) _).setCell (p := ⟨w.heap.size, 4, none⟩) (Nat.le_refl _) _).setCell (p := ⟨w.heap.size, 5, none⟩) (Nat.le_refl _) _)
    clear hs0 hs1 hs2 hs3 hs4 hs5 hr0 hrF
    go_wp2
    exact bodyPost_ret (v := .agg #[.int .i64 s0, .int .i64 s1, .int .i64 s2, .int .i64 s3, .int .i64 s4, .int .i64 s5]) (by simp [results, Tryz.results34, go_sem, y0, y1, y2, y3, y4, y5]) rfl ⟨by rw [HQ0.out, HQ1.out, HQ2.out, HQ3.out, HQ4.out, HQ5.out], HBF.out⟩
  case pos =>
  have hro := HBUT.out.row HRO.out hlt (by omega)
  have p0 := hro.cell (iv_get Φ (show k * 6 < 6 * m by omega))
  have p1 := hro.cell (iv_get Φ (show k * 6 + 1 < 6 * m by omega))
  have p2 := hro.cell (iv_get Φ (show k * 6 + 2 < 6 * m by omega))
  have p3 := hro.cell (iv_get Φ (show k * 6 + 3 < 6 * m by omega))
  have p4 := hro.cell (iv_get Φ (show k * 6 + 4 < 6 * m by omega))
  have p5 := hro.cell (iv_get Φ (show k * 6 + 5 < 6 * m by omega))
  obtain ⟨f0, hf0⟩ : ∃ x, x = Φ (k * 6) := ⟨_, rfl⟩
  obtain ⟨f1, hf1⟩ : ∃ x, x = Φ (k * 6 + 1) := ⟨_, rfl⟩
  obtain ⟨f2, hf2⟩ : ∃ x, x = Φ (k * 6 + 2) := ⟨_, rfl⟩
  obtain ⟨f3, hf3⟩ : ∃ x, x = Φ (k * 6 + 3) := ⟨_, rfl⟩
  obtain ⟨f4, hf4⟩ : ∃ x, x = Φ (k * 6 + 4) := ⟨_, rfl⟩
  obtain ⟨f5, hf5⟩ : ∃ x, x = Φ (k * 6 + 5) := ⟨_, rfl⟩
  rw [← hf0] at p0
  rw [← hf1] at p1
  rw [← hf2] at p2
  rw [← hf3] at p3
  rw [← hf4] at p4
  rw [← hf5] at p5
  obtain ⟨X1, hX1⟩ : ∃ X1, X1 = X.alloc (.cells #[.int .i64 f0, .int .i64 f1, .int .i64 f2, .int .i64 f3, .int .i64 f4, .int .i64 f5] 64) := ⟨_, rfl⟩
  have hbX : Below X.heap.size X X1 := by rw [hX1]; exact (Below.refl _ _).alloc (Nat.le_refl _) _
  have hrX : RowIs X1 X.heap.size 64 [.int .i64 f0, .int .i64 f1, .int .i64 f2, .int .i64 f3, .int .i64 f4, .int .i64 f5] := by rw [hX1]; exact RowIs.made X 64 [.int .i64 f0, .int .i64 f1, .int .i64 f2, .int .i64 f3, .int .i64 f4, .int .i64 f5]
  have HX1 := Lib.hid hX1
  have HF0 := Lib.hid hf0
  have bf0 := HLE.out (k * 6)
  have HF1 := Lib.hid hf1
  have bf1 := HLE.out (k * 6 + 1)
  have HF2 := Lib.hid hf2
  have bf2 := HLE.out (k * 6 + 2)
  have HF3 := Lib.hid hf3
  have bf3 := HLE.out (k * 6 + 3)
  have HF4 := Lib.hid hf4
  have bf4 := HLE.out (k * 6 + 4)
  have HF5 := Lib.hid hf5
  have bf5 := HLE.out (k * 6 + 5)
  rw [← hf0] at bf0
  rw [← hf1] at bf1
  rw [← hf2] at bf2
  rw [← hf3] at bf3
  rw [← hf4] at bf4
  rw [← hf5] at bf5
  have hkm8 : k ≤ 8191 := by omega
  have o0 := (HROW.out.after hbX).cell (iv_get (sumF Φ k) (show 0 < 6 by omega))
  obtain ⟨s0, hs0⟩ : ∃ x, x = sumF Φ k 0 := ⟨_, rfl⟩
  rw [← hs0] at o0
  have bs0 := sumF_le HLE.out 0 k
  rw [← hs0] at bs0
  have HS0 := Lib.hid hs0
  have o1 := (HROW.out.after hbX).cell (iv_get (sumF Φ k) (show 1 < 6 by omega))
  obtain ⟨s1, hs1⟩ : ∃ x, x = sumF Φ k 1 := ⟨_, rfl⟩
  rw [← hs1] at o1
  have bs1 := sumF_le HLE.out 1 k
  rw [← hs1] at bs1
  have HS1 := Lib.hid hs1
  have o2 := (HROW.out.after hbX).cell (iv_get (sumF Φ k) (show 2 < 6 by omega))
  obtain ⟨s2, hs2⟩ : ∃ x, x = sumF Φ k 2 := ⟨_, rfl⟩
  rw [← hs2] at o2
  have bs2 := sumF_le HLE.out 2 k
  rw [← hs2] at bs2
  have HS2 := Lib.hid hs2
  have o3 := (HROW.out.after hbX).cell (iv_get (sumF Φ k) (show 3 < 6 by omega))
  obtain ⟨s3, hs3⟩ : ∃ x, x = sumF Φ k 3 := ⟨_, rfl⟩
  rw [← hs3] at o3
  have bs3 := sumF_le HLE.out 3 k
  rw [← hs3] at bs3
  have HS3 := Lib.hid hs3
  have o4 := (HROW.out.after hbX).cell (iv_get (sumF Φ k) (show 4 < 6 by omega))
  obtain ⟨s4, hs4⟩ : ∃ x, x = sumF Φ k 4 := ⟨_, rfl⟩
  rw [← hs4] at o4
  have bs4 := sumF_le HLE.out 4 k
  rw [← hs4] at bs4
  have HS4 := Lib.hid hs4
  have o5 := (HROW.out.after hbX).cell (iv_get (sumF Φ k) (show 5 < 6 by omega))
  obtain ⟨s5, hs5⟩ : ∃ x, x = sumF Φ k 5 := ⟨_, rfl⟩
  rw [← hs5] at o5
  have bs5 := sumF_le HLE.out 5 k
  rw [← hs5] at bs5
  have HS5 := Lib.hid hs5
  have q0 := hrX.cell (i := 0) rfl
  have q1 := hrX.cell (i := 1) rfl
  have q2 := hrX.cell (i := 2) rfl
  have q3 := hrX.cell (i := 3) rfl
  have q4 := hrX.cell (i := 4) rfl
  have q5 := hrX.cell (i := 5) rfl
  have a0 : -4000000000 ≤ s0 ∧ s0 ≤ 4000000000 := by omega
  have c0 : -300000 ≤ f0 ∧ f0 ≤ 300000 := bf0
  have a1 : -4000000000 ≤ s1 ∧ s1 ≤ 4000000000 := by omega
  have c1 : -300000 ≤ f1 ∧ f1 ≤ 300000 := bf1
  have a2 : -4000000000 ≤ s2 ∧ s2 ≤ 4000000000 := by omega
  have c2 : -300000 ≤ f2 ∧ f2 ≤ 300000 := bf2
  have a3 : -4000000000 ≤ s3 ∧ s3 ≤ 4000000000 := by omega
  have c3 : -300000 ≤ f3 ∧ f3 ≤ 300000 := bf3
  have a4 : -4000000000 ≤ s4 ∧ s4 ≤ 4000000000 := by omega
  have c4 : -300000 ≤ f4 ∧ f4 ≤ 300000 := bf4
  have a5 : -4000000000 ≤ s5 ∧ s5 ≤ 4000000000 := by omega
  have c5 : -300000 ≤ f5 ∧ f5 ≤ 300000 := bf5
  have of := fun i => (HROW.out.after hbX).free i
  obtain ⟨X2, hX2⟩ : ∃ X2, X2 = ((((((X1.setCell ⟨xb + 1, 0, none⟩ (.int .i64 (s0 + f0))).setCell ⟨xb + 1, 1, none⟩ (.int .i64 (s1 + f1))).setCell ⟨xb + 1, 2, none⟩ (.int .i64 (s2 + f2))).setCell ⟨xb + 1, 3, none⟩ (.int .i64 (s3 + f3))).setCell ⟨xb + 1, 4, none⟩ (.int .i64 (s4 + f4))).setCell ⟨xb + 1, 5, none⟩ (.int .i64 (s5 + f5))) := ⟨_, rfl⟩
  have HX2 := Lib.hid hX2
  have HR2 := Lib.hid (show RowIs X2 (xb + 1) 64 (iv (sumF Φ (k + 1)) 6) from by
    have h0 := (((((((HROW.out.after hbX).set 0 (.int .i64 (s0 + f0))).set 1 (.int .i64 (s1 + f1))).set 2 (.int .i64 (s2 + f2))).set 3 (.int .i64 (s3 + f3))).set 4 (.int .i64 (s4 + f4))).set 5 (.int .i64 (s5 + f5)))
    rw [iv_set, iv_set, iv_set, iv_set, iv_set, iv_set] at h0
    rw [hX2, iv_congr (h := upd (upd (upd (upd (upd (upd (sumF Φ k) 0 (s0 + f0)) 1 (s1 + f1)) 2 (s2 + f2)) 3 (s3 + f3)) 4 (s4 + f4)) 5 (s5 + f5)) (fun i hi => ?_)]
    · exact h0
    · unfold upd
      match i, hi with
      | 0, _ => simp [sumF, hs0, hf0, Nat.mul_comm]
      | 1, _ => simp [sumF, hs1, hf1, Nat.mul_comm]
      | 2, _ => simp [sumF, hs2, hf2, Nat.mul_comm]
      | 3, _ => simp [sumF, hs3, hf3, Nat.mul_comm]
      | 4, _ => simp [sumF, hs4, hf4, Nat.mul_comm]
      | 5, _ => simp [sumF, hs5, hf5, Nat.mul_comm])
  have hb1' := HBUT.out.more hbX HSZ.out
  have HB2 := Lib.hid (show But W1.heap.size (xb + 1) W1 X2 ∧ W1.heap.size ≤ X2.heap.size from by
    have hg := grown_tr (grown_tr (grown_tr (grown_tr (grown_tr (grown_set X1 (xb + 1) 0 (.int .i64 (s0 + f0))) (grown_set _ (xb + 1) 1 (.int .i64 (s1 + f1)))) (grown_set _ (xb + 1) 2 (.int .i64 (s2 + f2)))) (grown_set _ (xb + 1) 3 (.int .i64 (s3 + f3)))) (grown_set _ (xb + 1) 4 (.int .i64 (s4 + f4)))) (grown_set _ (xb + 1) 5 (.int .i64 (s5 + f5)))
    rw [← hX2] at hg
    have h1 := hbX.size
    have h2 := HSZ.out
    exact ⟨hb1'.grown hg (by omega) (fun q hq => .inr (by cases hq; rfl)), by have := hg.size; omega⟩)
  clear hf0 hs0 bf0 bs0 hf1 hs1 bf1 bs1 hf2 hs2 bf2 bs2 hf3 hs3 bf3 bs3 hf4 hs4 bf4 bs4 hf5 hs5 bf5 bs5 hX1 hX2 hbX hrX hro hb1'
  go_upto_region 5 with fail
  rw [← HX1.out]
  go_upto_region 6 with fail
  rw [← HX2.out]
  go_wp2
  go_roundw
  case rel => exact ⟨k + 1, by omega, by go_num, HR2.out, HB2.out.1, HB2.out.2⟩
  case measure => simp [intOf]; omega
set_option maxRecDepth 100000 in
set_option maxHeartbeats 1000000 in
theorem of_nil (w : World) : Calls Tryz.prog 72 #[.pointer none] w fun e w' => ∃ g, e = .returned (.slice (some ⟨g, 0, none⟩) 0 0) ∧ Below w.heap.size w w' := by
  obtain ⟨i0, hi, hz0, hz1, hz2⟩ := info_parts info3
  go_enter Tryz.func72, Tryz.ntmps72
  go_wp2_with fail
  refine (triangles_nil _).mono ?_
  rintro e w1 ⟨rfl, rfl⟩
  go_wp2_with (at_make; refine wpList_make_full _ rfl _ _ _ rfl w.heap.size 3 i0 (.int .i64 0) 1 (by kernel_rfl) hi hz0 hz1 _ _ _ _ 0 rfl rfl rfl rfl (by rw [hz2]; omega) (by unfold maxLen; omega) (Nat.le_refl _) ?_)
  intro w1 hown hgrow
  have HB1 := Lib.hid (show Below w.heap.size w w1 from (Below.refl _ _).grown hgrow (Nat.le_refl _) (by simp))
  clear hown hgrow hi hz0 hz1 hz2
  go_wp2
  go_loopw [16, 4] (fun i _ ws => i = .int .i64 0 ∧ ws = w1) (fun _ _ _ => 0)
  case atStart => exact ⟨rfl, rfl⟩
  case round =>
    obtain ⟨rfl, rfl⟩ := hrel
    obtain ⟨w1, rfl⟩ : ∃ w1 : World, w1 = wr := ⟨_, rfl⟩
    go_wp2
    go_loopw [25, 5] (fun i _ ws => i = .int .i64 0 ∧ ws = w1) (fun _ _ _ => 0)
    case atStart => exact ⟨rfl, rfl⟩
    case round =>
      obtain ⟨rfl, rfl⟩ := hrel
      go_wp2
      exact bodyPost_ret (v := .slice (some ⟨w.heap.size, 0, none⟩) 0 0) (by simp [results, Tryz.results72, go_sem]) rfl ⟨_, rfl, HB1.out⟩
set_option maxRecDepth 100000 in
set_option maxHeartbeats 1000000 in
theorem count_nil (w : World) : Calls Tryz.prog 70 #[.pointer none] w fun e w' => e = .returned (.int .i64 0) ∧ Below w.heap.size w w' := by
  go_enter Tryz.func70, Tryz.ntmps70
  go_wp2_with fail
  refine (of_nil _).mono ?_
  rintro e w1 ⟨g, rfl, hb⟩
  have HB1 := Lib.hid hb
  clear hb
  go_wp2
  go_loopw [9, 3] (fun i v ws => i = .int .i64 0 ∧ v = .int .i64 0 ∧ ws = w1) (fun _ _ _ => 0)
  case atStart => exact ⟨rfl, rfl, rfl⟩
  case round =>
    obtain ⟨rfl, rfl, rfl⟩ := hrel
    go_wp2
    exact bodyPost_ret (v := .int .i64 0) (by simp [results, Tryz.results70, go_sem]) rfl ⟨rfl, HB1.out⟩
set_option maxHeartbeats 400000 in
theorem vertices_nil (w : World) : Calls Tryz.prog 75 #[.pointer none] w fun e w' => e = .returned (.int .i64 0) ∧ w = w' := by
  go_enter Tryz.func75, Tryz.ntmps75
  go_wp2
  go_ret
  exact ⟨rfl, rfl⟩
set_option maxHeartbeats 400000 in
theorem loops_nil (w : World) : Calls Tryz.prog 76 #[.pointer none] w fun e w' => e = .returned (.slice none 0 0) ∧ w = w' := by
  go_enter Tryz.func76, Tryz.ntmps76
  go_wp2
  go_ret
  exact ⟨rfl, rfl⟩
set_option maxRecDepth 100000 in
set_option maxHeartbeats 2000000 in
theorem genus_nil (w : World) : Calls Tryz.prog 33 #[.pointer none] w fun e w' => ∃ g, e = .returned (.slice (some ⟨g, 0, none⟩) 0 0) ∧ w.heap.size ≤ g ∧ g < w'.heap.size ∧ Below w.heap.size w w' := by
  obtain ⟨i0, hi, hz0, hz1, hz2⟩ := info_parts info3
  obtain ⟨j0, hj, hy0, hy1, hy2⟩ := info_parts infoNum
  obtain ⟨W0, hW0⟩ : ∃ W0, W0 = w.alloc (.cells #[.pointer none] 26) := ⟨_, rfl⟩
  have hb0 : Below w.heap.size w W0 := by rw [hW0]; exact (Below.refl _ _).alloc (Nat.le_refl _) _
  have hr0 : RowIs W0 w.heap.size 26 [.pointer none] := by rw [hW0]; exact RowIs.made w 26 [.pointer none]
  have HB0 := Lib.hid hb0
  have HR0 := Lib.hid hr0
  have HW0 := Lib.hid hW0
  obtain ⟨xb, hxb⟩ : ∃ x, x = w.heap.size := ⟨_, rfl⟩
  rw [← hxb] at HR0
  have HXB := Lib.hid hxb
  clear hb0 hr0 hW0 hxb
  go_enter Tryz.func33, Tryz.ntmps33
  go_upto_region 1 with fail
  rw [← HW0.out, ← HXB.out]
  have c0 := HR0.out.cell (i := 0) rfl
  go_wp2_with fail
  refine (of_nil _).mono ?_
  rintro e w1 ⟨gl, rfl, hb1⟩
  obtain ⟨W1, hW1⟩ : ∃ W1, W1 = w1.alloc (.cells #[.slice (some ⟨gl, 0, none⟩) 0 0] 28) := ⟨_, rfl⟩
  have hb11 : Below w1.heap.size w1 W1 := by rw [hW1]; exact (Below.refl _ _).alloc (Nat.le_refl _) _
  obtain ⟨b3, hb3⟩ : ∃ x, x = w1.heap.size := ⟨_, rfl⟩
  have HR3 := Lib.hid (show RowIs W1 b3 28 [.slice (some ⟨gl, 0, none⟩) 0 0] from by rw [hW1, hb3]; exact RowIs.made w1 28 [.slice (some ⟨gl, 0, none⟩) 0 0])
  have HB01 := Lib.hid (below_more hb1 hb11 hb1.size)
  have HR01 := Lib.hid (HR0.out.after HB01.out)
  have HBW1 := Lib.hid (below_more HB0.out HB01.out HB0.out.size)
  have HW1 := Lib.hid hW1
  have HB3 := Lib.hid hb3
  have c1 := HR01.out.cell (i := 0) rfl
  clear hW1 hb11 hb3 hb1 c0
  go_upto_region 2 with fail
  rw [← HW1.out, ← HB3.out]
  go_wp2_with fail
  refine (count_nil _).mono ?_
  rintro e w2 ⟨rfl, hb2⟩
  have HB12 := Lib.hid hb2
  clear c1 hb2
  go_wp2_with (at_make; refine wpList_make_full _ rfl _ _ _ rfl w2.heap.size 64 j0 (.agg #[.int .i64 0, .int .i64 0, .int .i64 0, .int .i64 0, .int .i64 0, .int .i64 0]) 6 (by kernel_rfl) hj hy0 hy1 _ _ _ _ 0 rfl rfl rfl rfl (by rw [hy2]; omega) (by unfold maxLen; omega) (Nat.le_refl _) ?_)
  intro w3 hown hgr
  have hb23 : Below w2.heap.size w2 w3 := (Below.refl _ _).grown hgr (Nat.le_refl _) (by simp)
  have hlt3 : w2.heap.size < w3.heap.size := (RowIs.of_owns hown).lt
  obtain ⟨go, hgo⟩ : ∃ g, g = w2.heap.size := ⟨_, rfl⟩
  rw [← hgo] at hlt3 ⊢
  have HB23 := Lib.hid hb23
  have HGO := Lib.hid hgo
  clear hown hgr hb23 hgo
  go_upto_region 3 with fail
  go_wp2_with (at_make; refine wpList_make_full _ rfl _ _ _ rfl w3.heap.size 3 i0 (.int .i64 0) 1 (by kernel_rfl) hi hz0 hz1 _ _ _ _ 0 rfl rfl rfl rfl (by rw [hz2]; omega) (by unfold maxLen; omega) (by simp) ?_)
  intro W4 hown hgr
  have hb34 : Below w3.heap.size w3 W4 := (Below.refl _ _).grown hgr (Nat.le_refl _) (by simp)
  have hb14 : Below W1.heap.size W1 W4 := below_more HB12.out (below_more HB23.out hb34 (by have := HB23.out.size; omega)) HB12.out.size
  have q1 := (HR01.out.after hb14).cell (i := 0) rfl
  have q3 := (HR3.out.after hb14).cell (i := 0) rfl
  have HF := Lib.hid (below_more HBW1.out hb14 HBW1.out.size)
  have hlt4 : go < W4.heap.size := by have := hb34.size; omega
  have hgow : w.heap.size ≤ go := by rw [HGO.out]; have := HBW1.out.size; have := HB12.out.size; omega
  obtain ⟨gt, hgt⟩ : ∃ g, g = w3.heap.size := ⟨_, rfl⟩
  rw [← hgt]
  have HGW := Lib.hid hgow
  have HL4 := Lib.hid hlt4
  clear hown hgr hb34 hb14 hgt hlt3 hlt4 hgow HB01 HB12 HB23
  go_upto_region 6 with fail
  go_loopw [25] (fun i ws => i = .int .i64 0 ∧ ws = W4) (fun i _ => 0)
  case atStart => exact ⟨rfl, rfl⟩
  case round =>
  obtain ⟨rfl, hws⟩ := hrel
  rw [hws]
  clear hws
  go_wp2_with fail
  refine (vertices_nil _).mono ?_
  rintro e w5 ⟨rfl, hw5⟩
  rw [← hw5]
  clear hw5
  go_wp2
  go_loopw [66] (fun i ws => i = .int .i64 0 ∧ ws = W4) (fun i _ => 0)
  case atStart => exact ⟨rfl, rfl⟩
  case round =>
  obtain ⟨rfl, hws⟩ := hrel
  rw [hws]
  clear hws
  go_wp2_with fail
  refine (loops_nil _).mono ?_
  rintro e w5 ⟨rfl, hw5⟩
  rw [← hw5]
  clear hw5
  go_wp2
  go_loopw [83] (fun i ws => i = .int .i64 0 ∧ ws = W4) (fun i _ => 0)
  case atStart => exact ⟨rfl, rfl⟩
  case round =>
  obtain ⟨rfl, hws⟩ := hrel
  rw [hws]
  clear hws
  go_wp2
  go_loopw [102] (fun i ws => i = .int .i64 0 ∧ ws = W4) (fun i _ => 0)
  case atStart => exact ⟨rfl, rfl⟩
  case round =>
  obtain ⟨rfl, hws⟩ := hrel
  rw [hws]
  clear hws
  go_wp2
  go_ret
  exact ⟨go, rfl, HGW.out, HL4.out, HF.out⟩
set_option maxRecDepth 100000 in
set_option maxHeartbeats 2000000 in
theorem whole_nil (w : World) : Calls Tryz.prog 34 #[.pointer none] w fun e w' => e = .returned (.agg #[.int .i64 0, .int .i64 0, .int .i64 0, .int .i64 0, .int .i64 0, .int .i64 0]) ∧ Below w.heap.size w w' := by
  obtain ⟨W0, hW0⟩ : ∃ W0, W0 = (w.alloc (.cells #[.int .i64 0, .int .i64 0, .int .i64 0, .int .i64 0, .int .i64 0, .int .i64 0] 64)).alloc (.cells #[.int .i64 0, .int .i64 0, .int .i64 0, .int .i64 0, .int .i64 0, .int .i64 0] 64) := ⟨_, rfl⟩
  have hb0 : Below w.heap.size w W0 := by rw [hW0]; exact ((Below.refl _ _).alloc (Nat.le_refl _) _).alloc (by simp) _
  have hr0 : RowIs W0 w.heap.size 64 (iv (fun _ => 0) 6) := by rw [hW0]; exact (RowIs.made w 64 (iv (fun _ => 0) 6)).alloc _
  have hr1 : RowIs W0 (w.heap.size + 1) 64 (iv (fun _ => 0) 6) := by rw [hW0]; exact RowIs.made' _ _ (iv (fun _ => 0) 6) _ (by simp)
  have HG := Lib.hid (genus_nil W0)
  have HB0 := Lib.hid hb0
  have HR0 := Lib.hid hr0
  have HR1 := Lib.hid hr1
  have HW0 := Lib.hid hW0
  obtain ⟨xb, hxb⟩ : ∃ x, x = w.heap.size := ⟨_, rfl⟩
  rw [← hxb] at HR0 HR1
  have HXB := Lib.hid hxb
  clear hb0 hr0 hr1 hW0 hxb
  go_enter Tryz.func34, Tryz.ntmps34
  go_upto_region 2 with fail
  simp only [← HXB.out]
  rw [← HW0.out]
  go_wp2_with fail
  refine HG.out.mono ?_
  rintro e X ⟨go, rfl, hgo, hlt, hb1⟩
  have hr0 := HR0.out.after hb1
  have hr1 := HR1.out.after hb1
  have HB1 := Lib.hid (below_more HB0.out hb1 HB0.out.size)
  clear hgo hlt hb1 HG
  go_wp2
  go_loopw [9] (fun i ws => i = .int .i64 0 ∧ ws = X) (fun i _ => 0)
  case atStart => exact ⟨rfl, rfl⟩
  case round =>
  obtain ⟨rfl, hws⟩ := hrel
  rw [hws]
  clear hws
  have p0 := hr1.cell (iv_get (fun _ => 0) (show 0 < 6 by omega))
  have z0 := hr0.cell (iv_get (fun _ => 0) (show 0 < 6 by omega))
  have p1 := hr1.cell (iv_get (fun _ => 0) (show 1 < 6 by omega))
  have z1 := hr0.cell (iv_get (fun _ => 0) (show 1 < 6 by omega))
  have p2 := hr1.cell (iv_get (fun _ => 0) (show 2 < 6 by omega))
  have z2 := hr0.cell (iv_get (fun _ => 0) (show 2 < 6 by omega))
  have p3 := hr1.cell (iv_get (fun _ => 0) (show 3 < 6 by omega))
  have z3 := hr0.cell (iv_get (fun _ => 0) (show 3 < 6 by omega))
  have p4 := hr1.cell (iv_get (fun _ => 0) (show 4 < 6 by omega))
  have z4 := hr0.cell (iv_get (fun _ => 0) (show 4 < 6 by omega))
  have p5 := hr1.cell (iv_get (fun _ => 0) (show 5 < 6 by omega))
  have z5 := hr0.cell (iv_get (fun _ => 0) (show 5 < 6 by omega))
  have zf := fun i => hr0.free i
  have hrF := ((((((hr0.set 0 (.int .i64 0)).set 1 (.int .i64 0)).set 2 (.int .i64 0)).set 3 (.int .i64 0)).set 4 (.int .i64 0)).set 5 (.int .i64 0))
  rw [iv_set, iv_set, iv_set, iv_set, iv_set, iv_set] at hrF
  have y0 := hrF.cell (iv_get _ (show 0 < 6 by omega))
  rw [show upd (upd (upd (upd (upd (upd (fun _ => 0) 0 0) 1 0) 2 0) 3 0) 4 0) 5 0 0 = 0 from by simp [upd]] at y0
  have y1 := hrF.cell (iv_get _ (show 1 < 6 by omega))
  rw [show upd (upd (upd (upd (upd (upd (fun _ => 0) 0 0) 1 0) 2 0) 3 0) 4 0) 5 0 1 = 0 from by simp [upd]] at y1
  have y2 := hrF.cell (iv_get _ (show 2 < 6 by omega))
  rw [show upd (upd (upd (upd (upd (upd (fun _ => 0) 0 0) 1 0) 2 0) 3 0) 4 0) 5 0 2 = 0 from by simp [upd]] at y2
  have y3 := hrF.cell (iv_get _ (show 3 < 6 by omega))
  rw [show upd (upd (upd (upd (upd (upd (fun _ => 0) 0 0) 1 0) 2 0) 3 0) 4 0) 5 0 3 = 0 from by simp [upd]] at y3
  have y4 := hrF.cell (iv_get _ (show 4 < 6 by omega))
  rw [show upd (upd (upd (upd (upd (upd (fun _ => 0) 0 0) 1 0) 2 0) 3 0) 4 0) 5 0 4 = 0 from by simp [upd]] at y4
  have y5 := hrF.cell (iv_get _ (show 5 < 6 by omega))
  rw [show upd (upd (upd (upd (upd (upd (fun _ => 0) 0 0) 1 0) 2 0) 3 0) 4 0) 5 0 5 = 0 from by simp [upd]] at y5
  have HBF := Lib.hid (show Below w.heap.size w ((((((X.setCell ⟨xb, 0, none⟩ (.int .i64 0)).setCell ⟨xb, 1, none⟩ (.int .i64 0)).setCell ⟨xb, 2, none⟩ (.int .i64 0)).setCell ⟨xb, 3, none⟩ (.int .i64 0)).setCell ⟨xb, 4, none⟩ (.int .i64 0)).setCell ⟨xb, 5, none⟩ (.int .i64 0)) from by
    have hbw := HB1.out
    rw [HXB.out]
    exact (((((hbw.setCell (p := ⟨w.heap.size, 0, none⟩) (Nat.le_refl _) _).setCell (p := ⟨w.heap.size, 1, none⟩) (Nat.le_refl _) _).setCell (p := ⟨w.heap.size, 2, none⟩) (Nat.le_refl _) _).setCell (p := ⟨w.heap.size, 3, none⟩) (Nat.le_refl _) _).setCell (p := ⟨w.heap.size, 4, none⟩) (Nat.le_refl _) _).setCell (p := ⟨w.heap.size, 5, none⟩) (Nat.le_refl _) _)
  clear hr0 hr1 hrF
  go_wp2
  exact bodyPost_ret (v := .agg #[.int .i64 0, .int .i64 0, .int .i64 0, .int .i64 0, .int .i64 0, .int .i64 0]) (by simp [results, Tryz.results34, go_sem, y0, y1, y2, y3, y4, y5]) rfl ⟨rfl, HBF.out⟩
theorem nodup_rf (p : Nat → Bool) (n : Nat) : ((List.range n).filter p).Nodup := List.Pairwise.filter _ List.nodup_range
theorem filt_split {α : Type} (p : α → Bool) : ∀ l : List α, l.length = (l.filter p).length + (l.filter fun x => !p x).length
  | [] => rfl
  | a :: l => by
    have := filt_split p l
    by_cases h : p a = true <;> simp [h] <;> omega
theorem nodup_on {α β : Type} {f : α → β} {l : List α} (h : ∀ a, a ∈ l → ∀ b, b ∈ l → f a = f b → a = b) (hn : l.Nodup) : (l.map f).Nodup := by
  rw [List.nodup_iff_pairwise_ne, List.pairwise_map]
  exact List.Pairwise.imp_of_mem (fun ha hb hne e => hne (h _ ha _ hb e)) (List.nodup_iff_pairwise_ne.1 hn)
section
variable {n : Nat} {T : List Tr} {L : Nat → Int}
theorem shV_at (hs : Surf n T) (hL : IsShells (Adj T) T.length L) {v : Nat} {c : Nat} (hc : c < 3 * T.length) (h : vt T (c : Nat) = (v : Int)) : v < n ∧ shV T L v = L (c / 3) := by
  have hv := hs.vin.vt (c := ((c : Nat) : Int)) (by omega) (by omega)
  rw [h] at hv
  refine ⟨by omega, ?_⟩
  obtain ⟨d, hd, hd3, hdv⟩ := firstF_has hs (v := v) (by omega)
  unfold shV
  rw [hd, Int.toNat_natCast]
  refine hs.at_vertex hL (v := (v : Int)) (by omega) (by omega) ?_ ?_
  · rw [← hdv]; exact has_corner
  · rw [← h]; exact has_corner
theorem shV_corner (hs : Surf n T) {v : Nat} (hv : v < n) : ∃ c : Nat, c < 3 * T.length ∧ vt T (c : Nat) = (v : Int) ∧ shV T L v = L (c / 3) := by
  obtain ⟨d, hd, hd3, hdv⟩ := firstF_has hs (v := v) (by omega)
  exact ⟨d, hd3, hdv, by unfold shV; rw [hd, Int.toNat_natCast]⟩
theorem shell_opp (hs : Surf n T) (hL : IsShells (Adj T) T.length L) {c o : Nat} (hc : c < 3 * T.length) (h : opp T (c : Nat) = (o : Int)) : L (o / 3) = L (c / 3) := by
  obtain ⟨o', e, ho, -⟩ := hs.opp_opp hc (by omega)
  have : o' = o := by omega
  subst this
  refine hL.clo _ _ (by omega) (by omega) ⟨c % 3, by omega, ?_, ?_⟩
  · rw [← corner_of]; omega
  · rw [← corner_of, h, Int.toNat_natCast]
/-- The edges of the shell k, each from both its ends. -/
def dartsOf (T : List Tr) (L : Nat → Int) (k : Int) : List (Int × Int) :=
  (((List.range (3 * T.length)).filter fun x => decide (L (x / 3) = k)).map fun (c : Nat) => (vt T (nxn c : Nat), vt T (pvn c : Nat))) ++
  (((List.range (3 * T.length)).filter fun x => decide (L (x / 3) = k) && decide (opp T (x : Nat) < 0)).map fun (c : Nat) => (vt T (pvn c : Nat), vt T (nxn c : Nat)))
theorem darts_length (T : List Tr) (L : Nat → Int) (k : Nat) : (dartsOf T L (k : Int)).length = nT T L k := by
  unfold dartsOf nT twn cntK
  simp
theorem darts_mem {k : Int} {p : Int × Int} : p ∈ dartsOf T L k ↔ ∃ c : Nat, c < 3 * T.length ∧ L (c / 3) = k ∧ (p = (vt T (nxn c : Nat), vt T (pvn c : Nat)) ∨ (opp T (c : Nat) < 0 ∧ p = (vt T (pvn c : Nat), vt T (nxn c : Nat)))) := by
  unfold dartsOf
  simp only [List.mem_append, List.mem_map, List.mem_filter, List.mem_range, Bool.and_eq_true, decide_eq_true_eq]
  constructor
  · rintro (⟨c, ⟨h1, h2⟩, rfl⟩ | ⟨c, ⟨h1, h2, h3⟩, rfl⟩)
    · exact ⟨c, h1, h2, .inl rfl⟩
    · exact ⟨c, h1, h2, .inr ⟨h3, rfl⟩⟩
  · rintro ⟨c, h1, h2, rfl | ⟨h3, rfl⟩⟩
    · exact .inl ⟨c, ⟨h1, h2⟩, rfl⟩
    · exact .inr ⟨c, ⟨h1, h2, h3⟩, rfl⟩
theorem edge_one (hs : Surf n T) {c d : Nat} (hc : c < 3 * T.length) (hd : d < 3 * T.length) (h1 : vt T (nxn c : Nat) = vt T (nxn d : Nat)) (h2 : vt T (pvn c : Nat) = vt T (pvn d : Nat)) : c = d :=
  hs.edge_c hc hd (by rw [edgeAt_nat, edgeAt_nat, h1, h2])
theorem no_opp (hs : Surf n T) {c d : Nat} (hc : c < 3 * T.length) (hd : d < 3 * T.length) (h : opp T (c : Nat) < 0) : ¬ (vt T (nxn d : Nat) = vt T (pvn c : Nat) ∧ vt T (pvn d : Nat) = vt T (nxn c : Nat)) := by
  rintro ⟨h1, h2⟩
  rw [opp_nat] at h
  have := facing_of hd (show edgeAt T (d : Int) = (vt T (pvn c : Nat), vt T (nxn c : Nat)) from by rw [edgeAt_nat, h1, h2])
  omega
theorem ends_ne (hs : Surf n T) {c : Nat} (hc : c < 3 * T.length) : vt T (nxn c : Nat) ≠ vt T (pvn c : Nat) := by
  intro e
  have := hs.corner_one (x := nxn c) (y := pvn c) (nxn_lt hc) (by rw [nxn_div, pvn_div]) e
  unfold nxn pvn at this
  omega
theorem darts_nodup (hs : Surf n T) (k : Int) : (dartsOf T L k).Nodup := by
  unfold dartsOf
  refine List.nodup_append.2 ⟨?_, ?_, ?_⟩
  · refine nodup_on (fun a ha b hb e => ?_) (nodup_rf _ _)
    rw [Prod.mk.injEq] at e
    exact edge_one hs (List.mem_range.1 (List.mem_filter.1 ha).1) (List.mem_range.1 (List.mem_filter.1 hb).1) e.1 e.2
  · refine nodup_on (fun a ha b hb e => ?_) (nodup_rf _ _)
    rw [Prod.mk.injEq] at e
    exact edge_one hs (List.mem_range.1 (List.mem_filter.1 ha).1) (List.mem_range.1 (List.mem_filter.1 hb).1) e.2 e.1
  · intro a ha b hb e
    obtain ⟨c, hc, rfl⟩ := List.mem_map.1 ha
    obtain ⟨d, hd, rfl⟩ := List.mem_map.1 hb
    rw [Prod.mk.injEq] at e
    have hd' := (List.mem_filter.1 hd).2
    simp only [Bool.and_eq_true, decide_eq_true_eq] at hd'
    exact no_opp hs (List.mem_range.1 (List.mem_filter.1 hd).1) (List.mem_range.1 (List.mem_filter.1 hc).1) hd'.2 e
theorem darts_swap (hs : Surf n T) (hL : IsShells (Adj T) T.length L) {k : Int} {p : Int × Int} (h : p ∈ dartsOf T L k) : (p.2, p.1) ∈ dartsOf T L k := by
  obtain ⟨c, h1, h2, rfl | ⟨h3, rfl⟩⟩ := darts_mem.1 h
  · by_cases ho : opp T (c : Nat) < 0
    · exact darts_mem.2 ⟨c, h1, h2, .inr ⟨ho, rfl⟩⟩
    · obtain ⟨o, e, ho3, -, e1, e2⟩ := hs.opp_opp h1 (by omega)
      exact darts_mem.2 ⟨o, ho3, by rw [shell_opp hs hL h1 e, h2], .inl (by rw [e1, e2])⟩
  · exact darts_mem.2 ⟨c, h1, h2, .inl rfl⟩
theorem darts_ne (hs : Surf n T) {k : Int} {p : Int × Int} (h : p ∈ dartsOf T L k) : p.1 ≠ p.2 := by
  obtain ⟨c, h1, h2, rfl | ⟨h3, rfl⟩⟩ := darts_mem.1 h
  · exact ends_ne hs h1
  · exact fun e => ends_ne hs h1 e.symm
/-- What has a mate is even. -/
theorem even_swap {D : List (Int × Int)} (hn : D.Nodup) (hsw : ∀ p, p ∈ D → (p.2, p.1) ∈ D) (hne : ∀ p, p ∈ D → p.1 ≠ p.2) : D.length = 2 * (D.filter fun p => decide (p.1 < p.2)).length := by
  have h1 : D.length = (D.filter fun p => decide (p.1 < p.2)).length + (D.filter fun p => !decide (p.1 < p.2)).length := by
    exact filt_split (fun p => decide (p.1 < p.2)) D
  have sw : Function.Injective (fun p : Int × Int => (p.2, p.1)) := fun a b e => by
    simp only [Prod.mk.injEq] at e
    exact Prod.ext e.2 e.1
  have h2 : (D.filter fun p => decide (p.1 < p.2)).length ≤ (D.filter fun p => !decide (p.1 < p.2)).length := by
    have := sub_len ((D.filter fun p => decide (p.1 < p.2)).map fun p => (p.2, p.1)) (D.filter fun p => !decide (p.1 < p.2)) (nodup_on (fun a _ b _ e => sw e) (List.Pairwise.filter _ hn)) (fun x hx => by
      obtain ⟨p, hp, rfl⟩ := List.mem_map.1 hx
      obtain ⟨g1, g2⟩ := List.mem_filter.1 hp
      refine List.mem_filter.2 ⟨hsw p g1, ?_⟩
      simp only [decide_eq_true_eq] at g2
      simp only [Bool.not_eq_true', decide_eq_false_iff_not]
      omega)
    simpa using this
  have h3 : (D.filter fun p => !decide (p.1 < p.2)).length ≤ (D.filter fun p => decide (p.1 < p.2)).length := by
    have := sub_len ((D.filter fun p => !decide (p.1 < p.2)).map fun p => (p.2, p.1)) (D.filter fun p => decide (p.1 < p.2)) (nodup_on (fun a _ b _ e => sw e) (List.Pairwise.filter _ hn)) (fun x hx => by
      obtain ⟨p, hp, rfl⟩ := List.mem_map.1 hx
      obtain ⟨g1, g2⟩ := List.mem_filter.1 hp
      refine List.mem_filter.2 ⟨hsw p g1, ?_⟩
      have := hne p g1
      simp only [Bool.not_eq_true', decide_eq_false_iff_not] at g2
      simp only [decide_eq_true_eq]
      omega)
    simpa using this
  omega
theorem nT_even (hs : Surf n T) (hL : IsShells (Adj T) T.length L) (k : Nat) : nT T L k % 2 = 0 := by
  have := even_swap (darts_nodup (L := L) hs (k : Int)) (fun p h => darts_swap hs hL h) (fun p h => darts_ne hs h)
  rw [darts_length] at this
  omega
/-- The vertices of a shell. -/
def vertsOf (T : List Tr) (L : Nat → Int) (n k : Nat) : List Nat := (List.range n).filter fun v => decide (shV T L v = (k : Int))
theorem verts_length (T : List Tr) (L : Nat → Int) (n k : Nat) : (vertsOf T L n k).length = nV T L n k := rfl
/-- Pairs of two that are not one. -/
def pairsOf (V : List Nat) : List (Int × Int) := V.flatMap fun u => (V.filter fun v => decide (v ≠ u)).map fun (v : Nat) => ((u : Int), (v : Int))
theorem pairs_length {V : List Nat} (hn : V.Nodup) : (pairsOf V).length = V.length * (V.length - 1) := by
  unfold pairsOf
  have one : ∀ u, u ∈ V → ((V.filter fun v => decide (v ≠ u)).map fun (v : Nat) => ((u : Int), (v : Int))).length = V.length - 1 := fun u hu => by
    rw [List.length_map]
    have := List.Nodup.erase_eq_filter hn u
    have h2 := List.length_erase_of_mem hu
    rw [this] at h2
    rw [← h2]
    congr 1
    refine List.filter_congr fun x _ => ?_
    by_cases e : x = u <;> simp [e]
  have key : ∀ (W : List Nat), (∀ u, u ∈ W → u ∈ V) → (W.flatMap fun u => (V.filter fun v => decide (v ≠ u)).map fun (v : Nat) => ((u : Int), (v : Int))).length = W.length * (V.length - 1) := by
    intro W
    induction W with
    | nil => intro _; simp
    | cons a l ih =>
      intro h
      rw [List.flatMap_cons, List.length_append, one a (h a (by simp)), ih (fun u hu => h u (by simp [hu])), List.length_cons, Nat.succ_mul]
      omega
  exact key V (fun u hu => hu)
theorem pairs_mem {V : List Nat} {u v : Nat} (hu : u ∈ V) (hv : v ∈ V) (h : u ≠ v) : ((u : Int), (v : Int)) ∈ pairsOf V :=
  List.mem_flatMap.2 ⟨u, hu, List.mem_map.2 ⟨v, List.mem_filter.2 ⟨hv, by simpa using fun e => h e.symm⟩, rfl⟩⟩
theorem end_in (hs : Surf n T) (hL : IsShells (Adj T) T.length L) {k : Nat} {c x : Nat} (hc : c < 3 * T.length) (hx : x < 3 * T.length) (hd : x / 3 = c / 3) (h : L (c / 3) = (k : Int)) : ∃ v : Nat, vt T (x : Nat) = (v : Int) ∧ v ∈ vertsOf T L n k := by
  have hv := hs.vin.vt (c := ((x : Nat) : Int)) (by omega) (by omega)
  obtain ⟨v, hv'⟩ := Int.eq_ofNat_of_zero_le hv.1
  have := shV_at hs hL hx hv'
  refine ⟨v, hv', List.mem_filter.2 ⟨List.mem_range.2 this.1, ?_⟩⟩
  rw [this.2, hd, h]
  simp
theorem darts_in (hs : Surf n T) (hL : IsShells (Adj T) T.length L) {k : Nat} {p : Int × Int} (h : p ∈ dartsOf T L (k : Int)) : p ∈ pairsOf (vertsOf T L n k) := by
  have hne := darts_ne hs h
  obtain ⟨c, h1, h2, e⟩ := darts_mem.1 h
  obtain ⟨u, hu, mu⟩ := end_in hs hL h1 (nxn_lt h1) (nxn_div c) h2
  obtain ⟨v, hv, mv⟩ := end_in hs hL h1 (pvn_lt h1) (pvn_div c) h2
  rw [hu, hv] at e
  rcases e with rfl | ⟨-, rfl⟩
  · exact pairs_mem mu mv (fun e => hne (by rw [e]))
  · exact pairs_mem mv mu (fun e => hne (by rw [e]))
/-- No more ends of edges than pairs of vertices. -/
theorem nT_pairs (hs : Surf n T) (hL : IsShells (Adj T) T.length L) (k : Nat) : nT T L k ≤ nV T L n k * (nV T L n k - 1) := by
  have h := sub_len (dartsOf T L (k : Int)) (pairsOf (vertsOf T L n k)) (darts_nodup hs _) (fun p hp => darts_in hs hL hp)
  rw [darts_length, pairs_length (V := vertsOf T L n k) (nodup_rf _ _), verts_length] at h
  exact h
theorem cntK_three (L : Nat → Int) (k : Nat) : ∀ i, cntK (fun x => L (x / 3)) (3 * i) k = 3 * cntK L i k
  | 0 => rfl
  | i + 1 => by
    have e : 3 * (i + 1) = 3 * i + 1 + 1 + 1 := by omega
    rw [e, cntK_succ, cntK_succ, cntK_succ, cntK_three L k i, cntK_succ]
    rw [show 3 * i / 3 = i by omega, show (3 * i + 1) / 3 = i by omega, show (3 * i + 1 + 1) / 3 = i by omega]
    split <;> omega
/-- The border edges of a shell. -/
def bordOf (T : List Tr) (L : Nat → Int) (k : Int) : List Nat := (List.range (3 * T.length)).filter fun x => decide (L (x / 3) = k) && decide (opp T (x : Nat) < 0)
theorem nT_bord (T : List Tr) (L : Nat → Int) (k : Nat) : nT T L k = 3 * nF T L k + (bordOf T L k).length := by
  unfold nT twn nF bordOf
  rw [cntK_three]
theorem bord_mem_edges {e : Int × Int} : e ∈ bordE T (3 * T.length) ↔ ∃ c : Nat, c < 3 * T.length ∧ opp T (c : Nat) < 0 ∧ e = (vt T (nxn c : Nat), vt T (pvn c : Nat)) := by
  unfold bordE
  simp only [List.mem_map, List.mem_filter, List.mem_range, decide_eq_true_eq]
  constructor
  · rintro ⟨c, ⟨h1, h2⟩, rfl⟩
    exact ⟨c, h1, h2, edgeAt_nat T c⟩
  · rintro ⟨c, h1, h2, rfl⟩
    exact ⟨c, ⟨h1, h2⟩, edgeAt_nat T c⟩
/-- The shell of a vertex, the vertex as an integer. -/
def shI (T : List Tr) (L : Nat → Int) (v : Int) : Int := shV T L v.toNat
theorem bord_shell (hs : Surf n T) (hL : IsShells (Adj T) T.length L) {e : Int × Int} (h : e ∈ bordE T (3 * T.length)) : shI T L e.1 = shI T L e.2 := by
  obtain ⟨c, hc, -, rfl⟩ := bord_mem_edges.1 h
  have h1 := hs.vin.vt (c := ((nxn c : Nat) : Int)) (by omega) (by have := nxn_lt hc; omega)
  have h2 := hs.vin.vt (c := ((pvn c : Nat) : Int)) (by omega) (by have := pvn_lt hc; omega)
  have e1 := shV_at hs hL (v := (vt T (nxn c : Nat)).toNat) (nxn_lt hc) (by omega)
  have e2 := shV_at hs hL (v := (vt T (pvn c : Nat)).toNat) (pvn_lt hc) (by omega)
  show shV T L _ = shV T L _
  rw [e1.2, e2.2, nxn_div, pvn_div]
theorem it_shell (hs : Surf n T) (hL : IsShells (Adj T) T.length L) {v : Int} (hv : v ∈ (bordE T (3 * T.length)).map Prod.snd) : ∀ k, shI T L (it (bordE T (3 * T.length)) k v) = shI T L v
  | 0 => rfl
  | k + 1 => by
    have hin := hs.oneIn.it_in hv k
    have := bord_shell hs hL (hs.oneIn.sg_mem hin)
    show shI T L (sg _ (it _ k v)) = _
    rw [this, it_shell hs hL hv k]
theorem least_int {P : Int → Prop} (h : ∃ v, P v) (h0 : ∀ v, P v → 0 ≤ v) : ∃ v, P v ∧ ∀ u, P u → v ≤ u := by
  obtain ⟨n, hn, hm⟩ := least_nat (P := fun n : Nat => P n) (by
    obtain ⟨v, hv⟩ := h
    obtain ⟨n, rfl⟩ := Int.eq_ofNat_of_zero_le (h0 v hv)
    exact ⟨n, hv⟩)
  refine ⟨n, hn, fun u hu => ?_⟩
  obtain ⟨m, rfl⟩ := Int.eq_ofNat_of_zero_le (h0 u hu)
  have : ¬ m < n := fun h => hm m h hu
  omega
/-- Each border vertex has the first of its loop. -/
theorem head_of (hs : Surf n T) {v : Int} (hv : v ∈ (bordE T (3 * T.length)).map Prod.snd) : ∃ w : Nat, (w : Int) ∈ orb (bordE T (3 * T.length)) v ∧ minB (bordE T (3 * T.length)) (w : Int) = true ∧ w < n := by
  obtain ⟨w, hw, hm⟩ := least_int (P := fun u => u ∈ orb (bordE T (3 * T.length)) v) ⟨v, hs.oneIn.orb_self hv⟩ (fun u hu => (hs.bord_in (hs.oneIn.orb_sub hu)).1)
  have hb := hs.bord_in (hs.oneIn.orb_sub hw)
  obtain ⟨x, rfl⟩ := Int.eq_ofNat_of_zero_le hb.1
  exact ⟨x, hw, minB_iff.2 ⟨hs.oneIn.orb_sub hw, fun u hu => hm u (hs.oneIn.orb_trans hw hu)⟩, by omega⟩
theorem orb_shell (hs : Surf n T) (hL : IsShells (Adj T) T.length L) {v u : Int} (h : u ∈ orb (bordE T (3 * T.length)) v) : shI T L u = shI T L v := by
  have hv := orb_in h
  obtain ⟨k, rfl⟩ := (hs.oneIn.orb_mem hv).1 h
  exact it_shell hs hL hv k
theorem cntK_pos {key : Nat → Int} {i k : Nat} : 0 < cntK key i k ↔ ∃ j, j < i ∧ key j = (k : Int) := by
  unfold cntK
  rw [List.length_pos_iff_exists_mem]
  simp
/-- The loops of a shell, by their first vertices. -/
def loopsOf (T : List Tr) (L : Nat → Int) (n k : Nat) : List Nat := (headsB (bordE T (3 * T.length)) n).filter fun v => decide (shV T L v = (k : Int))
theorem filter_idx {p : Nat → Bool} : ∀ (l : List Nat), ((List.range l.length).filter fun j => p (l.getD j 0)).length = (l.filter p).length
  | [] => rfl
  | a :: l => by
    have ih := filter_idx (p := p) l
    rw [List.length_cons, List.range_succ_eq_map, List.filter_cons, List.filter_cons, List.filter_map]
    have e : (fun j => p ((a :: l).getD j 0)) ∘ Nat.succ = fun j => p (l.getD j 0) := by
      funext j
      simp
    rw [e]
    have e0 : p ((a :: l).getD 0 0) = p a := rfl
    rw [e0]
    by_cases h : p a = true
    · rw [if_pos h, if_pos h, List.length_cons, List.length_cons, List.length_map, ih]
    · rw [if_neg h, if_neg h, List.length_map, ih]
theorem loops_length (T : List Tr) (L : Nat → Int) (n k : Nat) : (loopsOf T L n k).length = nB T L n k := by
  unfold loopsOf nB cntK keyB
  exact (filter_idx (p := fun v => decide (shV T L v = (k : Int))) _).symm
theorem loops_mem {k v : Nat} : v ∈ loopsOf T L n k ↔ v < n ∧ minB (bordE T (3 * T.length)) (v : Int) = true ∧ shV T L v = (k : Int) := by
  unfold loopsOf
  simp [headsB_mem, and_assoc]
/-- Where there is a border edge there is a loop. -/
theorem bord_loop (hs : Surf n T) (hL : IsShells (Adj T) T.length L) {k : Nat} {c : Nat} (hc : c ∈ bordOf T L (k : Int)) : ∃ w, w ∈ loopsOf T L n k := by
  obtain ⟨h1, h2⟩ := List.mem_filter.1 hc
  simp only [Bool.and_eq_true, decide_eq_true_eq] at h2
  have hc3 := List.mem_range.1 h1
  have he : (vt T (nxn c : Nat), vt T (pvn c : Nat)) ∈ bordE T (3 * T.length) := bord_mem_edges.2 ⟨c, hc3, h2.2, rfl⟩
  obtain ⟨w, g1, g2, g3⟩ := head_of hs (v := vt T (pvn c : Nat)) (List.mem_map.2 ⟨_, he, rfl⟩)
  refine ⟨w, loops_mem.2 ⟨g3, g2, ?_⟩⟩
  have e1 := orb_shell hs hL g1
  have hv := hs.vin.vt (c := ((pvn c : Nat) : Int)) (by omega) (by have := pvn_lt hc3; omega)
  have e2 := shV_at hs hL (v := (vt T (pvn c : Nat)).toNat) (pvn_lt hc3) (by omega)
  have : shI T L (w : Int) = shV T L w := by unfold shI; rw [Int.toNat_natCast]
  rw [← this, e1]
  show shV T L _ = _
  rw [e2.2, pvn_div, h2.1]
theorem no_loop (hs : Surf n T) (hL : IsShells (Adj T) T.length L) {k : Nat} (h : nB T L n k = 0) : bordOf T L (k : Int) = [] := by
  rw [← loops_length, List.length_eq_zero_iff] at h
  refine List.eq_nil_iff_forall_not_mem.2 fun c hc => ?_
  obtain ⟨w, hw⟩ := bord_loop hs hL hc
  rw [h] at hw
  cases hw
end
section
variable {n : Nat} {T : List Tr} {L : Nat → Int}
theorem IsShells.has {A : Nat → Nat → Prop} {n : Nat} {L : Nat → Int} (h : IsShells A n L) {k : Nat} (hk : (k : Int) < cnt L n) : ∃ i, i < n ∧ L i = (k : Int) := by
  obtain ⟨i, hi, e⟩ := cnt_has L n (by omega)
  by_cases g : L i = (k : Int)
  · exact ⟨i, hi, g⟩
  · obtain ⟨j, hj, ej⟩ := h.rg i hi k (by omega) (by omega)
    exact ⟨j, by omega, ej⟩
theorem mir_of {i : Nat} {u : Tr} (hi : i < T.length) (h : ∀ x : Nat, x / 3 = i → hasB u (vt T (x : Nat)) = true) : mirB (T! T i) u = true := by
  have h0 := h (3 * i) (by omega)
  have h1 := h (3 * i + 1) (by omega)
  have h2 := h (3 * i + 2) (by omega)
  rw [vt_nat3] at h0 h1 h2
  rw [show 3 * i / 3 = i by omega, show 3 * i % 3 = 0 by omega] at h0
  rw [show (3 * i + 1) / 3 = i by omega, show (3 * i + 1) % 3 = 1 by omega] at h1
  rw [show (3 * i + 2) / 3 = i by omega, show (3 * i + 2) % 3 = 2 by omega] at h2
  simp only [tg] at h0 h1 h2
  unfold mirB
  rw [h0, h1, h2]
  rfl
theorem three_of (c x : Nat) (h : x / 3 = c / 3) : x = c ∨ x = nxn c ∨ x = pvn c := by
  unfold nxn pvn
  omega
/-- A corner and the one across its edge are not at one vertex. -/
theorem opp_ne (hs : Surf n T) {c o : Nat} (hc : c < 3 * T.length) (ho : o < 3 * T.length) (e1 : vt T (nxn o : Nat) = vt T (pvn c : Nat)) (e2 : vt T (pvn o : Nat) = vt T (nxn c : Nat)) : vt T (o : Nat) ≠ vt T (c : Nat) := by
  intro e
  have hij : o / 3 ≠ c / 3 := by
    intro h
    have a1 := hs.corner_one (x := nxn o) (y := pvn c) (nxn_lt ho) (by rw [nxn_div, pvn_div, h]) e1
    have a2 := hs.corner_one (x := o) (y := c) ho h e
    subst a2
    unfold nxn pvn at a1
    omega
  have fwd : ∀ x : Nat, x / 3 = c / 3 → hasB (T! T (o / 3)) (vt T (x : Nat)) = true := fun x hx => by
    rcases three_of c x hx with rfl | rfl | rfl
    · rw [← e]; exact has_corner
    · rw [← e2, ← pvn_div o]; exact has_corner
    · rw [← e1, ← nxn_div o]; exact has_corner
  have bwd : ∀ x : Nat, x / 3 = o / 3 → hasB (T! T (c / 3)) (vt T (x : Nat)) = true := fun x hx => by
    rcases three_of o x hx with rfl | rfl | rfl
    · rw [e]; exact has_corner
    · rw [e1, ← pvn_div c]; exact has_corner
    · rw [e2, ← nxn_div c]; exact has_corner
  by_cases h : c / 3 < o / 3
  · have := hs.mir (o / 3) (c / 3) (by omega) h
    rw [mir_of (by omega) fwd] at this
    cases this
  · have := hs.mir (c / 3) (o / 3) (by omega) (by omega)
    rw [mir_of (by omega) bwd] at this
    cases this
theorem nV_four (hs : Surf n T) (hL : IsShells (Adj T) T.length L) {k : Nat} (hk : (k : Int) < cnt L T.length) (hb : nB T L n k = 0) : 4 ≤ nV T L n k := by
  obtain ⟨i, hi, hLi⟩ := hL.has hk
  obtain ⟨c, hc⟩ : ∃ c, c = 3 * i := ⟨_, rfl⟩
  have hc3 : c < 3 * T.length := by omega
  have hci : L (c / 3) = (k : Int) := by rw [show c / 3 = i by omega]; exact hLi
  have hno := no_loop hs hL hb
  have hop : 0 ≤ opp T (c : Nat) := by
    apply Classical.byContradiction
    intro h
    have : c ∈ bordOf T L (k : Int) := List.mem_filter.2 ⟨List.mem_range.2 hc3, by simp [hci]; omega⟩
    rw [hno] at this
    cases this
  obtain ⟨o, eo, ho, -, e1, e2⟩ := hs.opp_opp hc3 hop
  have hoL : L (o / 3) = (k : Int) := by rw [shell_opp hs hL hc3 eo]; exact hci
  obtain ⟨a, ha, ma⟩ := end_in hs hL hc3 hc3 rfl hci
  obtain ⟨u, hu, mu⟩ := end_in hs hL hc3 (nxn_lt hc3) (nxn_div c) hci
  obtain ⟨v, hv, mv⟩ := end_in hs hL hc3 (pvn_lt hc3) (pvn_div c) hci
  obtain ⟨d, hd, md⟩ := end_in hs hL ho ho rfl hoL
  have n1 : a ≠ u := fun e => by
    have := hs.corner_one (x := c) (y := nxn c) hc3 (by rw [nxn_div]) (by rw [ha, hu, e])
    unfold nxn at this; omega
  have n2 : a ≠ v := fun e => by
    have := hs.corner_one (x := c) (y := pvn c) hc3 (by rw [pvn_div]) (by rw [ha, hv, e])
    unfold pvn at this; omega
  have n3 : u ≠ v := fun e => ends_ne hs hc3 (by rw [hu, hv, e])
  have n4 : d ≠ a := fun e => opp_ne hs hc3 ho e1 e2 (by rw [hd, ha, e])
  have n5 : d ≠ v := fun e => by
    have := hs.corner_one (x := o) (y := nxn o) ho (by rw [nxn_div]) (by rw [e1, hd, hv, e])
    unfold nxn at this; omega
  have n6 : d ≠ u := fun e => by
    have := hs.corner_one (x := o) (y := pvn o) ho (by rw [pvn_div]) (by rw [e2, hd, hu, e])
    unfold pvn at this; omega
  have := sub_len [a, u, v, d] (vertsOf T L n k) (by simp [n1, n2, n3, Ne.symm n4, Ne.symm n5, Ne.symm n6]) (fun x hx => by
    simp only [List.mem_cons, List.not_mem_nil, or_false] at hx
    rcases hx with rfl | rfl | rfl | rfl <;> assumption)
  rw [verts_length] at this
  exact this
/-- The Euler number of a shell and its genus, as genus.Of reckons them. -/
def euK (T : List Tr) (L : Nat → Int) (n k : Nat) : Int := (nV T L n k : Int) - ((nT T L k / 2 : Nat) : Int) + (nF T L k : Int)
def gnK (T : List Tr) (L : Nat → Int) (n k : Nat) : Int := ((2 : Int) - (nB T L n k : Int) - euK T L n k).tdiv 2
theorem gen0 (T : List Tr) (L : Nat → Int) (n k : Nat) : genF T L n (k * 6) = (nV T L n k : Int) := by
  unfold genF finF
  dsimp only
  rw [if_pos (by omega), show k * 6 / 6 = k by omega]
theorem gen1 (T : List Tr) (L : Nat → Int) (n k : Nat) : genF T L n (k * 6 + 1) = ((nT T L k / 2 : Nat) : Int) := by
  unfold genF finF
  dsimp only
  rw [if_neg (by omega), if_pos (by omega), show (k * 6 + 1) / 6 = k by omega]
theorem gen2 (T : List Tr) (L : Nat → Int) (n k : Nat) : genF T L n (k * 6 + 2) = (nF T L k : Int) := by
  unfold genF finF
  dsimp only
  rw [if_neg (by omega), if_neg (by omega), if_pos (by omega), show (k * 6 + 2) / 6 = k by omega]
theorem gen3 (T : List Tr) (L : Nat → Int) (n k : Nat) : genF T L n (k * 6 + 3) = (nB T L n k : Int) := by
  unfold genF finF
  dsimp only
  rw [if_neg (by omega), if_neg (by omega), if_neg (by omega), if_pos (by omega), show (k * 6 + 3) / 6 = k by omega]
theorem gen4 (T : List Tr) (L : Nat → Int) (n k : Nat) : genF T L n (k * 6 + 4) = euK T L n k := by
  unfold genF finF euK
  dsimp only
  rw [if_neg (by omega), if_neg (by omega), if_neg (by omega), if_neg (by omega), if_pos (by omega), show (k * 6 + 4) / 6 = k by omega]
theorem gen5 (T : List Tr) (L : Nat → Int) (n k : Nat) : genF T L n (k * 6 + 5) = gnK T L n k := by
  unfold genF finF gnK euK
  dsimp only
  rw [if_neg (by omega), if_neg (by omega), if_neg (by omega), if_neg (by omega), if_neg (by omega), show (k * 6 + 5) / 6 = k by omega]
/-- What GenusFew asks of a shell. -/
def FewOK (V E F B G : Int) : Prop := E ≤ (V * (V - 1)).tdiv 2 ∧ (B = 0 → 2 * E = 3 * F ∧ 4 ≤ V) ∧ (0 < G → B = 0 → 7 ≤ V)
theorem tdiv_two {a : Int} (h : 0 ≤ a) : a.tdiv 2 = a / 2 := Int.tdiv_eq_ediv_of_nonneg h
theorem few_ok (hs : Surf n T) (hL : IsShells (Adj T) T.length L) {k : Nat} (hk : (k : Int) < cnt L T.length) : FewOK (nV T L n k) ((nT T L k / 2 : Nat) : Int) (nF T L k) (nB T L n k) (gnK T L n k) := by
  have hp := nT_pairs hs hL k
  have he := nT_even hs hL k
  have hb := nT_bord T L k
  obtain ⟨V, hV⟩ : ∃ V, V = nV T L n k := ⟨_, rfl⟩
  obtain ⟨t, ht⟩ : ∃ t, t = nT T L k := ⟨_, rfl⟩
  obtain ⟨F, hF⟩ : ∃ F, F = nF T L k := ⟨_, rfl⟩
  obtain ⟨B, hB⟩ : ∃ B, B = nB T L n k := ⟨_, rfl⟩
  have h4 : B = 0 → 4 ≤ V := fun h => by rw [hV]; exact nV_four hs hL hk (by rw [← hB]; exact h)
  have h3 : B = 0 → t = 3 * F := fun h => by
    have := no_loop hs hL (k := k) (by rw [← hB]; exact h)
    rw [this, ← ht, ← hF] at hb
    simpa using hb
  unfold gnK euK
  rw [← hV, ← ht] at hp
  rw [← ht] at he
  rw [← hV, ← ht, ← hF, ← hB]
  have hVV : (0 : Int) ≤ (V : Int) * ((V : Int) - 1) := by
    rcases Nat.eq_zero_or_pos V with rfl | h
    · simp
    · exact Int.mul_nonneg (by omega) (by omega)
  have hVm : ((V * (V - 1) : Nat) : Int) = (V : Int) * ((V : Int) - 1) := by
    rcases Nat.eq_zero_or_pos V with rfl | h
    · simp
    · rw [Int.natCast_mul, Int.natCast_sub h]; rfl
  have hp' : (t : Int) ≤ (V : Int) * ((V : Int) - 1) := by rw [← hVm]; omega
  refine ⟨?_, ?_, ?_⟩
  · rw [tdiv_two hVV]
    omega
  · intro h
    have := h3 (by omega)
    have := h4 (by omega)
    omega
  · intro hg h0
    have e3 := h3 (by omega)
    have e4 := h4 (by omega)
    have hpos : (2 : Int) ≤ 2 - (B : Int) - ((V : Int) - ((t / 2 : Nat) : Int) + (F : Int)) := by
      apply Classical.byContradiction
      intro hn
      rcases Int.le_total 0 (2 - (B : Int) - ((V : Int) - ((t / 2 : Nat) : Int) + (F : Int))) with h | h
      · rw [tdiv_two h] at hg
        omega
      · have := Int.neg_tdiv (2 - (B : Int) - ((V : Int) - ((t / 2 : Nat) : Int) + (F : Int))) 2
        rw [tdiv_two (by omega)] at this
        omega
    -- three edges a vertex at least, as many as pairs at most
    have h6 : 6 * (V : Int) ≤ (t : Int) := by omega
    have : 6 * (V : Int) ≤ (V : Int) * ((V : Int) - 1) := by omega
    apply Classical.byContradiction
    intro hn
    have hlt : (V : Int) - 1 ≤ 5 := by omega
    have := Int.mul_le_mul_of_nonneg_left hlt (show (0 : Int) ≤ (V : Int) by omega)
    omega
end
/-- So many steps of a function. -/
def itf (f : Nat → Nat) : Nat → Nat → Nat
  | 0, x => x
  | k + 1, x => f (itf f k x)
theorem itf_add (f : Nat → Nat) (a b x : Nat) : itf f (a + b) x = itf f a (itf f b x) := by
  induction a with
  | zero => rw [Nat.zero_add]; rfl
  | succ a ih => rw [Nat.succ_add]; show f (itf f (a + b) x) = f (itf f a (itf f b x)); rw [ih]
/-- A permutation of a list. -/
structure PermOn (f : Nat → Nat) (X : List Nat) : Prop where
  nd : X.Nodup
  clo : ∀ x, x ∈ X → f x ∈ X
  inj : ∀ x y, x ∈ X → y ∈ X → f x = f y → x = y
section
variable {f : Nat → Nat} {X : List Nat}
theorem PermOn.it (h : PermOn f X) {x : Nat} (hx : x ∈ X) : ∀ k, itf f k x ∈ X
  | 0 => hx
  | k + 1 => h.clo _ (h.it hx k)
theorem PermOn.it_inj (h : PermOn f X) {x y : Nat} (hx : x ∈ X) (hy : y ∈ X) : ∀ k, itf f k x = itf f k y → x = y
  | 0, e => e
  | k + 1, e => h.it_inj hx hy k (h.inj _ _ (h.it hx k) (h.it hy k) e)
structure Cyc (f : Nat → Nat) (x p : Nat) : Prop where
  pos : 1 ≤ p
  back : itf f p x = x
  least : ∀ q, 1 ≤ q → q < p → itf f q x ≠ x
theorem PermOn.cyc (h : PermOn f X) {x : Nat} (hx : x ∈ X) : ∃ p, Cyc f x p := by
  have hex : ∃ p, 1 ≤ p ∧ itf f p x = x := by
    apply Classical.byContradiction
    intro hc
    have hn : ((List.range (X.length + 1)).map fun i => itf f i x).Nodup := by
      rw [List.nodup_iff_pairwise_ne, List.pairwise_map]
      refine List.Pairwise.imp_of_mem ?_ (List.pairwise_lt_range (n := X.length + 1))
      intro a b ha hb hab e
      have e2 : itf f a (itf f (b - a) x) = itf f a x := by rw [← itf_add, show a + (b - a) = b by omega]; exact e.symm
      have := h.it_inj (h.it hx _) hx a e2
      exact hc ⟨b - a, by omega, this⟩
    have := sub_len _ X hn fun z hz => by
      obtain ⟨i, -, rfl⟩ := List.mem_map.1 hz
      exact h.it hx i
    simp only [List.length_map, List.length_range] at this
    omega
  obtain ⟨p, ⟨h1, h2⟩, h4⟩ := least_nat hex
  exact ⟨p, h1, h2, fun q hq hqp e => h4 q hqp ⟨hq, e⟩⟩
theorem Cyc.mul {x p : Nat} (h : Cyc f x p) : ∀ m, itf f (m * p) x = x
  | 0 => by rw [Nat.zero_mul]; rfl
  | m + 1 => by rw [Nat.succ_mul, itf_add, h.back]; exact h.mul m
theorem Cyc.mod {x p : Nat} (h : Cyc f x p) (k : Nat) : itf f k x = itf f (k % p) x := by
  have := Nat.mod_add_div k p
  have e : k = k % p + k / p * p := by rw [Nat.mul_comm]; exact this.symm
  conv => lhs; rw [e, itf_add, h.mul]
/-- Within one round no two steps meet. -/
theorem Cyc.apart (h : PermOn f X) {x p : Nat} (hx : x ∈ X) (c : Cyc f x p) {a b : Nat} (hab : a < b) (hb : b < a + p) : itf f a x ≠ itf f b x := by
  intro e
  have e2 : itf f a (itf f (b - a) x) = itf f a x := by rw [← itf_add, show a + (b - a) = b by omega]; exact e.symm
  exact c.least (b - a) (by omega) (by omega) (h.it_inj (h.it hx _) hx a e2)
/-- On one cycle. -/
def Orb (f : Nat → Nat) (x z : Nat) : Prop := ∃ k, z = itf f k x
theorem Orb.refl (f : Nat → Nat) (x : Nat) : Orb f x x := ⟨0, rfl⟩
theorem Orb.step {x z : Nat} (h : Orb f x z) : Orb f x (f z) := by
  obtain ⟨k, rfl⟩ := h
  exact ⟨k + 1, rfl⟩
theorem Orb.trans {x y z : Nat} (h : Orb f x y) (g : Orb f y z) : Orb f x z := by
  obtain ⟨k, rfl⟩ := h
  obtain ⟨m, rfl⟩ := g
  exact ⟨m + k, (itf_add _ _ _ _).symm⟩
theorem Orb.symm (h : PermOn f X) {x z : Nat} (hx : x ∈ X) (g : Orb f x z) : Orb f z x := by
  obtain ⟨p, c⟩ := h.cyc hx
  obtain ⟨k, rfl⟩ := g
  refine ⟨k * p - k, ?_⟩
  have : k ≤ k * p := Nat.le_mul_of_pos_right k c.pos
  rw [← itf_add, show k * p - k + k = k * p by omega, c.mul]
theorem Orb.mem (h : PermOn f X) {x z : Nat} (hx : x ∈ X) (g : Orb f x z) : z ∈ X := by
  obtain ⟨k, rfl⟩ := g
  exact h.it hx k
theorem Orb.upto (h : PermOn f X) {x z p : Nat} (hx : x ∈ X) (c : Cyc f x p) (g : Orb f x z) : ∃ k, 1 ≤ k ∧ k ≤ p ∧ z = itf f k x := by
  obtain ⟨k, rfl⟩ := g
  have hm := Nat.mod_lt k c.pos
  rw [c.mod k]
  by_cases e : k % p = 0
  · exact ⟨p, c.pos, Nat.le_refl _, by rw [e, c.back]; rfl⟩
  · exact ⟨k % p, by omega, by omega, rfl⟩
/-- The least of a cycle. -/
def isRepC (f : Nat → Nat) (x : Nat) : Prop := ∀ z, Orb f x z → x ≤ z
noncomputable def repsC (f : Nat → Nat) (X : List Nat) : List Nat := X.filter fun x => decide (isRepC f x)
/-- How many cycles there are. -/
noncomputable def cyc (f : Nat → Nat) (X : List Nat) : Nat := (repsC f X).length
theorem rep_of (h : PermOn f X) {x : Nat} (hx : x ∈ X) : ∃ r, r ∈ repsC f X ∧ Orb f x r := by
  obtain ⟨r, hr, hm⟩ := least_nat (P := fun z => Orb f x z) ⟨x, Orb.refl f x⟩
  refine ⟨r, List.mem_filter.2 ⟨hr.mem h hx, decide_eq_true fun z hz => ?_⟩, hr⟩
  apply Classical.byContradiction
  intro hc
  exact hm z (by omega) (hr.trans hz)
theorem rep_one (h : PermOn f X) {r s : Nat} (hr : r ∈ repsC f X) (hs : s ∈ repsC f X) (g : Orb f r s) : r = s := by
  obtain ⟨r1, r2⟩ := List.mem_filter.1 hr
  obtain ⟨s1, s2⟩ := List.mem_filter.1 hs
  have := of_decide_eq_true r2 s g
  have := of_decide_eq_true s2 r (g.symm h r1)
  omega
theorem nodup_onN {α β : Type} {f : α → β} {l : List α} (h : ∀ a, a ∈ l → ∀ b, b ∈ l → f a = f b → a = b) (hn : l.Nodup) : (l.map f).Nodup := by
  rw [List.nodup_iff_pairwise_ne, List.pairwise_map]
  exact List.Pairwise.imp_of_mem (fun ha hb hne e => hne (h _ ha _ hb e)) (List.nodup_iff_pairwise_ne.1 hn)
/-- As many cycles as keys, where a key tells the cycle. -/
theorem cyc_keys (h : PermOn f X) (κ : Nat → Nat) (hκ : ∀ x y, x ∈ X → y ∈ X → (κ x = κ y ↔ Orb f x y)) (K : List Nat) (hn : K.Nodup) (hK : ∀ k, k ∈ K ↔ ∃ x, x ∈ X ∧ κ x = k) : cyc f X = K.length := by
  have hX : ∀ {r}, r ∈ repsC f X → r ∈ X := fun hr => (List.mem_filter.1 hr).1
  have h1 := sub_len ((repsC f X).map κ) K (nodup_onN (fun a ha b hb e => rep_one h ha hb ((hκ a b (hX ha) (hX hb)).1 e)) (List.Pairwise.filter _ h.nd)) (fun k hk => by
    obtain ⟨r, hr, rfl⟩ := List.mem_map.1 hk
    exact (hK _).2 ⟨r, hX hr, rfl⟩)
  have h2 := sub_len K ((repsC f X).map κ) hn (fun k hk => by
    obtain ⟨x, hx, rfl⟩ := (hK k).1 hk
    obtain ⟨r, hr, ho⟩ := rep_of h hx
    exact List.mem_map.2 ⟨r, hr, ((hκ x r hx (hX hr)).2 ho).symm⟩)
  rw [List.length_map] at h1 h2
  unfold cyc
  omega
theorem itf_congr {g : Nat → Nat} (h : PermOn f X) (hfg : ∀ x, x ∈ X → f x = g x) {x : Nat} (hx : x ∈ X) : ∀ k, itf f k x = itf g k x
  | 0 => rfl
  | k + 1 => by
    have := itf_congr h hfg hx k
    show f (itf f k x) = g (itf g k x)
    rw [hfg _ (h.it hx k), this]
theorem cyc_congr {g : Nat → Nat} (h : PermOn f X) (hfg : ∀ x, x ∈ X → f x = g x) : cyc f X = cyc g X := by
  unfold cyc repsC
  congr 1
  refine List.filter_congr fun x hx => ?_
  have : isRepC f x ↔ isRepC g x := by
    constructor
    · rintro a z ⟨k, rfl⟩
      exact a _ ⟨k, (itf_congr h hfg hx k).symm⟩
    · rintro a z ⟨k, rfl⟩
      exact a _ ⟨k, itf_congr h hfg hx k⟩
  by_cases e : isRepC f x
  · rw [decide_eq_true e, decide_eq_true (this.1 e)]
  · rw [decide_eq_false e, decide_eq_false (fun a => e (this.2 a))]
/-- Two numbers swapped. -/
def swp (x y z : Nat) : Nat := if z = x then y else if z = y then x else z
theorem swp_l (x y : Nat) : swp x y x = y := by unfold swp; rw [if_pos rfl]
theorem swp_r (x y : Nat) : swp x y y = x := by
  unfold swp
  by_cases e : y = x
  · rw [if_pos e, e]
  · rw [if_neg e, if_pos rfl]
theorem swp_o {x y z : Nat} (h1 : z ≠ x) (h2 : z ≠ y) : swp x y z = z := by unfold swp; rw [if_neg h1, if_neg h2]
theorem swp_swp (x y z : Nat) : swp x y (swp x y z) = z := by
  by_cases h1 : z = x
  · rw [h1, swp_l, swp_r]
  · by_cases h2 : z = y
    · rw [h2, swp_r, swp_l]
    · rw [swp_o h1 h2, swp_o h1 h2]
/-- A function, the two swapped ahead. -/
def swf (f : Nat → Nat) (x y : Nat) : Nat → Nat := fun z => f (swp x y z)
theorem swf_swf (f : Nat → Nat) (x y : Nat) : swf (swf f x y) x y = f := by
  funext z
  show f (swp x y (swp x y z)) = f z
  rw [swp_swp]
theorem swp_mem {x y z : Nat} (hx : x ∈ X) (hy : y ∈ X) (hz : z ∈ X) : swp x y z ∈ X := by
  unfold swp
  split
  · exact hy
  · split
    · exact hx
    · exact hz
theorem PermOn.swf (h : PermOn f X) {x y : Nat} (hx : x ∈ X) (hy : y ∈ X) : PermOn (swf f x y) X where
  nd := h.nd
  clo z hz := h.clo _ (swp_mem hx hy hz)
  inj a b ha hb e := by
    have := h.inj _ _ (swp_mem hx hy ha) (swp_mem hx hy hb) e
    have := congrArg (swp x y) this
    rwa [swp_swp, swp_swp] at this
/-- Along the cycle of y, from x on. -/
theorem swf_run (h : PermOn f X) {x y q : Nat} (hy : y ∈ X) (hno : ¬ Orb f y x) (c : Cyc f y q) : ∀ i, 1 ≤ i → i ≤ q → itf (swf f x y) i x = itf f i y
  | 0, h1, _ => by omega
  | 1, _, _ => by show f (swp x y x) = f y; rw [swp_l]
  | i + 2, _, h2 => by
    have ih := swf_run h hy hno c (i + 1) (by omega) (by omega)
    show f (swp x y (itf (swf f x y) (i + 1) x)) = f (itf f (i + 1) y)
    rw [ih, swp_o (fun e => hno ⟨i + 1, e.symm⟩) (c.least (i + 1) (by omega) (by omega))]
theorem swf_comm (f : Nat → Nat) (x y : Nat) : swf f x y = swf f y x := by
  funext z
  show f (swp x y z) = f (swp y x z)
  congr 1
  by_cases h1 : z = x
  · rw [h1, swp_l, swp_r]
  · by_cases h2 : z = y
    · rw [h2, swp_r, swp_l]
    · rw [swp_o h1 h2, swp_o h2 h1]
/-- TWO CYCLES BECOME ONE. -/
theorem cyc_merge (h : PermOn f X) {x y : Nat} (hx : x ∈ X) (hy : y ∈ X) (hno : ¬ Orb f x y) : cyc (swf f x y) X + 1 = cyc f X := by
  have hno' : ¬ Orb f y x := fun g => hno (g.symm h hy)
  have h' := h.swf hx hy
  obtain ⟨p, cp⟩ := h.cyc hx
  obtain ⟨q, cq⟩ := h.cyc hy
  -- the cycles of both are one
  have ry : ∀ z, Orb f y z → Orb (swf f x y) x z := fun z hz => by
    obtain ⟨k, k1, k2, rfl⟩ := hz.upto h hy cq
    exact ⟨k, (swf_run h hy hno' cq k k1 k2).symm⟩
  have rx : ∀ z, Orb f x z → Orb (swf f x y) y z := fun z hz => by
    obtain ⟨k, k1, k2, rfl⟩ := hz.upto h hx cp
    exact ⟨k, by rw [swf_comm]; exact (swf_run h hx hno cp k k1 k2).symm⟩
  have hxy : Orb (swf f x y) x y := ry y (Orb.refl f y)
  have all : ∀ z, Orb f x z ∨ Orb f y z → Orb (swf f x y) x z := fun z hz => by
    rcases hz with g | g
    · exact hxy.trans (rx z g)
    · exact ry z g
  have oth : ∀ z, z ∈ X → ¬ Orb f x z → ¬ Orb f y z → ∀ k, itf (swf f x y) k z = itf f k z := fun z hz n1 n2 k => by
    induction k with
    | zero => rfl
    | succ k ih =>
      show f (swp x y (itf (swf f x y) k z)) = f (itf f k z)
      rw [ih, swp_o (fun e => n1 (Orb.symm h hz ⟨k, e.symm⟩)) (fun e => n2 (Orb.symm h hz ⟨k, e.symm⟩))]
  obtain ⟨ρ, hρ⟩ : ∃ ρ : Nat → Nat, ∀ z, z ∈ X → ρ z ∈ repsC f X ∧ Orb f z (ρ z) := by
    have hall : ∀ z, ∃ r, z ∈ X → r ∈ repsC f X ∧ Orb f z r := fun z => by
      by_cases hz : z ∈ X
      · obtain ⟨r, h1, h2⟩ := rep_of h hz
        exact ⟨r, fun _ => ⟨h1, h2⟩⟩
      · exact ⟨0, fun g => absurd g hz⟩
    exact Classical.skolem.1 hall
  have ρiff : ∀ z w, z ∈ X → w ∈ X → (ρ z = ρ w ↔ Orb f z w) := fun z w hz hw => by
    constructor
    · intro e
      exact (hρ z hz).2.trans (by rw [e]; exact (hρ w hw).2.symm h hw)
    · intro g
      exact rep_one h (hρ z hz).1 (hρ w hw).1 (((hρ z hz).2.symm h hz).trans (g.trans (hρ w hw).2))
  have ρne : ρ x ≠ ρ y := fun e => hno ((ρiff x y hx hy).1 e)
  have hmem : ∀ r, r ∈ repsC f X → r ∈ X := fun r hr => (List.mem_filter.1 hr).1
  have ρself : ∀ r, r ∈ repsC f X → ρ r = r := fun r hr => (rep_one h hr (hρ r (hmem r hr)).1 (hρ r (hmem r hr)).2).symm
  have key := cyc_keys h' (fun z => if ρ z = ρ y then ρ x else ρ z) ?_ ((repsC f X).erase (ρ y)) ((List.Pairwise.filter _ h.nd).erase _) ?_
  · rw [key, List.length_erase_of_mem (hρ y hy).1]
    have : 0 < (repsC f X).length := List.length_pos_of_mem (hρ y hy).1
    unfold cyc
    omega
  · intro z w hz hw
    have orbx : ∀ u, u ∈ X → ρ u = ρ x → Orb (swf f x y) x u := fun u hu e => all u (.inl (((ρiff u x hu hx).1 e).symm h hu))
    have orby : ∀ u, u ∈ X → ρ u = ρ y → Orb (swf f x y) x u := fun u hu e => all u (.inr (((ρiff u y hu hy).1 e).symm h hu))
    constructor
    · intro e
      by_cases e1 : ρ z = ρ y
      · have zx := orby z hz e1
        refine (zx.symm h' hx).trans ?_
        by_cases e2 : ρ w = ρ y
        · exact orby w hw e2
        · rw [if_pos e1, if_neg e2] at e
          exact orbx w hw e.symm
      · by_cases e2 : ρ w = ρ y
        · rw [if_neg e1, if_pos e2] at e
          exact ((orbx z hz e).symm h' hx).trans (orby w hw e2)
        · rw [if_neg e1, if_neg e2] at e
          by_cases e3 : ρ z = ρ x
          · exact ((orbx z hz e3).symm h' hx).trans (orbx w hw (by rw [← e, e3]))
          · obtain ⟨k, hk⟩ := (ρiff z w hz hw).1 e
            refine ⟨k, ?_⟩
            rw [oth z hz (fun g => e3 ((ρiff z x hz hx).2 (g.symm h hx))) (fun g => e1 ((ρiff z y hz hy).2 (g.symm h hy))) k, hk]
    · rintro ⟨k, rfl⟩
      have st : ∀ u, u ∈ X → (if ρ (swf f x y u) = ρ y then ρ x else ρ (swf f x y u)) = if ρ u = ρ y then ρ x else ρ u := fun u hu => by
        have fρ : ∀ v, v ∈ X → ρ (f v) = ρ v := fun v hv => ((ρiff v (f v) hv (h.clo v hv)).2 (Orb.step (Orb.refl f v))).symm
        by_cases u1 : u = x
        · rw [u1]
          show (if ρ (f (swp x y x)) = ρ y then ρ x else ρ (f (swp x y x))) = _
          rw [swp_l, fρ y hy, if_pos rfl, if_neg ρne]
        · by_cases u2 : u = y
          · rw [u2]
            show (if ρ (f (swp x y y)) = ρ y then ρ x else ρ (f (swp x y y))) = _
            rw [swp_r, fρ x hx, if_neg ρne, if_pos rfl]
          · show (if ρ (f (swp x y u)) = ρ y then ρ x else ρ (f (swp x y u))) = _
            rw [swp_o u1 u2, fρ u hu]
      clear hw
      induction k with
      | zero => rfl
      | succ k ih => rw [ih]; exact (st _ (h'.it hz k)).symm
  · intro k
    have hnr : (repsC f X).Nodup := List.Pairwise.filter _ h.nd
    rw [hnr.mem_erase_iff]
    constructor
    · rintro ⟨k1, k2⟩
      refine ⟨k, hmem k k2, ?_⟩
      rw [ρself k k2, if_neg k1]
    · rintro ⟨z, hz, rfl⟩
      by_cases e : ρ z = ρ y
      · rw [if_pos e]; exact ⟨ρne, (hρ x hx).1⟩
      · rw [if_neg e]; exact ⟨e, (hρ z hz).1⟩
/-- Two on one cycle come apart. -/
theorem swf_apart (h : PermOn f X) {x y : Nat} (hx : x ∈ X) (hne : x ≠ y) (g : Orb f x y) : ¬ Orb (swf f x y) x y := by
  obtain ⟨p, c⟩ := h.cyc hx
  obtain ⟨k, k1, k2, rfl⟩ := g.upto h hx c
  have hkp : k < p := by
    rcases Nat.lt_or_ge k p with l | l
    · exact l
    · exact absurd (by rw [show k = p by omega, c.back]) hne
  have run : ∀ i, ∃ j, k < j ∧ j ≤ p ∧ itf (swf f x (itf f k x)) i x = itf f j x := fun i => by
    induction i with
    | zero => exact ⟨p, hkp, Nat.le_refl _, c.back.symm⟩
    | succ i ih =>
      obtain ⟨j, j1, j2, e⟩ := ih
      show ∃ j, k < j ∧ j ≤ p ∧ f (swp x (itf f k x) (itf (swf f x (itf f k x)) i x)) = itf f j x
      rw [e]
      by_cases hj : j = p
      · rw [hj, c.back, swp_l]
        exact ⟨k + 1, by omega, by omega, rfl⟩
      · rw [swp_o (c.least j (by omega) (by omega)) (fun e2 => c.apart h hx j1 (by omega) e2.symm)]
        exact ⟨j + 1, by omega, by omega, rfl⟩
  rintro ⟨i, hi⟩
  obtain ⟨j, j1, j2, e⟩ := run i
  rw [e] at hi
  exact c.apart h hx j1 (by omega) hi
/-- One cycle becomes two. -/
theorem cyc_split (h : PermOn f X) {x y : Nat} (hx : x ∈ X) (hy : y ∈ X) (hne : x ≠ y) (g : Orb f x y) : cyc (swf f x y) X = cyc f X + 1 := by
  have := cyc_merge (h.swf hx hy) hx hy (swf_apart h hx hne g)
  rw [swf_swf] at this
  exact this.symm
end
section
variable {n : Nat} {T : List Tr} {L : Nat → Int}
/-- The corners of a shell. -/
def cornersOf (T : List Tr) (L : Nat → Int) (k : Int) : List Nat := (List.range (3 * T.length)).filter fun x => decide (L (x / 3) = k)
theorem corners_mem {k : Int} {c : Nat} : c ∈ cornersOf T L k ↔ c < 3 * T.length ∧ L (c / 3) = k := by simp [cornersOf]
theorem corners_nodup (T : List Tr) (L : Nat → Int) (k : Int) : (cornersOf T L k).Nodup := nodup_rf _ _
/-- Glued edges: both sides, within a shell. -/
structure Glue (T : List Tr) (L : Nat → Int) (k : Int) (S : Nat → Prop) : Prop where
  mem : ∀ c, S c → c ∈ cornersOf T L k
  nb : ∀ c, S c → 0 ≤ opp T (c : Nat)
  sym : ∀ c, S c → S (opp T (c : Nat)).toNat
/-- Across a glued edge, and on within the triangle. -/
noncomputable def th (T : List Tr) (S : Nat → Prop) (c : Nat) : Nat := nxn (if S c then (opp T (c : Nat)).toNat else c)
theorem opp_pair (hs : Surf n T) (hL : IsShells (Adj T) T.length L) {k : Int} {c : Nat} (hc : c ∈ cornersOf T L k) (h : 0 ≤ opp T (c : Nat)) : ∃ o : Nat, opp T (c : Nat) = (o : Int) ∧ o ∈ cornersOf T L k ∧ opp T (o : Nat) = (c : Int) ∧ o ≠ c ∧ vt T (nxn o : Nat) = vt T (pvn c : Nat) ∧ vt T (pvn o : Nat) = vt T (nxn c : Nat) := by
  obtain ⟨h1, h2⟩ := corners_mem.1 hc
  obtain ⟨o, e, ho, eo, e1, e2⟩ := hs.opp_opp h1 h
  refine ⟨o, e, corners_mem.2 ⟨ho, by rw [shell_opp hs hL h1 e, h2]⟩, eo, ?_, e1, e2⟩
  rintro rfl
  exact ends_ne hs h1 e1
theorem nxn_inj {a b : Nat} (h : nxn a = nxn b) : a = b := by
  have := congrArg pvn h
  rwa [pvn_nxn, pvn_nxn] at this
theorem nxn_in {k : Int} {c : Nat} (h : c ∈ cornersOf T L k) : nxn c ∈ cornersOf T L k := by
  obtain ⟨h1, h2⟩ := corners_mem.1 h
  exact corners_mem.2 ⟨nxn_lt h1, by rw [nxn_div, h2]⟩
theorem th_perm (hs : Surf n T) (hL : IsShells (Adj T) T.length L) {k : Int} {S : Nat → Prop} (h : Glue T L k S) : PermOn (th T S) (cornersOf T L k) where
  nd := corners_nodup _ _ _
  clo c hc := by
    unfold th
    by_cases e : S c
    · rw [if_pos e]; exact nxn_in (h.mem _ (h.sym c e))
    · rw [if_neg e]; exact nxn_in hc
  inj a b ha hb e := by
    unfold th at e
    have e := nxn_inj e
    by_cases sa : S a
    · by_cases sb : S b
      · rw [if_pos sa, if_pos sb] at e
        obtain ⟨o, o1, -, o3, -⟩ := opp_pair hs hL ha (h.nb a sa)
        obtain ⟨q, q1, -, q3, -⟩ := opp_pair hs hL hb (h.nb b sb)
        rw [o1, q1, Int.toNat_natCast, Int.toNat_natCast] at e
        rw [e, q3] at o3
        exact (Int.ofNat.inj o3).symm
      · rw [if_pos sa, if_neg sb] at e
        exact absurd (by rw [← e]; exact h.sym a sa) sb
    · by_cases sb : S b
      · rw [if_neg sa, if_pos sb] at e
        exact absurd (by rw [e]; exact h.sym b sb) sa
      · rw [if_neg sa, if_neg sb] at e
        exact e
/-- One edge more. -/
def glu (T : List Tr) (S : Nat → Prop) (x : Nat) (c : Nat) : Prop := S c ∨ c = x ∨ c = (opp T (x : Nat)).toNat
theorem glu_ok (hs : Surf n T) (hL : IsShells (Adj T) T.length L) {k : Int} {S : Nat → Prop} (h : Glue T L k S) {x : Nat} (hx : x ∈ cornersOf T L k) (ho : 0 ≤ opp T (x : Nat)) : Glue T L k (glu T S x) := by
  obtain ⟨o, o1, o2, o3, -⟩ := opp_pair hs hL hx ho
  refine ⟨?_, ?_, ?_⟩
  · rintro c (g | rfl | rfl)
    · exact h.mem c g
    · exact hx
    · rw [o1, Int.toNat_natCast]; exact o2
  · rintro c (g | rfl | rfl)
    · exact h.nb c g
    · exact ho
    · rw [o1, Int.toNat_natCast, o3]; omega
  · rintro c (g | rfl | rfl)
    · exact .inl (h.sym c g)
    · exact .inr (.inr rfl)
    · refine .inr (.inl ?_)
      rw [o1, Int.toNat_natCast, o3, Int.toNat_natCast]
theorem th_glu (hs : Surf n T) (hL : IsShells (Adj T) T.length L) {k : Int} {S : Nat → Prop} (h : Glue T L k S) {x : Nat} (hx : x ∈ cornersOf T L k) (ho : 0 ≤ opp T (x : Nat)) (hn : ¬ S x) : th T (glu T S x) = swf (th T S) x (opp T (x : Nat)).toNat := by
  obtain ⟨o, o1, o2, o3, hne, -⟩ := opp_pair hs hL hx ho
  have hno : ¬ S o := fun g => hn (by have := h.sym o g; rwa [o3, Int.toNat_natCast] at this)
  rw [o1, Int.toNat_natCast]
  funext c
  show nxn _ = nxn _
  congr 1
  have hg : glu T S x c ↔ S c ∨ c = x ∨ c = o := by unfold glu; rw [o1, Int.toNat_natCast]
  by_cases e1 : c = x
  · subst e1
    rw [if_pos (hg.2 (.inr (.inl rfl))), swp_l, if_neg hno, o1, Int.toNat_natCast]
  · by_cases e2 : c = o
    · subst e2
      rw [if_pos (hg.2 (.inr (.inr rfl))), swp_r, if_neg hn, o3, Int.toNat_natCast]
    · rw [swp_o e1 e2]
      by_cases e3 : S c
      · rw [if_pos (hg.2 (.inl e3)), if_pos e3]
      · rw [if_neg (fun g => by rcases hg.1 g with g | g | g <;> contradiction), if_neg e3]
/-- One edge more makes a cycle more or less. -/
theorem glu_one (hs : Surf n T) (hL : IsShells (Adj T) T.length L) {k : Int} {S : Nat → Prop} (h : Glue T L k S) {x : Nat} (hx : x ∈ cornersOf T L k) (ho : 0 ≤ opp T (x : Nat)) (hn : ¬ S x) :
    cyc (th T (glu T S x)) (cornersOf T L k) = cyc (th T S) (cornersOf T L k) + 1 ∨ cyc (th T (glu T S x)) (cornersOf T L k) + 1 = cyc (th T S) (cornersOf T L k) := by
  obtain ⟨o, o1, o2, o3, hne, -⟩ := opp_pair hs hL hx ho
  rw [th_glu hs hL h hx ho hn, o1, Int.toNat_natCast]
  by_cases g : Orb (th T S) x o
  · exact .inl (cyc_split (th_perm hs hL h) hx o2 (Ne.symm hne) g)
  · exact .inr (cyc_merge (th_perm hs hL h) hx o2 g)
/-- The edges that are not glued yet, by both sides. -/
noncomputable def left (T : List Tr) (L : Nat → Int) (k : Int) (S : Nat → Prop) : List Nat := (cornersOf T L k).filter fun c => decide (0 ≤ opp T (c : Nat) ∧ ¬ S c)
theorem left_mem {k : Int} {S : Nat → Prop} {c : Nat} : c ∈ left T L k S ↔ c ∈ cornersOf T L k ∧ 0 ≤ opp T (c : Nat) ∧ ¬ S c := by simp [left]
theorem filt_one {p q : Nat → Bool} {l : List Nat} {x : Nat} (hn : l.Nodup) (hx : x ∈ l) (hp : p x = true) (hq : ∀ c, q c = (p c && decide (c ≠ x))) : (l.filter q).length + 1 = (l.filter p).length := by
  have h1 : l.filter q = (l.filter p).erase x := by
    rw [List.Nodup.erase_eq_filter (List.Pairwise.filter _ hn), List.filter_filter]
    refine List.filter_congr fun c _ => ?_
    rw [hq c]
    by_cases e : c = x <;> cases h : p c <;> simp [e]
  have hm : x ∈ l.filter p := List.mem_filter.2 ⟨hx, hp⟩
  rw [h1, List.length_erase_of_mem hm]
  have := List.length_pos_of_mem hm
  omega
theorem left_glu (hs : Surf n T) (hL : IsShells (Adj T) T.length L) {k : Int} {S : Nat → Prop} (h : Glue T L k S) {x : Nat} (hx : x ∈ cornersOf T L k) (ho : 0 ≤ opp T (x : Nat)) (hn : ¬ S x) : (left T L k (glu T S x)).length + 2 = (left T L k S).length := by
  obtain ⟨o, o1, o2, o3, hne, -⟩ := opp_pair hs hL hx ho
  have hno : ¬ S o := fun g => hn (by have := h.sym o g; rwa [o3, Int.toNat_natCast] at this)
  have hg : ∀ c, glu T S x c ↔ S c ∨ c = x ∨ c = o := fun c => by unfold glu; rw [o1, Int.toNat_natCast]
  have a1 := filt_one (p := fun c => decide (0 ≤ opp T (c : Nat) ∧ ¬ S c)) (q := fun c => decide (0 ≤ opp T (c : Nat) ∧ ¬ S c) && decide (c ≠ x)) (corners_nodup T L k) hx (by simp [ho, hn]) (fun c => rfl)
  have a2 := filt_one (p := fun c => decide (0 ≤ opp T (c : Nat) ∧ ¬ S c) && decide (c ≠ x)) (q := fun c => decide (0 ≤ opp T (c : Nat) ∧ ¬ glu T S x c)) (corners_nodup T L k) o2 (by simp [o3, hno, hne]) (fun c => by
    rw [Bool.eq_iff_iff]
    simp only [Bool.and_eq_true, decide_eq_true_eq, hg c, not_or, and_assoc, ne_eq])
  unfold left
  omega
/-- All edges glued. -/
def allG (T : List Tr) (L : Nat → Int) (k : Int) (c : Nat) : Prop := c ∈ cornersOf T L k ∧ 0 ≤ opp T (c : Nat)
theorem all_glue (hs : Surf n T) (hL : IsShells (Adj T) T.length L) (k : Int) : Glue T L k (allG T L k) := by
  refine ⟨fun c h => h.1, fun c h => h.2, fun c h => ?_⟩
  obtain ⟨o, o1, o2, o3, -⟩ := opp_pair hs hL h.1 h.2
  rw [o1, Int.toNat_natCast]
  exact ⟨o2, by omega⟩
/-- The other edges make as many cycles more, or fewer by twos. -/
theorem glue_rest (hs : Surf n T) (hL : IsShells (Adj T) T.length L) (k : Int) : ∀ (r : Nat) (S : Nat → Prop), Glue T L k S → (left T L k S).length = 2 * r →
    cyc (th T (allG T L k)) (cornersOf T L k) ≤ cyc (th T S) (cornersOf T L k) + r ∧ (cyc (th T (allG T L k)) (cornersOf T L k) + cyc (th T S) (cornersOf T L k) + r) % 2 = 0
  | 0, S, h, hl => by
    have he : cyc (th T (allG T L k)) (cornersOf T L k) = cyc (th T S) (cornersOf T L k) := by
      refine cyc_congr (th_perm hs hL (all_glue hs hL k)) fun c hc => ?_
      have hll := List.eq_nil_of_length_eq_zero (by rw [hl])
      have : allG T L k c ↔ S c := by
        constructor
        · intro g
          apply Classical.byContradiction
          intro hn
          have : c ∈ left T L k S := left_mem.2 ⟨hc, g.2, hn⟩
          rw [hll] at this
          cases this
        · intro g
          exact ⟨hc, h.nb c g⟩
      unfold th
      by_cases e : S c
      · rw [if_pos e, if_pos (this.2 e)]
      · rw [if_neg e, if_neg (fun g => e (this.1 g))]
    rw [he]
    omega
  | r + 1, S, h, hl => by
    obtain ⟨x, hx⟩ := List.exists_mem_of_length_pos (l := left T L k S) (by omega)
    obtain ⟨x1, x2, x3⟩ := left_mem.1 hx
    have hl' := left_glu hs hL h x1 x2 x3
    obtain ⟨i1, i2⟩ := glue_rest hs hL k r (glu T S x) (glu_ok hs hL h x1 x2) (by omega)
    rcases glu_one hs hL h x1 x2 x3 with g | g <;> omega
end
section
variable {n : Nat} {T : List Tr} {L : Nat → Int}
/-- The triangles of a shell. -/
def trisOf (T : List Tr) (L : Nat → Int) (k : Int) : List Nat := (List.range T.length).filter fun t => decide (L t = k)
theorem tris_mem {k : Int} {t : Nat} : t ∈ trisOf T L k ↔ t < T.length ∧ L t = k := by simp [trisOf]
theorem tris_length (T : List Tr) (L : Nat → Int) (k : Nat) : (trisOf T L (k : Int)).length = nF T L k := rfl
theorem nxn_nxn (c : Nat) : nxn (nxn c) = pvn c := by unfold nxn pvn; omega
theorem pvn_pvn (c : Nat) : pvn (pvn c) = nxn c := by unfold nxn pvn; omega
def noG (_ : Nat) : Prop := False
theorem no_glue (T : List Tr) (L : Nat → Int) (k : Int) : Glue T L k noG := ⟨fun _ h => h.elim, fun _ h => h.elim, fun _ h => h.elim⟩
theorem th_free {S : Nat → Prop} {c : Nat} (h : ¬ S c) : th T S c = nxn c := by unfold th; rw [if_neg h]
theorem cyc_none (hs : Surf n T) (hL : IsShells (Adj T) T.length L) (k : Nat) : cyc (th T noG) (cornersOf T L (k : Int)) = nF T L k := by
  rw [← tris_length]
  refine cyc_keys (th_perm hs hL (no_glue T L k)) (fun c => c / 3) ?_ _ (nodup_rf _ _) ?_
  · intro x y hx hy
    constructor
    · intro e
      rcases three_of x y e.symm with rfl | rfl | rfl
      · exact Orb.refl _ _
      · exact ⟨1, (th_free (fun h => h)).symm⟩
      · refine ⟨2, ?_⟩
        show pvn x = th T noG (th T noG x)
        rw [th_free (fun h => h), th_free (fun h => h), nxn_nxn]
    · rintro ⟨i, rfl⟩
      clear hy
      induction i with
      | zero => rfl
      | succ i ih =>
        show x / 3 = th T noG (itf (th T noG) i x) / 3
        rw [th_free (fun h => h), nxn_div]
        exact ih
  · intro t
    constructor
    · intro h
      obtain ⟨h1, h2⟩ := tris_mem.1 h
      exact ⟨3 * t, corners_mem.2 ⟨by omega, by rw [show 3 * t / 3 = t by omega]; exact h2⟩, by omega⟩
    · rintro ⟨x, hx, rfl⟩
      obtain ⟨h1, h2⟩ := corners_mem.1 hx
      exact tris_mem.2 ⟨by omega, h2⟩
/-- Where a chain leaves a set. -/
theorem conn_leaves {A : Nat → Nat → Prop} {P : Nat → Prop} {a b : Nat} (h : Conn A a b) (ha : P a) (hb : ¬ P b) : ∃ x y, P x ∧ ¬ P y ∧ (A x y ∨ A y x) := by
  induction h with
  | refl => exact absurd ha hb
  | @step y z _ s ih =>
    by_cases e : P y
    · exact ⟨y, z, e, hb, .inl s⟩
    · exact ih e
  | @back y z _ s ih =>
    by_cases e : P y
    · exact ⟨y, z, e, hb, .inr s⟩
    · exact ih e
theorem glue_tree (hs : Surf n T) (hL : IsShells (Adj T) T.length L) (k : Nat) : ∀ j, j + 1 ≤ nF T L k → ∃ (S : Nat → Prop) (R : List Nat), Glue T L k S ∧ R.Nodup ∧ R.length = j + 1 ∧ (∀ t, t ∈ R → t ∈ trisOf T L (k : Int)) ∧ (∀ c, S c → c / 3 ∈ R) ∧
      (left T L k S).length + 2 * j = (left T L k noG).length ∧ cyc (th T S) (cornersOf T L (k : Int)) + j = nF T L k
  | 0, h => by
    rw [← tris_length] at h
    obtain ⟨t, ht⟩ := List.exists_mem_of_length_pos (l := trisOf T L (k : Int)) (by omega)
    exact ⟨noG, [t], no_glue T L k, by simp, rfl, fun u hu => by
      have : u = t := by simpa using hu
      rw [this]; exact ht, fun _ h => h.elim, rfl, cyc_none hs hL k⟩
  | j + 1, h => by
    obtain ⟨S, R, hS, hR, hlen, hsub, hin, hleft, hcyc⟩ := glue_tree hs hL k j (by omega)
    have hout : ∃ t, t ∈ trisOf T L (k : Int) ∧ t ∉ R := by
      apply Classical.byContradiction
      intro hc
      have := sub_len (trisOf T L (k : Int)) R (nodup_rf _ _) (fun t ht => by
        apply Classical.byContradiction
        intro g
        exact hc ⟨t, ht, g⟩)
      rw [tris_length] at this
      omega
    obtain ⟨t1, ht1, hn1⟩ := hout
    obtain ⟨t0, ht0⟩ := List.exists_mem_of_length_pos (l := R) (by omega)
    have m0 := tris_mem.1 (hsub t0 ht0)
    have m1 := tris_mem.1 ht1
    obtain ⟨x, y, hx, hy, hadj⟩ := conn_leaves (P := fun t => t ∈ R) (hL.con t0 t1 m0.1 m1.1 (by rw [m0.2, m1.2])) ht0 hn1
    have hA : Adj T x y := hadj.elim (fun a => a) (fun a => hs.adj_symm a)
    have mx := tris_mem.1 (hsub x hx)
    have hyl := (hs.adj_nb hA).2.1
    have hyL : L y = (k : Int) := by rw [hL.clo x y mx.1 hyl hA, mx.2]
    obtain ⟨i, hi, h0, he⟩ := hA
    obtain ⟨c, hc⟩ : ∃ c, c = 3 * x + i := ⟨_, rfl⟩
    have hci : (3 : Int) * (x : Int) + (i : Int) = ((c : Nat) : Int) := by omega
    rw [hci] at h0 he
    have hcx : c / 3 = x := by omega
    have hcm : c ∈ cornersOf T L (k : Int) := corners_mem.2 ⟨by have := mx.1; omega, by rw [hcx]; exact mx.2⟩
    obtain ⟨o, o1, o2, o3, hne, -⟩ := opp_pair hs hL hcm h0
    rw [o1, Int.toNat_natCast] at he
    have hno : ¬ S o := fun g => hy (by have := hin o g; rwa [he] at this)
    have hn : ¬ S c := fun g => hno (by have := hS.sym c g; rwa [o1, Int.toNat_natCast] at this)
    have stay : ∀ q, itf (th T S) q o / 3 = y := fun q => by
      induction q with
      | zero => exact he
      | succ q ih =>
        show th T S (itf (th T S) q o) / 3 = y
        rw [th_free (fun g => hy (by have := hin _ g; rwa [ih] at this)), nxn_div]
        exact ih
    have hapart : ¬ Orb (th T S) c o := fun g => by
      obtain ⟨q, hq⟩ := g.symm (th_perm hs hL hS) hcm
      have := stay q
      rw [← hq, hcx] at this
      exact hy (by rw [← this]; exact hx)
    refine ⟨glu T S c, y :: R, glu_ok hs hL hS hcm h0, List.nodup_cons.2 ⟨hy, hR⟩, by simp [hlen], ?_, ?_, ?_, ?_⟩
    · intro t ht
      rcases List.mem_cons.1 ht with rfl | ht
      · exact tris_mem.2 ⟨hyl, hyL⟩
      · exact hsub t ht
    · rintro d (g | rfl | rfl)
      · exact List.mem_cons_of_mem _ (hin d g)
      · rw [hcx]; exact List.mem_cons_of_mem _ hx
      · rw [o1, Int.toNat_natCast, he]; exact List.mem_cons_self
    · have := left_glu hs hL hS hcm h0 hn
      omega
    · rw [th_glu hs hL hS hcm h0 hn, o1, Int.toNat_natCast]
      have := cyc_merge (th_perm hs hL hS) hcm o2 hapart
      omega
theorem corners_length (T : List Tr) (L : Nat → Int) (k : Nat) : (cornersOf T L (k : Int)).length = 3 * nF T L k := cntK_three L k T.length
theorem left_none (T : List Tr) (L : Nat → Int) (k : Nat) : (left T L k noG).length + (bordOf T L (k : Int)).length = 3 * nF T L k := by
  rw [← corners_length]
  have h := filt_split (fun c => decide (0 ≤ opp T (c : Nat))) (cornersOf T L (k : Int))
  have e1 : left T L k noG = (cornersOf T L (k : Int)).filter fun c => decide (0 ≤ opp T (c : Nat)) := by
    unfold left
    refine List.filter_congr fun c _ => ?_
    rw [Bool.eq_iff_iff]
    simp [noG]
  have e2 : bordOf T L (k : Int) = (cornersOf T L (k : Int)).filter fun c => !decide (0 ≤ opp T (c : Nat)) := by
    unfold bordOf cornersOf
    rw [List.filter_filter]
    refine List.filter_congr fun c _ => ?_
    rw [Bool.eq_iff_iff]
    simp only [Bool.and_eq_true, decide_eq_true_eq, Bool.not_eq_true', decide_eq_false_iff_not]
    constructor
    · rintro ⟨a, b⟩; exact ⟨by omega, a⟩
    · rintro ⟨a, b⟩; exact ⟨b, by omega⟩
  rw [e1, e2]
  exact h.symm
/-- No more cycles than that; as many, but for twos. -/
theorem cyc_all (hs : Surf n T) (hL : IsShells (Adj T) T.length L) {k : Nat} (hF : 1 ≤ nF T L k) :
    2 * cyc (th T (allG T L k)) (cornersOf T L (k : Int)) + (bordOf T L (k : Int)).length ≤ 4 + nF T L k ∧ ∃ q : Nat, 4 + nF T L k = 2 * cyc (th T (allG T L k)) (cornersOf T L (k : Int)) + (bordOf T L (k : Int)).length + 4 * q := by
  obtain ⟨S, R, hS, -, -, -, -, hleft, hcyc⟩ := glue_tree hs hL k (nF T L k - 1) (by omega)
  have hn := left_none T L k
  have hev := nT_even hs hL k
  rw [nT_bord] at hev
  obtain ⟨h1, h2⟩ := glue_rest hs hL (k : Int) ((left T L k S).length / 2) S hS (by omega)
  constructor
  · omega
  · refine ⟨(4 + nF T L k - (2 * cyc (th T (allG T L k)) (cornersOf T L (k : Int)) + (bordOf T L (k : Int)).length)) / 4, ?_⟩
    omega
end
section
variable {n : Nat} {T : List Tr} {L : Nat → Int}
/-- About a vertex, all on one cycle. -/
theorem same_start (hs : Surf n T) (hL : IsShells (Adj T) T.length L) {k : Int} {c d : Nat} (hc : c ∈ cornersOf T L k) (hd : d ∈ cornersOf T L k) (h : vt T (nxn c : Nat) = vt T (nxn d : Nat)) : Orb (th T (allG T L k)) c d := by
  have hP := th_perm hs hL (all_glue hs hL k)
  have hconn := hs.fan_conn (nxn_lt (corners_mem.1 hc).1) (nxn_lt (corners_mem.1 hd).1) h
  have step : ∀ x y, FanR T x y → (pvn x ∈ cornersOf T L k ∨ pvn y ∈ cornersOf T L k) → pvn x ∈ cornersOf T L k ∧ pvn y ∈ cornersOf T L k ∧ th T (allG T L k) (pvn x) = pvn y := by
    rintro x y ⟨hx, o, ho, ho3, rfl⟩ hor
    have hpx := pvn_lt hx
    have hsh := shell_opp hs hL hpx ho
    have m1 : pvn x ∈ cornersOf T L k := by
      rcases hor with g | g
      · exact g
      · have := (corners_mem.1 g).2
        rw [pvn_div, pvn_div] at this
        exact corners_mem.2 ⟨hpx, by rw [← hsh]; exact this⟩
    have hall : allG T L k (pvn x) := ⟨m1, by omega⟩
    refine ⟨m1, corners_mem.2 ⟨pvn_lt (pvn_lt ho3), by rw [pvn_div, pvn_div, hsh]; exact (corners_mem.1 m1).2⟩, ?_⟩
    unfold th
    rw [if_pos hall, ho, Int.toNat_natCast, pvn_pvn]
  have key : ∀ z, Conn (FanR T) (nxn c) z → pvn z ∈ cornersOf T L k ∧ Orb (th T (allG T L k)) c (pvn z) := fun z hz => by
    induction hz with
    | refl => rw [pvn_nxn]; exact ⟨hc, Orb.refl _ _⟩
    | @step y z _ s ih =>
      obtain ⟨-, m, e⟩ := step y z s (.inl ih.1)
      exact ⟨m, by rw [← e]; exact ih.2.step⟩
    | @back y z _ s ih =>
      obtain ⟨m, -, e⟩ := step z y s (.inr ih.1)
      refine ⟨m, ih.2.trans (Orb.symm hP m ⟨1, e.symm⟩)⟩
  have := (key _ hconn).2
  rwa [pvn_nxn] at this
theorem bord_corner {v : Int} (hv : v ∈ (bordE T (3 * T.length)).map Prod.snd) : ∃ c : Nat, c < 3 * T.length ∧ opp T (c : Nat) < 0 ∧ vt T (pvn c : Nat) = v := by
  obtain ⟨e, he, rfl⟩ := List.mem_map.1 hv
  obtain ⟨c, h1, h2, rfl⟩ := bord_mem_edges.1 he
  exact ⟨c, h1, h2, rfl⟩
theorem shI_at (hs : Surf n T) (hL : IsShells (Adj T) T.length L) {c : Nat} (hc : c < 3 * T.length) : shI T L (vt T (c : Nat)) = L (c / 3) := by
  have hv := hs.vin.vt (c := ((c : Nat) : Int)) (by omega) (by omega)
  exact (shV_at hs hL (v := (vt T (c : Nat)).toNat) hc (by omega)).2
/-- Along a border loop, all on one cycle. -/
theorem loop_start (hs : Surf n T) (hL : IsShells (Adj T) T.length L) {k : Int} {c : Nat} (hc : c ∈ cornersOf T L k) (hu : vt T (nxn c : Nat) ∈ (bordE T (3 * T.length)).map Prod.snd) : ∀ (m d : Nat), d ∈ cornersOf T L k → vt T (nxn d : Nat) = it (bordE T (3 * T.length)) m (vt T (nxn c : Nat)) → Orb (th T (allG T L k)) c d
  | 0, d, hd, e => same_start hs hL hc hd e.symm
  | m + 1, d, hd, e => by
    have hP := th_perm hs hL (all_glue hs hL k)
    have hin := hs.oneIn.it_in hu m
    obtain ⟨b, hb, hb2, hbe⟩ := bord_mem_edges.1 (hs.oneIn.sg_mem hin)
    rw [Prod.mk.injEq] at hbe
    have hbk : L (b / 3) = k := by
      have h1 := shI_at hs hL (pvn_lt hb)
      rw [← hbe.2, it_shell hs hL hu m, shI_at hs hL (nxn_lt (corners_mem.1 hc).1), nxn_div, pvn_div, (corners_mem.1 hc).2] at h1
      exact h1.symm
    have hbm : b ∈ cornersOf T L k := corners_mem.2 ⟨hb, hbk⟩
    have h1 := loop_start hs hL hc hu m (nxn b) (nxn_in hbm) (by rw [nxn_nxn]; exact hbe.2.symm)
    have h2 : Orb (th T (allG T L k)) b (nxn b) := ⟨1, (th_free (fun g => by have := g.2; omega)).symm⟩
    have h3 := same_start hs hL hbm hd (by rw [e]; exact hbe.1.symm)
    exact h1.trans ((h2.symm hP hbm).trans h3)
theorem sg_of (hs : Surf n T) {c : Nat} (hc : c < 3 * T.length) (hb : opp T (c : Nat) < 0) : sg (bordE T (3 * T.length)) (vt T (pvn c : Nat)) = vt T (nxn c : Nat) := by
  unfold sg
  rw [nextB_of hs.oneIn.ends (bord_mem_edges.2 ⟨c, hc, hb, rfl⟩)]
  rfl
/-- THE CYCLES: the inner vertices and the border loops. -/
theorem cyc_count (hs : Surf n T) (hL : IsShells (Adj T) T.length L) (k : Nat) : cyc (th T (allG T L k)) (cornersOf T L (k : Int)) + (bordOf T L (k : Int)).length = nV T L n k + nB T L n k := by
  have hP := th_perm hs hL (all_glue hs hL (k : Int))
  obtain ⟨E, hE⟩ : ∃ E, E = bordE T (3 * T.length) := ⟨_, rfl⟩
  have hO : OneIn E := by rw [hE]; exact hs.oneIn
  obtain ⟨H, hH⟩ : ∃ H : Int → Nat, ∀ v, v ∈ E.map Prod.snd → ((H v : Int) ∈ orb E v ∧ minB E (H v : Int) = true ∧ H v < n) := by
    have : ∀ v : Int, ∃ w : Nat, v ∈ E.map Prod.snd → ((w : Int) ∈ orb E v ∧ minB E (w : Int) = true ∧ w < n) := fun v => by
      by_cases h : v ∈ E.map Prod.snd
      · rw [hE] at h ⊢
        obtain ⟨w, h1⟩ := head_of hs h
        exact ⟨w, fun _ => h1⟩
      · exact ⟨0, fun g => absurd g h⟩
    exact Classical.skolem.1 this
  have Hone : ∀ u v, u ∈ E.map Prod.snd → v ∈ orb E u → H u = H v := fun u v hu hv => by
    have h1 := hH u hu
    have h2 := hH v (hO.orb_sub hv)
    have a := (minB_iff.1 h1.2.1).2 _ (hO.orb_trans (hO.orb_symm h1.1) (hO.orb_trans hv h2.1))
    have b := (minB_iff.1 h2.2.1).2 _ (hO.orb_trans (hO.orb_symm h2.1) (hO.orb_trans (hO.orb_symm hv) h1.1))
    omega
  have Hsnd : ∀ v, v ∈ E.map Prod.snd → ((H v : Nat) : Int) ∈ E.map Prod.snd := fun v hv => hO.orb_sub (hH v hv).1
  have hstart : ∀ c, c ∈ cornersOf T L (k : Int) → ∃ u : Nat, vt T (nxn c : Nat) = (u : Int) ∧ u ∈ vertsOf T L n k := fun c hc =>
    end_in hs hL (corners_mem.1 hc).1 (nxn_lt (corners_mem.1 hc).1) (nxn_div c) (corners_mem.1 hc).2
  have hcor : ∀ v, v ∈ vertsOf T L n k → ∃ c, c ∈ cornersOf T L (k : Int) ∧ vt T (nxn c : Nat) = (v : Int) := fun v hv => by
    obtain ⟨h1, h2⟩ := List.mem_filter.1 hv
    obtain ⟨d, d1, d2, d3⟩ := shV_corner (L := L) hs (List.mem_range.1 h1)
    refine ⟨pvn d, corners_mem.2 ⟨pvn_lt d1, ?_⟩, by rw [nxn_pvn]; exact d2⟩
    rw [pvn_div, ← d3]
    simpa using h2
  have key := cyc_keys hP (fun c => if vt T (nxn c : Nat) ∈ E.map Prod.snd then H (vt T (nxn c : Nat)) else (vt T (nxn c : Nat)).toNat) ?_ ((vertsOf T L n k).filter (fun v : Nat => !decide ((v : Int) ∈ E.map Prod.snd)) ++ loopsOf T L n k) ?_ ?_
  · have hl := loops_length T L n k
    have hv := verts_length T L n k
    have hsp := filt_split (fun v : Nat => decide ((v : Int) ∈ E.map Prod.snd)) (vertsOf T L n k)
    have hb1 := sub_len ((bordOf T L (k : Int)).map fun c => (vt T (pvn c : Nat)).toNat) ((vertsOf T L n k).filter fun v : Nat => decide ((v : Int) ∈ E.map Prod.snd)) (nodup_on (fun a ha b hb e => by
        obtain ⟨a1, a2⟩ := List.mem_filter.1 ha
        obtain ⟨b1, b2⟩ := List.mem_filter.1 hb
        simp only [Bool.and_eq_true, decide_eq_true_eq] at a2 b2
        have a3 := List.mem_range.1 a1
        have b3 := List.mem_range.1 b1
        have va := hs.vin.vt (c := ((pvn a : Nat) : Int)) (by omega) (by have := pvn_lt a3; omega)
        have vb := hs.vin.vt (c := ((pvn b : Nat) : Int)) (by omega) (by have := pvn_lt b3; omega)
        exact hs.in_one a3 b3 a2.2 b2.2 (by omega)) (nodup_rf _ _)) (fun v hv => by
        obtain ⟨c, hc, rfl⟩ := List.mem_map.1 hv
        obtain ⟨c1, c2⟩ := List.mem_filter.1 hc
        simp only [Bool.and_eq_true, decide_eq_true_eq] at c2
        have c3 := List.mem_range.1 c1
        obtain ⟨u, hu, mu⟩ := end_in hs hL c3 (pvn_lt c3) (pvn_div c) c2.1
        rw [hu, Int.toNat_natCast]
        refine List.mem_filter.2 ⟨mu, decide_eq_true ?_⟩
        rw [hE, ← hu]
        exact List.mem_map.2 ⟨_, bord_mem_edges.2 ⟨c, c3, c2.2, rfl⟩, rfl⟩)
    have hb2 := sub_len ((vertsOf T L n k).filter fun v : Nat => decide ((v : Int) ∈ E.map Prod.snd)) ((bordOf T L (k : Int)).map fun c => (vt T (pvn c : Nat)).toNat) (List.Pairwise.filter _ (nodup_rf _ _)) (fun v hv => by
        obtain ⟨v1, v2⟩ := List.mem_filter.1 hv
        have v2 := of_decide_eq_true v2
        rw [hE] at v2
        obtain ⟨c, c1, c2, c3⟩ := bord_corner v2
        refine List.mem_map.2 ⟨c, List.mem_filter.2 ⟨List.mem_range.2 c1, ?_⟩, by rw [c3, Int.toNat_natCast]⟩
        have hsv := (shV_at hs hL (pvn_lt c1) c3).2
        rw [pvn_div] at hsv
        have v3 : shV T L v = (k : Int) := by simpa using (List.mem_filter.1 v1).2
        simp only [Bool.and_eq_true, decide_eq_true_eq]
        exact ⟨by rw [← hsv, v3], c2⟩)
    rw [List.length_map] at hb1 hb2
    rw [key, List.length_append]
    omega
  · intro c d hc hd
    obtain ⟨u, hu, -⟩ := hstart c hc
    obtain ⟨u', hu', -⟩ := hstart d hd
    constructor
    · intro e
      try dsimp only at e
      rw [hu, hu'] at e
      by_cases b1 : (u : Int) ∈ E.map Prod.snd
      · by_cases b2 : (u' : Int) ∈ E.map Prod.snd
        · rw [if_pos b1, if_pos b2] at e
          have h1 := hH _ b1
          have h2 := hH _ b2
          rw [← e] at h2
          obtain ⟨m, hm⟩ := (hO.orb_mem b1).1 (hO.orb_trans h1.1 (hO.orb_symm h2.1))
          rw [hE, ← hu] at b1
          refine loop_start hs hL hc b1 m d hd ?_
          rw [hu', hm, hE, hu]
        · rw [if_pos b1, if_neg b2, Int.toNat_natCast] at e
          have := Hsnd _ b1
          rw [e] at this
          exact absurd this b2
      · by_cases b2 : (u' : Int) ∈ E.map Prod.snd
        · rw [if_neg b1, if_pos b2, Int.toNat_natCast] at e
          have := Hsnd _ b2
          rw [← e] at this
          exact absurd this b1
        · rw [if_neg b1, if_neg b2, Int.toNat_natCast, Int.toNat_natCast] at e
          exact same_start hs hL hc hd (by rw [hu, hu', e])
    · rintro ⟨i, rfl⟩
      have st : ∀ x, x ∈ cornersOf T L (k : Int) → (if vt T (nxn (th T (allG T L k) x) : Nat) ∈ E.map Prod.snd then H (vt T (nxn (th T (allG T L k) x) : Nat)) else (vt T (nxn (th T (allG T L k) x) : Nat)).toNat) = (if vt T (nxn x : Nat) ∈ E.map Prod.snd then H (vt T (nxn x : Nat)) else (vt T (nxn x : Nat)).toNat) := fun x hx => by
        have hx3 := (corners_mem.1 hx).1
        by_cases g : 0 ≤ opp T (x : Nat)
        · obtain ⟨o, o1, o2, o3, -, -, o5⟩ := opp_pair hs hL hx g
          have : th T (allG T L k) x = nxn o := by
            unfold th
            rw [if_pos ⟨hx, g⟩, o1, Int.toNat_natCast]
          rw [this, nxn_nxn, o5]
        · have hb : opp T (x : Nat) < 0 := by omega
          rw [th_free (fun a => g a.2), nxn_nxn]
          have hm : (vt T (nxn x : Nat), vt T (pvn x : Nat)) ∈ E := by rw [hE]; exact bord_mem_edges.2 ⟨x, hx3, hb, rfl⟩
          have m1 : vt T (pvn x : Nat) ∈ E.map Prod.snd := List.mem_map.2 ⟨_, hm, rfl⟩
          have m2 : vt T (nxn x : Nat) ∈ E.map Prod.snd := hO.closed _ (List.mem_map.2 ⟨_, hm, rfl⟩)
          rw [if_pos m1, if_pos m2]
          refine Hone _ _ m1 ((hO.orb_mem m1).2 ⟨1, ?_⟩)
          show _ = sg E (it E 0 _)
          rw [hE]
          exact (sg_of hs hx3 hb).symm
      clear hd hu'
      induction i with
      | zero => rfl
      | succ i ih => rw [ih]; exact (st _ (hP.it hc i)).symm
  · refine List.nodup_append.2 ⟨List.Pairwise.filter _ (nodup_rf _ _), List.Pairwise.filter _ (nodup_rf _ _), fun a ha b hb e => ?_⟩
    subst e
    have h1 := (List.mem_filter.1 ha).2
    have h2 := (minB_iff.1 (loops_mem.1 hb).2.1).1
    rw [← hE] at h2
    simp only [Bool.not_eq_true', decide_eq_false_iff_not] at h1
    exact h1 h2
  · intro v
    rw [List.mem_append]
    constructor
    · rintro (h | h)
      · obtain ⟨h1, h2⟩ := List.mem_filter.1 h
        obtain ⟨c, hc, hcv⟩ := hcor v h1
        refine ⟨c, hc, ?_⟩
        simp only [Bool.not_eq_true', decide_eq_false_iff_not] at h2
        try dsimp only
        rw [hcv, if_neg h2, Int.toNat_natCast]
      · obtain ⟨h1, h2, h3⟩ := loops_mem.1 h
        obtain ⟨c, hc, hcv⟩ := hcor v (List.mem_filter.2 ⟨List.mem_range.2 h1, by simpa using h3⟩)
        refine ⟨c, hc, ?_⟩
        rw [← hE] at h2
        have hm := (minB_iff.1 h2).1
        try dsimp only
        rw [hcv, if_pos hm]
        have g := hH _ hm
        have a := (minB_iff.1 h2).2 _ g.1
        have b := (minB_iff.1 g.2.1).2 _ (hO.orb_symm g.1)
        omega
    · rintro ⟨c, hc, e⟩
      obtain ⟨u, hu, mu⟩ := hstart c hc
      try dsimp only at e
      rw [hu] at e
      by_cases b : (u : Int) ∈ E.map Prod.snd
      · rw [if_pos b] at e
        right
        have g := hH _ b
        refine loops_mem.2 ⟨by omega, by rw [← hE, ← e]; exact g.2.1, ?_⟩
        have h1 := g.1
        rw [hE] at h1
        have h2 := orb_shell hs hL h1
        have h3 : shV T L u = (k : Int) := by simpa using (List.mem_filter.1 mu).2
        rw [e] at h2
        have h4 : shI T L (v : Int) = shV T L v := by unfold shI; rw [Int.toNat_natCast]
        have h5 : shI T L (u : Int) = shV T L u := by unfold shI; rw [Int.toNat_natCast]
        rw [← h4, h2, h5, h3]
      · rw [if_neg b, Int.toNat_natCast] at e
        left
        rw [← e]
        exact List.mem_filter.2 ⟨mu, by simpa using b⟩
/-- EULER'S NUMBER of a shell. -/
theorem euler_ok (hs : Surf n T) (hL : IsShells (Adj T) T.length L) {k : Nat} (hk : (k : Int) < cnt L T.length) : 0 ≤ gnK T L n k ∧ euK T L n k = 2 - (nB T L n k : Int) - 2 * gnK T L n k := by
  have hF : 1 ≤ nF T L k := by
    obtain ⟨i, hi, e⟩ := hL.has hk
    exact cntK_pos.2 ⟨i, hi, e⟩
  obtain ⟨h1, q, h2⟩ := cyc_all hs hL hF
  have h3 := cyc_count hs hL k
  have h4 := nT_bord T L k
  have h5 := nT_even hs hL k
  have hq : (2 : Int) - (nB T L n k : Int) - euK T L n k = 2 * (q : Int) := by
    unfold euK
    omega
  have hg : gnK T L n k = (q : Int) := by
    unfold gnK
    rw [hq, tdiv_two (by omega)]
    omega
  rw [hg]
  omega
end
/-- The first edge that begins where edge i ends; i: there is none. -/
def nextI (D : List (Int × Int)) (i : Nat) : Nat := ((List.range D.length).find? fun j => decide ((E! D j).1 = (E! D i).2)).getD i
theorem nextI_at {D : List (Int × Int)} {i j : Nat} (hj : j < D.length) (h : (E! D j).1 = (E! D i).2) (hno : ∀ k, k < j → (E! D k).1 ≠ (E! D i).2) : nextI D i = j := by
  unfold nextI
  have : (List.range D.length).find? (fun j => decide ((E! D j).1 = (E! D i).2)) = some j := by
    rw [List.find?_range_eq_some]
    exact ⟨by simpa using h, by simpa using hj, fun k hk => by simpa using hno k hk⟩
  rw [this]; rfl
theorem nextI_none {D : List (Int × Int)} {i : Nat} (hno : ∀ k, k < D.length → (E! D k).1 ≠ (E! D i).2) : nextI D i = i := by
  unfold nextI
  have : (List.range D.length).find? (fun j => decide ((E! D j).1 = (E! D i).2)) = none := by
    rw [List.find?_eq_none]
    intro k hk
    simpa using hno k (by simpa using hk)
  rw [this]; rfl
theorem nextI_lt {D : List (Int × Int)} {i : Nat} (hi : i < D.length) : nextI D i < D.length := by
  unfold nextI
  cases h : (List.range D.length).find? (fun j => decide ((E! D j).1 = (E! D i).2)) with
  | none => exact hi
  | some j => have := List.mem_of_find?_eq_some h; simpa using this
theorem nextI_spec {D : List (Int × Int)} {i : Nat} (h : ∃ j, j < D.length ∧ (E! D j).1 = (E! D i).2) : (E! D (nextI D i)).1 = (E! D i).2 := by
  obtain ⟨j, hj, hm⟩ := least_nat h
  rw [nextI_at hj.1 hj.2 (fun k hk e => hm k hk ⟨by omega, e⟩)]
  exact hj.2
/-- The border edges of a shell. -/
def edgesOf (T : List Tr) (L : Nat → Int) (k : Int) : List (Int × Int) := (bordOf T L k).map fun (c : Nat) => edgeAt T (c : Int)
theorem edges_at {T : List Tr} {L : Nat → Int} {k : Int} {i : Nat} (hi : i < (edgesOf T L k).length) : ∃ c : Nat, c < 3 * T.length ∧ L (c / 3) = k ∧ opp T (c : Nat) < 0 ∧ (bordOf T L k)[i]? = some c ∧ E! (edgesOf T L k) i = (vt T (nxn c : Nat), vt T (pvn c : Nat)) := by
  have hl : (edgesOf T L k).length = (bordOf T L k).length := by simp [edgesOf]
  have hb : i < (bordOf T L k).length := by omega
  have hm : (bordOf T L k)[i] ∈ bordOf T L k := List.getElem_mem hb
  obtain ⟨h1, h2⟩ := List.mem_filter.1 hm
  simp only [Bool.and_eq_true, decide_eq_true_eq] at h2
  refine ⟨(bordOf T L k)[i], List.mem_range.1 h1, h2.1, h2.2, by simp [hb], ?_⟩
  rw [← edgeAt_nat]
  simp [E!, edgesOf, hb]
theorem OneIn.begins {E : List (Int × Int)} (h : OneIn E) {v : Int} (hv : v ∈ E.map Prod.snd) : ∃ u, (v, u) ∈ E := by
  obtain ⟨p, hp⟩ := h.per hv
  obtain ⟨q, rfl⟩ : ∃ q, p = q + 1 := ⟨p - 1, by have := hp.pos; omega⟩
  have e : sg E (it E q v) = v := hp.back
  have := h.sg_mem (h.it_in hv q)
  rw [e] at this
  exact ⟨_, this⟩
theorem Surf.in_out {n : Int} {T : List Tr} (hs : Surf n T) {c : Nat} (hc : c < 3 * T.length) (bc : opp T (c : Nat) < 0) : ∃ d : Nat, d < 3 * T.length ∧ opp T (d : Nat) < 0 ∧ vt T (nxn d : Nat) = vt T (pvn c : Nat) := by
  obtain ⟨u, hu⟩ := hs.oneIn.begins (v := vt T (pvn c : Nat)) (List.mem_map.2 ⟨_, bord_mem_edges.2 ⟨c, hc, bc, rfl⟩, rfl⟩)
  obtain ⟨d, h1, h2, h3⟩ := bord_mem_edges.1 hu
  simp only [Prod.mk.injEq] at h3
  exact ⟨d, h1, h2, h3.1.symm⟩
section
variable {n : Nat} {T : List Tr} {L : Nat → Int} {k : Nat}
theorem edges_in {i : Nat} (hi : i < (edgesOf T L (k : Int)).length) : E! (edgesOf T L (k : Int)) i ∈ bordE T (3 * T.length) := by
  obtain ⟨c, h1, -, h3, -, h5⟩ := edges_at hi
  rw [h5]
  exact bord_mem_edges.2 ⟨c, h1, h3, rfl⟩
theorem edges_snd (hs : Surf n T) {i j : Nat} (hi : i < (edgesOf T L (k : Int)).length) (hj : j < (edgesOf T L (k : Int)).length) (h : (E! (edgesOf T L (k : Int)) i).2 = (E! (edgesOf T L (k : Int)) j).2) : i = j := by
  obtain ⟨c, h1, -, h3, h4, h5⟩ := edges_at hi
  obtain ⟨d, g1, -, g3, g4, g5⟩ := edges_at hj
  rw [h5, g5] at h
  have e := hs.in_one h1 g1 h3 g3 h
  subst e
  have hnd : (bordOf T L (k : Int)).Nodup := nodup_rf _ _
  exact (List.getElem?_inj (by have : (edgesOf T L (k : Int)).length = (bordOf T L (k : Int)).length := by simp [edgesOf]
                               omega) hnd).1 (h4.trans g4.symm)
theorem edges_idx {c : Nat} (hc : c < 3 * T.length) (h : L (c / 3) = (k : Int)) (ho : opp T (c : Nat) < 0) : ∃ i, i < (edgesOf T L (k : Int)).length ∧ E! (edgesOf T L (k : Int)) i = (vt T (nxn c : Nat), vt T (pvn c : Nat)) := by
  have hm : c ∈ bordOf T L (k : Int) := List.mem_filter.2 ⟨List.mem_range.2 hc, by simp [h, ho]⟩
  obtain ⟨i, hi, e⟩ := List.mem_iff_getElem.1 hm
  refine ⟨i, by simpa [edgesOf] using hi, ?_⟩
  rw [← edgeAt_nat, ← e]
  simp [E!, edgesOf, hi]
theorem edges_next (hs : Surf n T) (hL : IsShells (Adj T) T.length L) {i : Nat} (hi : i < (edgesOf T L (k : Int)).length) : (E! (edgesOf T L (k : Int)) (nextI (edgesOf T L (k : Int)) i)).1 = (E! (edgesOf T L (k : Int)) i).2 := by
  refine nextI_spec ?_
  obtain ⟨c, h1, h2, h3, -, h5⟩ := edges_at hi
  obtain ⟨d, g1, g2, g3⟩ := hs.in_out h1 h3
  have hv := hs.vin.vt (c := ((pvn c : Nat) : Int)) (by omega) (by have := pvn_lt h1; omega)
  have e1 := shV_at hs hL (v := (vt T (pvn c : Nat)).toNat) (pvn_lt h1) (by omega)
  have e2 := shV_at hs hL (v := (vt T (pvn c : Nat)).toNat) (nxn_lt g1) (by omega)
  rw [pvn_div] at e1
  rw [nxn_div] at e2
  obtain ⟨j, hj, ej⟩ := edges_idx (L := L) (k := k) g1 (by rw [← e2.2, e1.2, h2]) g2
  exact ⟨j, hj, by rw [ej, h5]; exact g3⟩
theorem next_perm (hs : Surf n T) (hL : IsShells (Adj T) T.length L) : PermOn (nextI (edgesOf T L (k : Int))) (List.range (edgesOf T L (k : Int)).length) where
  nd := List.nodup_range
  clo x hx := List.mem_range.2 (nextI_lt (List.mem_range.1 hx))
  inj x y hx hy e := by
    have hx := List.mem_range.1 hx
    have hy := List.mem_range.1 hy
    have h1 := edges_next hs hL hx
    have h2 := edges_next hs hL hy
    rw [e] at h1
    exact edges_snd hs hx hy (h1.symm.trans h2)
theorem next_it (hs : Surf n T) (hL : IsShells (Adj T) T.length L) {i : Nat} (hi : i < (edgesOf T L (k : Int)).length) : ∀ q, it (bordE T (3 * T.length)) q (E! (edgesOf T L (k : Int)) (itf (nextI (edgesOf T L (k : Int))) q i)).2 = (E! (edgesOf T L (k : Int)) i).2
  | 0 => rfl
  | q + 1 => by
    have hm := List.mem_range.1 ((next_perm hs hL (k := k)).it (List.mem_range.2 hi) q)
    have hn := nextI_lt hm
    have h1 := edges_next hs hL hm
    have h2 : sg (bordE T (3 * T.length)) (E! (edgesOf T L (k : Int)) (nextI (edgesOf T L (k : Int)) (itf (nextI (edgesOf T L (k : Int))) q i))).2 = (E! (edgesOf T L (k : Int)) (itf (nextI (edgesOf T L (k : Int))) q i)).2 := by
      rw [← h1]
      have hp : ((E! (edgesOf T L (k : Int)) (nextI (edgesOf T L (k : Int)) (itf (nextI (edgesOf T L (k : Int))) q i))).1, (E! (edgesOf T L (k : Int)) (nextI (edgesOf T L (k : Int)) (itf (nextI (edgesOf T L (k : Int))) q i))).2) ∈ bordE T (3 * T.length) := edges_in hn
      unfold sg
      rw [nextB_of hs.oneIn.ends hp]
      rfl
    rw [it_add]
    change it (bordE T (3 * T.length)) q (sg (bordE T (3 * T.length)) (E! (edgesOf T L (k : Int)) (itf (nextI (edgesOf T L (k : Int))) (q + 1) i)).2) = _
    rw [show itf (nextI (edgesOf T L (k : Int))) (q + 1) i = nextI (edgesOf T L (k : Int)) (itf (nextI (edgesOf T L (k : Int))) q i) from rfl, h2]
    exact next_it hs hL hi q
theorem edges_snd_in {i : Nat} (hi : i < (edgesOf T L (k : Int)).length) : (E! (edgesOf T L (k : Int)) i).2 ∈ (bordE T (3 * T.length)).map Prod.snd := List.mem_map.2 ⟨_, edges_in hi, rfl⟩
theorem next_orb (hs : Surf n T) (hL : IsShells (Adj T) T.length L) {i j : Nat} (hi : i < (edgesOf T L (k : Int)).length) (hj : j < (edgesOf T L (k : Int)).length) : Orb (nextI (edgesOf T L (k : Int))) i j ↔ (E! (edgesOf T L (k : Int)) i).2 ∈ orb (bordE T (3 * T.length)) (E! (edgesOf T L (k : Int)) j).2 := by
  rw [hs.oneIn.orb_mem (edges_snd_in hj)]
  constructor
  · rintro ⟨q, rfl⟩
    exact ⟨q, (next_it hs hL hi q).symm⟩
  · rintro ⟨q, e⟩
    refine ⟨q, ?_⟩
    have hm := List.mem_range.1 ((next_perm hs hL (k := k)).it (List.mem_range.2 hi) q)
    refine edges_snd hs hj hm (hs.oneIn.it_inj (edges_snd_in hj) (edges_snd_in hm) q ?_)
    rw [← e, next_it hs hL hi q]
/-- As many cycles as loops. -/
theorem loops_cyc (hs : Surf n T) (hL : IsShells (Adj T) T.length L) : cyc (nextI (edgesOf T L (k : Int))) (List.range (edgesOf T L (k : Int)).length) = nB T L n k := by
  have hO : OneIn (bordE T (3 * T.length)) := hs.oneIn
  obtain ⟨H, hH⟩ : ∃ H : Int → Nat, ∀ v, v ∈ (bordE T (3 * T.length)).map Prod.snd → ((H v : Int) ∈ orb (bordE T (3 * T.length)) v ∧ minB (bordE T (3 * T.length)) (H v : Int) = true ∧ H v < n) := by
    have : ∀ v : Int, ∃ w : Nat, v ∈ (bordE T (3 * T.length)).map Prod.snd → ((w : Int) ∈ orb (bordE T (3 * T.length)) v ∧ minB (bordE T (3 * T.length)) (w : Int) = true ∧ w < n) := fun v => by
      by_cases h : v ∈ (bordE T (3 * T.length)).map Prod.snd
      · obtain ⟨w, h1⟩ := head_of hs h
        exact ⟨w, fun _ => h1⟩
      · exact ⟨0, fun g => absurd g h⟩
    exact Classical.skolem.1 this
  have Hone : ∀ u v, u ∈ (bordE T (3 * T.length)).map Prod.snd → v ∈ orb (bordE T (3 * T.length)) u → H u = H v := fun u v hu hv => by
    have h1 := hH u hu
    have h2 := hH v (hO.orb_sub hv)
    have a := (minB_iff.1 h1.2.1).2 _ (hO.orb_trans (hO.orb_symm h1.1) (hO.orb_trans hv h2.1))
    have b := (minB_iff.1 h2.2.1).2 _ (hO.orb_trans (hO.orb_symm h2.1) (hO.orb_trans (hO.orb_symm hv) h1.1))
    omega
  rw [← loops_length T L n k]
  refine cyc_keys (next_perm hs hL) (fun i => H (E! (edgesOf T L (k : Int)) i).2) ?_ _ (List.Pairwise.filter _ (nodup_rf _ _)) ?_
  · intro x y hx hy
    have hx := List.mem_range.1 hx
    have hy := List.mem_range.1 hy
    rw [next_orb hs hL hx hy]
    have h1 := hH _ (edges_snd_in hx)
    have h2 := hH _ (edges_snd_in hy)
    constructor
    · intro e
      try dsimp only at e
      rw [e] at h1
      exact hO.orb_trans h2.1 (hO.orb_symm h1.1)
    · intro h
      exact (Hone _ _ (edges_snd_in hy) h).symm
  · intro w
    rw [loops_mem]
    constructor
    · rintro ⟨w1, w2, w3⟩
      have hw := (minB_iff.1 w2).1
      obtain ⟨c, c1, c2, c3⟩ := bord_corner hw
      have hsv := (shV_at hs hL (pvn_lt c1) c3).2
      rw [pvn_div] at hsv
      obtain ⟨i, hi, ei⟩ := edges_idx (L := L) (k := k) c1 (by rw [← hsv, w3]) c2
      refine ⟨i, List.mem_range.2 hi, ?_⟩
      try dsimp only
      rw [ei]
      show H (vt T (pvn c : Nat)) = w
      rw [c3]
      have h1 := hH _ hw
      have a := (minB_iff.1 w2).2 _ h1.1
      have b := (minB_iff.1 h1.2.1).2 _ (hO.orb_symm h1.1)
      omega
    · rintro ⟨i, hi, rfl⟩
      have hi := List.mem_range.1 hi
      have h1 := hH _ (edges_snd_in hi)
      refine ⟨h1.2.2, h1.2.1, ?_⟩
      have e1 := orb_shell hs hL h1.1
      obtain ⟨c, c1, c2, -, -, c5⟩ := edges_at hi
      have hv := hs.vin.vt (c := ((pvn c : Nat) : Int)) (by omega) (by have := pvn_lt c1; omega)
      have e2 := shV_at hs hL (v := (vt T (pvn c : Nat)).toNat) (pvn_lt c1) (by omega)
      have e3 : shI T L ((H (E! (edgesOf T L (k : Int)) i).2 : Nat) : Int) = shV T L (H (E! (edgesOf T L (k : Int)) i).2) := by unfold shI; rw [Int.toNat_natCast]
      rw [← e3, e1, c5]
      show shV T L _ = _
      rw [e2.2, pvn_div, c2]
end
/-- The edges up to a corner. -/
def edgesP (T : List Tr) (L : Nat → Int) (k : Int) (c : Nat) : List (Int × Int) := ((List.range c).filter fun x => decide (L (x / 3) = k) && decide (opp T (x : Nat) < 0)).map fun (c : Nat) => edgeAt T (c : Int)
theorem edgesP_all (T : List Tr) (L : Nat → Int) (k : Int) : edgesP T L k (3 * T.length) = edgesOf T L k := rfl
theorem edgesP_yes {T : List Tr} {L : Nat → Int} {k : Int} {c : Nat} (h1 : L (c / 3) = k) (h2 : opp T (c : Nat) < 0) : edgesP T L k (c + 1) = edgesP T L k c ++ [edgeAt T (c : Int)] := by simp [edgesP, List.range_succ, h1, h2]
theorem edgesP_no {T : List Tr} {L : Nat → Int} {k : Int} {c : Nat} (h : ¬ (L (c / 3) = k ∧ opp T (c : Nat) < 0)) : edgesP T L k (c + 1) = edgesP T L k c := by
  have : (decide (L (c / 3) = k) && decide (opp T (c : Nat) < 0)) = false := by
    cases hb : (decide (L (c / 3) = k) && decide (opp T (c : Nat) < 0)) with
    | false => rfl
    | true => simp only [Bool.and_eq_true, decide_eq_true_eq] at hb; exact absurd hb h
  simp [edgesP, List.range_succ, this]
theorem edgesP_le (T : List Tr) (L : Nat → Int) (k : Int) (c : Nat) : (edgesP T L k c).length ≤ c := by
  unfold edgesP
  rw [List.length_map]
  exact Nat.le_trans (List.length_filter_le _ _) (by simp)
section
variable {s : Nat → Nat} {m : Nat}
/-- Gone are the loops of the edges ahead. -/
def Gone (s : Nat → Nat) (m i : Nat) (G : Nat → Bool) : Prop := ∀ j, j < m → (G j = true ↔ ∃ i', i' < i ∧ Orb s i' j)
theorem Gone.start (s : Nat → Nat) (m : Nat) : Gone s m 0 (fun _ => false) := fun j _ => ⟨fun h => (by cases h), fun ⟨i', h, _⟩ => by omega⟩
theorem Gone.rep {i : Nat} {G : Nat → Bool} (h : Gone s m i G) (hp : PermOn s (List.range m)) (hi : i < m) : G i = false ↔ isRepC s i := by
  constructor
  · intro hg z hz
    apply Classical.byContradiction
    intro hlt
    have hm := List.mem_range.1 (hz.mem hp (List.mem_range.2 hi))
    have := (h i hi).2 ⟨z, by omega, hz.symm hp (List.mem_range.2 hi)⟩
    rw [hg] at this; cases this
  · intro hr
    cases hg : G i with
    | false => rfl
    | true =>
      obtain ⟨i', h1, h2⟩ := (h i hi).1 hg
      have := hr i' (h2.symm hp (List.mem_range.2 (by omega)))
      omega
theorem reps_yes {i : Nat} (h : isRepC s i) : (repsC s (List.range (i + 1))).length = (repsC s (List.range i)).length + 1 := by simp [repsC, List.range_succ, h]
theorem reps_no {i : Nat} (h : ¬ isRepC s i) : (repsC s (List.range (i + 1))).length = (repsC s (List.range i)).length := by simp [repsC, List.range_succ, h]
theorem repsC_le (i : Nat) : (repsC s (List.range i)).length ≤ i := by
  unfold repsC
  exact Nat.le_trans (List.length_filter_le _ _) (by simp)
theorem Gone.skip {i : Nat} {G : Nat → Bool} (h : Gone s m i G) (hp : PermOn s (List.range m)) (hi : i < m) (hg : G i = true) : Gone s m (i + 1) G := fun j hj => by
  rw [h j hj]
  constructor
  · rintro ⟨i', h1, h2⟩; exact ⟨i', by omega, h2⟩
  · rintro ⟨i', h1, h2⟩
    by_cases e : i' = i
    · subst e
      obtain ⟨i'', g1, g2⟩ := (h i' hi).1 hg
      exact ⟨i'', g1, g2.trans h2⟩
    · exact ⟨i', by omega, h2⟩
/-- So many steps of a loop are gone. -/
def Going (s : Nat → Nat) (m i q : Nat) (G G' : Nat → Bool) : Prop := ∀ j, j < m → (G' j = true ↔ G j = true ∨ ∃ r, r < q ∧ j = itf s r i)
theorem Going.start (s : Nat → Nat) (m i : Nat) (G : Nat → Bool) : Going s m i 0 G G := fun j _ => ⟨.inl, fun h => h.elim id fun ⟨r, h, _⟩ => by omega⟩
theorem Going.step {i q : Nat} {G G' : Nat → Bool} (h : Going s m i q G G') (a : Nat) (ha : a = itf s q i) : Going s m i (q + 1) G (updB G' a true) := fun j hj => by
  unfold updB
  by_cases e : j = a
  · rw [if_pos e]
    exact ⟨fun _ => .inr ⟨q, by omega, e.trans ha⟩, fun _ => rfl⟩
  · rw [if_neg e, h j hj]
    constructor
    · rintro (h1 | ⟨r, h1, h2⟩)
      · exact .inl h1
      · exact .inr ⟨r, by omega, h2⟩
    · rintro (h1 | ⟨r, h1, h2⟩)
      · exact .inl h1
      · by_cases er : r = q
        · subst er; exact absurd (h2.trans ha.symm) e
        · exact .inr ⟨r, by omega, h2⟩
theorem Going.done {i q : Nat} {G G' : Nat → Bool} (h : Going s m i q G G') (h0 : Gone s m i G) (hp : PermOn s (List.range m)) (hi : i < m) (hg : G i = false) (hend : G' (itf s q i) = true) : Gone s m (i + 1) G' := by
  have hmi : i ∈ List.range m := List.mem_range.2 hi
  have ha := List.mem_range.1 (hp.it hmi q)
  have hr : ∃ r, r < q ∧ itf s q i = itf s r i := by
    rcases (h _ ha).1 hend with h1 | h1
    · obtain ⟨i', g1, g2⟩ := (h0 _ ha).1 h1
      have : Orb s (itf s q i) i := Orb.symm hp hmi ⟨q, rfl⟩
      have := (h0 i hi).2 ⟨i', g1, g2.trans this⟩
      rw [hg] at this; cases this
    · exact h1
  obtain ⟨r0, hr0, e0⟩ := hr
  have hall : ∀ p, ∃ r, r < q ∧ itf s p i = itf s r i := fun p => by
    induction p with
    | zero => exact ⟨0, by omega, rfl⟩
    | succ p ih =>
      obtain ⟨r, h1, h2⟩ := ih
      have e : itf s (p + 1) i = itf s (r + 1) i := by show s (itf s p i) = s (itf s r i); rw [h2]
      by_cases hq : r + 1 < q
      · exact ⟨r + 1, hq, e⟩
      · have : r + 1 = q := by omega
        rw [this] at e
        exact ⟨r0, hr0, e.trans e0⟩
  intro j hj
  rw [h j hj, h0 j hj]
  constructor
  · rintro (⟨i', h1, h2⟩ | ⟨r, h1, rfl⟩)
    · exact ⟨i', by omega, h2⟩
    · exact ⟨i, by omega, r, rfl⟩
  · rintro ⟨i', h1, h2⟩
    by_cases e : i' = i
    · subst e
      obtain ⟨p, rfl⟩ := h2
      obtain ⟨r, g1, g2⟩ := hall p
      exact .inr ⟨r, g1, g2⟩
    · exact .inl ⟨i', by omega, h2⟩
/-- How many are not gone. -/
def ungone (m : Nat) (G : Nat → Bool) : Nat := (List.range m).countP fun j => !G j
theorem ungone_le (m : Nat) (G : Nat → Bool) : ungone m G ≤ m := by
  unfold ungone
  have := List.countP_le_length (p := fun j => !G j) (l := List.range m)
  simpa using this
theorem ungone_upd {G : Nat → Bool} {a : Nat} (ha : a < m) (h : G a = false) : ungone m (updB G a true) < ungone m G := by
  unfold ungone
  refine (countP_mono_lt _ _ m fun i hi h => ?_).2 ⟨a, ha, by simp [h], by simp [updB]⟩
  by_cases e : i = a
  · subst e; simp [updB] at h
  · simpa [updB, e] using h
theorem ungone_congr {G K : Nat → Bool} (h : ∀ i, i < m → G i = K i) : ungone m G = ungone m K := by
  unfold ungone
  apply List.countP_congr
  intro i hi
  rw [h i (by simpa using hi)]
end
def ecP (T : List Tr) (L : Nat → Int) (c k : Nat) : Nat := ((List.range c).filter fun x => decide (L (x / 3) = (k : Int)) && decide (opp T (x : Nat) < (x : Nat))).length
theorem ecP_succ (T : List Tr) (L : Nat → Int) (c k : Nat) : ecP T L (c + 1) k = ecP T L c k + (if L (c / 3) = (k : Int) ∧ opp T (c : Nat) < (c : Nat) then 1 else 0) := by
  unfold ecP
  rw [List.range_succ, List.filter_append, List.length_append]
  congr 1
  by_cases h1 : L (c / 3) = (k : Int) <;> by_cases h2 : opp T (c : Nat) < (c : Nat) <;> simp [h1, h2]
theorem ecP_le (T : List Tr) (L : Nat → Int) (c k : Nat) : ecP T L c k ≤ c := by
  unfold ecP
  exact Nat.le_trans (List.length_filter_le _ _) (by simp)
theorem filt_len3 {p q : Nat → Bool} (l : List Nat) : (l.filter p).length = (l.filter fun x => p x && q x).length + (l.filter fun x => p x && !q x).length := by
  induction l with
  | nil => rfl
  | cons a l ih =>
    simp only [List.filter_cons]
    cases p a <;> cases q a <;> simp [ih] <;> omega
theorem edge_count {n : Nat} {T : List Tr} {L : Nat → Int} (hs : Surf n T) (hL : IsShells (Adj T) T.length L) (k : Nat) : ecP T L (3 * T.length) k = nT T L k / 2 := by
  have h3 : cntK (fun x => L (x / 3)) (3 * T.length) k = 3 * nF T L k := cntK_three L k _
  have hb := nT_bord T L k
  have e1 := filt_len3 (p := fun x => decide (L (x / 3) = (k : Int))) (q := fun x : Nat => decide (opp T (x : Nat) < (x : Nat))) (List.range (3 * T.length))
  have e2 := filt_len3 (p := fun x : Nat => decide (L (x / 3) = (k : Int)) && decide (opp T (x : Nat) < (x : Nat))) (q := fun x : Nat => decide (opp T (x : Nat) < 0)) (List.range (3 * T.length))
  have e3 : ((List.range (3 * T.length)).filter fun x : Nat => (decide (L (x / 3) = (k : Int)) && decide (opp T (x : Nat) < (x : Nat))) && decide (opp T (x : Nat) < 0)) = bordOf T L (k : Int) := by
    unfold bordOf
    refine List.filter_congr fun x _ => ?_
    by_cases h1 : L (x / 3) = (k : Int) <;> by_cases h2 : opp T (x : Nat) < 0 <;> simp [h1, h2]
    omega
  rw [e3] at e2
  obtain ⟨A, hA⟩ : ∃ A, A = (List.range (3 * T.length)).filter fun x : Nat => (decide (L (x / 3) = (k : Int)) && decide (opp T (x : Nat) < (x : Nat))) && !decide (opp T (x : Nat) < 0) := ⟨_, rfl⟩
  obtain ⟨B, hB⟩ : ∃ B, B = (List.range (3 * T.length)).filter fun x : Nat => decide (L (x / 3) = (k : Int)) && !decide (opp T (x : Nat) < (x : Nat)) := ⟨_, rfl⟩
  rw [← hA] at e2
  rw [← hB] at e1
  have mA : ∀ x, x ∈ A ↔ x < 3 * T.length ∧ L (x / 3) = (k : Int) ∧ opp T (x : Nat) < (x : Nat) ∧ 0 ≤ opp T (x : Nat) := fun x => by
    rw [hA]; simp [and_assoc]
  have mB : ∀ x, x ∈ B ↔ x < 3 * T.length ∧ L (x / 3) = (k : Int) ∧ (x : Int) ≤ opp T (x : Nat) := fun x => by
    rw [hB]; simp
  have nA : A.Nodup := by rw [hA]; exact nodup_rf _ _
  have nBd : B.Nodup := by rw [hB]; exact nodup_rf _ _
  have hinj : ∀ a, a < 3 * T.length → 0 ≤ opp T (a : Nat) → ∀ b, b < 3 * T.length → 0 ≤ opp T (b : Nat) → (opp T (a : Nat)).toNat = (opp T (b : Nat)).toNat → a = b := fun a ha h0 b hb h1 e => by
    obtain ⟨o, o1, o2, o3, -, -⟩ := hs.opp_opp ha h0
    obtain ⟨o', p1, p2, p3, -, -⟩ := hs.opp_opp hb h1
    rw [o1, p1] at e
    have : o = o' := by simpa using e
    subst this
    rw [o3] at p3
    omega
  have l1 := sub_len (A.map fun x : Nat => (opp T (x : Nat)).toNat) B (nodup_on (fun a ha b hb e => hinj a ((mA a).1 ha).1 ((mA a).1 ha).2.2.2 b ((mA b).1 hb).1 ((mA b).1 hb).2.2.2 e) nA) (fun y hy => by
    obtain ⟨x, hx, rfl⟩ := List.mem_map.1 hy
    obtain ⟨x1, x2, x3, x4⟩ := (mA x).1 hx
    obtain ⟨o, o1, o2, o3, -, -⟩ := hs.opp_opp x1 x4
    try dsimp only
    rw [o1, Int.toNat_natCast]
    exact (mB o).2 ⟨o2, by rw [shell_opp hs hL x1 o1, x2], by omega⟩)
  have l2 := sub_len (B.map fun x : Nat => (opp T (x : Nat)).toNat) A (nodup_on (fun a ha b hb e => hinj a ((mB a).1 ha).1 (by have := ((mB a).1 ha).2.2; omega) b ((mB b).1 hb).1 (by have := ((mB b).1 hb).2.2; omega) e) nBd) (fun y hy => by
    obtain ⟨x, hx, rfl⟩ := List.mem_map.1 hy
    obtain ⟨x1, x2, x3⟩ := (mB x).1 hx
    obtain ⟨o, o1, o2, o3, o4, o5⟩ := hs.opp_opp x1 (by omega)
    have hne : o ≠ x := fun e => by
      subst e
      exact ends_ne hs x1 o4
    try dsimp only
    rw [o1, Int.toNat_natCast]
    exact (mA o).2 ⟨o2, by rw [shell_opp hs hL x1 o1, x2], by omega, by omega⟩)
  rw [List.length_map] at l1 l2
  have h3' : ((List.range (3 * T.length)).filter fun x => decide (L (x / 3) = (k : Int))).length = 3 * nF T L k := h3
  have he : ecP T L (3 * T.length) k = ((List.range (3 * T.length)).filter fun x : Nat => decide (L (x / 3) = (k : Int)) && decide (opp T (x : Nat) < (x : Nat))).length := rfl
  omega
end Go.Proofs.YtkjamheoihlekaaGreat

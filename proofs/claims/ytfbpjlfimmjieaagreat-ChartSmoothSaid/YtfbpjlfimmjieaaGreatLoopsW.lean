/- border.Loops: all border loops. corner.Table.Corner; genus.Of's 'at'; genus.Numbers.done. genus.Of: what its loops count. Plain. genus.Of: the numbers of each shell. genus.Whole: the numbers of all shells together. Of no table: shell.Of, Count, border.Loops, genus.Of, Whole. -/
import Derived.Test.YtfbpjlfimmjieaaGreatRangeM
import Derived.Sort.CutIn
import Derived.Test.YtfbpjlfimmjieaaGreatCornerNew
import Derived.Test.YtfbpjlfimmjieaaGreatFaceLaw
import Derived.Test.YtfbpjlfimmjieaaGreatRowFam
import Derived.BigQuiet
import Derived.StillTailTactics
import Derived.Test.YtfbpjlfimmjieaaGreatShellOf
namespace Go.Proofs.YtfbpjlfimmjieaaGreat
set_option linter.unusedVariables false
set_option linter.unusedSimpArgs false
open Go.RowKit Go.Shelf
open Go.RowKit
attribute [local go_sem] Oper.semAt_some
set_option maxHeartbeats 400000 in
theorem vertices_any (w : World) (b : Nat) (N : Int) (T : List Tr) (h : TabS w b N T) :
    Calls Tryz.prog 112 #[.pointer (some ⟨b, 0, none⟩)] w fun e w' => e = .returned (.int .i64 N) ∧ w = w' := by
  obtain ⟨ao, cap, h0, h1, h2, h3⟩ := h
  go_enter Tryz.func112, Tryz.ntmps112
  go_wp2
  go_ret
  exact ⟨rfl, rfl⟩
theorem info44 : (Tryz.prog.info? 25).map (fun i => (i.zero, i.size, i.bytes)) = some (some (.slice none 0 0), 1, 24) := by kernel_rfl
open Classical in
/-- What the map of the seen ones holds. -/
noncomputable def seenC (E : List (Int × Int)) (k : Nat) : Int → Option Value := fun u => if seenB E k u then some (.bool true) else none
theorem seenC_zero (E : List (Int × Int)) : seenC E 0 = fun _ => none := by
  funext u
  unfold seenC
  rw [if_neg]
  rintro ⟨w, hw, -⟩
  omega
theorem seenC_same {E : List (Int × Int)} {k : Nat} (h : ∀ u, seenB E (k + 1) u ↔ seenB E k u) : seenC E (k + 1) = seenC E k := by
  funext u
  unfold seenC
  by_cases hu : seenB E k u
  · rw [if_pos hu, if_pos ((h u).2 hu)]
  · rw [if_neg hu, if_neg fun q => hu ((h u).1 q)]
/-- The same, some of a loop put in. -/
noncomputable def seenP (E : List (Int × Int)) (k : Nat) (pre : List Int) : Int → Option Value := fun u => if u ∈ pre then some (.bool true) else seenC E k u
theorem seenP_nil (E : List (Int × Int)) (k : Nat) : seenP E k [] = seenC E k := by
  funext u
  simp [seenP]
theorem seenP_snoc (E : List (Int × Int)) (k : Nat) (pre : List Int) (x : Int) : seenP E k (pre ++ [x]) = fun u => if u = x then some (.bool true) else seenP E k pre u := by
  funext u
  unfold seenP
  by_cases h1 : u = x
  · simp [h1]
  · simp [h1]
theorem seenP_all (E : List (Int × Int)) (k : Nat) : seenP E k (orb E (k : Int)) = seenC E (k + 1) := by
  funext u
  unfold seenP seenC
  by_cases h1 : u ∈ orb E (k : Int)
  · rw [if_pos h1, if_pos (seen_add u |>.2 (.inr h1))]
  · rw [if_neg h1]
    by_cases h2 : seenB E k u
    · rw [if_pos h2, if_pos (seen_add u |>.2 (.inl h2))]
    · rw [if_neg h2, if_neg]
      intro q
      rcases (seen_add u).1 q with q | q
      · exact h2 q
      · exact h1 q
/-- A list of rows, each of its own. -/
def FamOwn (w : World) (base : Nat) (vs : List Value) (LL : List (List Int)) : Prop :=
  vs.length = LL.length ∧ ∀ (i : Nat) (l : List Int), LL[i]? = some l → ∃ a c, vs[i]? = some (Value.slice a l.length c) ∧ w.ownsRow base 3 1 (.slice a l.length c) l.length (ic l)
theorem owns_apart14 {w : World} {base base' : Nat} {e e' : TypeId} {sz sz' n n' : Nat} {v v' : Value} {xs xs' : List Value} (h : w.ownsRow base e sz v n xs) (k : w.ownsRow base' e' sz' v' n' xs') (hne : e ≠ e') : v.ownBlock = none ∨ v.ownBlock ≠ v'.ownBlock := by
  cases hk : v.ownBlock with
  | none => exact .inl rfl
  | some g =>
    refine .inr fun e2 => ?_
    rcases h.2 with ⟨q, -⟩ | ⟨g1, cap1, cur1, rfl, -, hg1, -⟩
    · rw [q] at hk; cases hk
    rcases k.2 with ⟨q, -⟩ | ⟨g2, cap2, cur2, rfl, -, hg2, -⟩
    · rw [q] at e2; cases e2
    simp only [Value.ownBlock, Option.some.injEq] at hk e2
    rw [hk] at hg1
    rw [← e2] at hg2
    rw [hg1] at hg2
    simp only [Option.some.injEq, Obj.cells.injEq] at hg2
    exact hne hg2.2.1
theorem FamOwn.kept {w w' : World} {base : Nat} {row : Option Nat} {vs : List Value} {LL : List (List Int)} (h : FamOwn w base vs LL) (hg : w.grownBy w' row) (hr : ∀ (i : Nat) (l : List Int) (a : Option Addr) (c : Nat), LL[i]? = some l → vs[i]? = some (Value.slice a l.length c) → w.ownsRow base 3 1 (.slice a l.length c) l.length (ic l) → (Value.slice a l.length c).ownBlock = none ∨ (Value.slice a l.length c).ownBlock ≠ row) : FamOwn w' base vs LL :=
  ⟨h.1, fun i l hi => by
    obtain ⟨a, c, h1, h2⟩ := h.2 i l hi
    exact ⟨a, c, h1, h2.kept hg (hr i l a c hi h1 h2)⟩⟩
theorem FamOwn.below {w w' : World} {base : Nat} {vs : List Value} {LL : List (List Int)} (h : FamOwn w base vs LL) (hb : Below w.heap.size w w') : FamOwn w' base vs LL :=
  h.kept (below_grown hb) fun i l a c _ _ ho => by
    cases q : (Value.slice a l.length c).ownBlock with
    | none => exact .inl rfl
    | some g => exact .inr (by simp)
theorem FamOwn.lower {w : World} {base B : Nat} {vs : List Value} {LL : List (List Int)} (h : FamOwn w base vs LL) (hB : B ≤ base) : FamOwn w B vs LL :=
  ⟨h.1, fun i l hi => by
    obtain ⟨a, c, h1, h2⟩ := h.2 i l hi
    exact ⟨a, c, h1, owns_base h2 hB⟩⟩
theorem FamOwn.push {w : World} {base : Nat} {vs : List Value} {LL : List (List Int)} (h : FamOwn w base vs LL) {l : List Int} {a : Option Addr} {c : Nat} (ho : w.ownsRow base 3 1 (.slice a l.length c) l.length (ic l)) : FamOwn w base (vs ++ [.slice a l.length c]) (LL ++ [l]) := by
  refine ⟨by simp [h.1], fun i l' hi => ?_⟩
  rcases Nat.lt_trichotomy i LL.length with hlt | heq | hgt
  · rw [List.getElem?_append_left hlt] at hi
    obtain ⟨a', c', h1, h2⟩ := h.2 i l' hi
    exact ⟨a', c', by rw [List.getElem?_append_left (by rw [h.1]; exact hlt)]; exact h1, h2⟩
  · subst heq
    rw [List.getElem?_append_right (Nat.le_refl _)] at hi
    simp only [Nat.sub_self, List.getElem?_cons_zero, Option.some.injEq] at hi
    subst hi
    exact ⟨a, c, by rw [List.getElem?_append_right (by rw [h.1]; exact Nat.le_refl _), h.1]; simp, ho⟩
  · rw [List.getElem?_eq_none (by simp; omega)] at hi
    cases hi
theorem But.grownBy {g : Nat} {w w' : World} (h : But w.heap.size g w w') : w.grownBy w' (some g) := ⟨h.os, h.tape, h.output, h.size, fun j hj hne => h.block j hj fun e => hne (by rw [e])⟩
/-- The marks that ranges over a function leave. -/
def markD (D : Nat) : Deferred := { target := .collected D, args := #[] }
def Marks14 (B : Nat) (Ds : List Nat) (W : World) : Prop := Ds.Nodup ∧ ∀ D, D ∈ Ds → B ≤ D ∧ W.heap[D]? = some (.deferred (some []))
theorem Marks14.lt {B : Nat} {Ds : List Nat} {W : World} (h : Marks14 B Ds W) {D : Nat} (hD : D ∈ Ds) : D < W.heap.size := (Array.getElem?_eq_some_iff.1 (h.2 D hD).2).1
theorem Marks14.keeps {B : Nat} {Ds : List Nat} {W W' : World} (h : Marks14 B Ds W) (hk : ∀ D, D < W.heap.size → B ≤ D → W.heap[D]? = some (.deferred (some [])) → W'.heap[D]? = W.heap[D]?) : Marks14 B Ds W' :=
  ⟨h.1, fun D hD => ⟨(h.2 D hD).1, (hk D (h.lt hD) (h.2 D hD).1 (h.2 D hD).2).trans (h.2 D hD).2⟩⟩
theorem leaves_marks {F : Fence} {n : Nat} {P : Program} {fn : Func} {tmps : Array Value} {R : Ending → World → Prop} {Φ : World → Prop} {B : Nat} (hΦ : ∀ W D, B ≤ D → Φ W → W.heap[D]? = some (.deferred (some [])) → Φ (W.putObj D (.deferred none)))
    (fin : ∀ W, Φ W → LeavesIn F n P fn tmps R [] .returning W) : ∀ (Ds : List Nat) (W : World), Marks14 B Ds W → Φ W → LeavesInM F n P fn tmps R (Ds.map markD) .returning W
  | [], W, _, h => fin W h
  | D :: Ds, W, hm, h => by
    have hD := hm.2 D (by simp)
    refine ⟨by simp, .inl ⟨D, _, rfl, run_takeDeferred hD.2, ?_⟩⟩
    have hn := List.nodup_cons.1 hm.1
    refine leaves_marks hΦ fin Ds _ ⟨hn.2, fun D' hD' => ?_⟩ (hΦ W D hD.1 h hD.2)
    have h' := hm.2 D' (by simp [hD'])
    exact ⟨h'.1, (World.putObj_heap_other (fun e => hn.1 (by rw [← e]; exact hD'))).trans h'.2⟩
/-- The state of border.Loops's loop. -/
structure LSt (W X : World) (E : List (Int × Int)) (ms k cn : Nat) (v : Value) (vs : List Value) (Ds : List Nat) : Prop where
  map : MapIs intFam X ms cn (seenC E k)
  row : X.ownsRow W.heap.size 25 1 v (loopsL E k).length vs
  fam : FamOwn X W.heap.size vs (loopsL E k)
  but : But W.heap.size ms W X
  ml : ms < W.heap.size
  marks : Marks14 W.heap.size Ds X
  sz : W.heap.size ≤ X.heap.size
set_option maxRecDepth 100000 in
set_option maxHeartbeats 2000000 in
theorem loops_ok (b n : Nat) (T : List Tr) (w : World) (h : Tab w b n T) (hs : Surf n T) :
    Calls Tryz.prog 113 #[.pointer (some ⟨b, 0, none⟩)] w fun e w' => ∃ v vs, e = .returned v ∧ w'.ownsRow w.heap.size 25 1 v (loopsL (bordE T (3 * T.length)) n).length vs ∧ FamOwn w' w.heap.size vs (loopsL (bordE T (3 * T.length)) n) ∧ Below w.heap.size w w' := by
  refine (callsIn_wide (n := 8)).1 ?_
  have h1 : (1 : Nat) ≤ 8 := by omega
  obtain ⟨E, hE⟩ : ∃ E, E = bordE T (3 * T.length) := ⟨_, rfl⟩
  obtain ⟨W0, hW0⟩ : ∃ W0, W0 = (w.alloc (.map #[] 0)).alloc (.cells #[.map (some w.heap.size)] 155) := ⟨_, rfl⟩
  have hb0 : Below w.heap.size w W0 := by rw [hW0]; exact ((Below.refl _ _).alloc (Nat.le_refl _) _).alloc (by simp) _
  have HV := Lib.hid (vertices_any W0 b n T (h.s.mono (Nat.le_refl _) hb0))
  have HW0 := Lib.hid hW0
  have hone : OneIn E := by rw [hE]; exact hs.oneIn
  have hnn : n ≤ 4096 := by have := hs.n1; omega
  have hlen : ∀ v : Int, (orb E v).length ≤ 100000 := fun v => by
    by_cases hv : v ∈ E.map Prod.snd
    · obtain ⟨p, hp⟩ := hone.per hv
      rw [orb_eq hv hp, List.length_map, List.length_range]
      have h1 := hp.le
      have h2 := bordE_le T (3 * T.length)
      rw [← hE] at h2
      have := hs.t1
      omega
    · rw [orb_nil hv]; simp
  have hint : ∀ v u : Int, u ∈ orb E v → I64 u := fun v u hu => by
    have hm := hone.orb_sub hu
    have h1 := hs.bord_in (u := u) (by rw [← hE]; exact hm)
    have h2 := hs.n1
    constructor <;> omega
  have h0 : ∀ u, u ∈ E.map Prod.snd → 0 ≤ u := fun u hu => (hs.bord_in (by rw [← hE]; exact hu)).1
  have HTAB := Lib.hid (show ∀ X, Below W0.heap.size W0 X → Tab X b n T from fun X hX => (h.mono (Nat.le_refl _) hb0).mono (Nat.le_refl _) hX)
  have HTB := Lib.hid (show ∀ X, But W0.heap.size w.heap.size W0 X → Tab X b n T from fun X hX => h.mono (Nat.le_refl _) (hb0.trans (hX.below hb0.size (Nat.le_refl _))))
  have HE := Lib.hid hE
  have HS := Lib.hid hs
  have HONE := Lib.hid hone
  have HLEN := Lib.hid hlen
  have HINT := Lib.hid hint
  have HNN0 := Lib.hid h0
  have HB0 := Lib.hid hb0
  have HBX := Lib.hid (show W0.cell? ⟨w.heap.size + 1, 0, none⟩ = some (.map (some w.heap.size)) ∧ W0.heap.size = w.heap.size + 2 from ⟨by
    have := (RowIs.made' (w.alloc (.map #[] 0)) 155 [.map (some w.heap.size)] (w.heap.size + 1) (by simp)).cell (i := 0) rfl
    rw [hW0]; exact this, by rw [hW0]; simp⟩)
  rw [← hE]
  clear h hs hE hone hlen hint h0 hb0
  refine callsIn_of_wp_marks Tryz.func113 rfl trivial ?_ rfl
  simp only [Tryz.ntmps113, List.size_toArray, List.length_cons, List.length_nil, Nat.reduceAdd, Nat.reduceSub, Array.replicate_succ, Array.replicate_zero, List.push_toArray, List.append_toArray, List.nil_append, List.cons_append]
  have hmm := @run_makeMap Tryz.prog
  clear hW0
  gi_wp2_with (refine ⟨trivial, ?_⟩; gi_at_call 112; rw [← HW0.out]; refine (callsIn_wide.2 HV.out).mono ?_; rintro e w1 ⟨rfl, rfl⟩)
  obtain ⟨X0, hX0⟩ : ∃ X0, X0 = W0 := ⟨_, rfl⟩
  have HST := Lib.hid (show LSt W0 W0 E w.heap.size 0 0 (.slice none 0 0) [] [] from by
    rw [HW0.out]
    refine ⟨?_, World.ownsRow_nil _ _ _ _, ⟨rfl, fun i l h => by simp [loopsL] at h⟩, But.refl _ _ _, by simp; omega, ⟨List.nodup_nil, fun D hD => by cases hD⟩, Nat.le_refl _⟩
    rw [seenC_zero]
    exact (MapIs.made w).same (Below.heap_alloc _ _ _ (by simp)))
  refine wpIn_loop (fun a' w' => ∃ (k cn : Nat) (v3 u5 u6 u7 u14 u15 u16 u17 u18 u19 u20 u21 u22 u23 u24 u25 u26 u27 u28 u29 u30 u31 u32 u33 u34 u35 u36 : Value) (vs : List Value) (Ds : List Nat), k ≤ n ∧ LSt W0 w' E w.heap.size k cn v3 vs Ds ∧ a' = { tmps := #[.pointer (some ⟨b, 0, none⟩), undef, .slice none 0 0, v3, .pointer (some ⟨w.heap.size + 1, 0, none⟩), u5, u6, u7, .pointer (some ⟨b, 0, none⟩), .bool false, .map (some w.heap.size), .pointer (some ⟨b, 0, none⟩), .int .i64 (n : Int), .int .i64 (k : Int), u14, u15, u16, u17, u18, u19, u20, u21, u22, u23, u24, u25, u26, u27, u28, u29, u30, u31, u32, u33, u34, u35, u36, undef], defers := Ds.map markD }) (fun a' w' => n - (intOf (a'.tmps.getD 13 undef)).toNat) ?_ ?_
  · exact ⟨0, 0, .slice none 0 0, undef, undef, undef, undef, undef, undef, undef, undef, undef, undef, undef, undef, undef, undef, undef, undef, undef, undef, undef, undef, undef, undef, undef, undef, undef, undef, [], [], by omega, HST.out, rfl⟩
  rintro a' X ⟨k, cn, v3, u5, u6, u7, u14, u15, u16, u17, u18, u19, u20, u21, u22, u23, u24, u25, u26, u27, u28, u29, u30, u31, u32, u33, u34, u35, u36, vs, Ds, hk, hst, rfl⟩
  have HST := Lib.hid hst
  have hbx : X.cell? ⟨w.heap.size + 1, 0, none⟩ = some (.map (some w.heap.size)) := (hst.but.cell (by have := HBX.out.2; omega) (by omega)).trans HBX.out.1
  clear hst
  by_cases hkn : k < n
  case neg =>
    obtain rfl : n = k := by omega
    have hd : decide ((n : Int) < (n : Int)) = false := by simp
    gi_wp2
    have hms : w.heap.size < W0.heap.size := HST.out.ml
    refine leaves_marks (Φ := fun W => W.ownsRow W0.heap.size 25 1 v3 (loopsL E n).length vs ∧ FamOwn W W0.heap.size vs (loopsL E n) ∧ Below w.heap.size w W) (B := W0.heap.size) ?_ ?_ Ds X HST.out.marks ⟨HST.out.row, HST.out.fam, HB0.out.trans (HST.out.but.below HB0.out.size (Nat.le_refl _))⟩
    · rintro W D hD ⟨q1, q2, q3⟩ hdf
      refine ⟨ownsRow_putObj q1 _ hdf rfl, q2.kept (grownBy_putObj' W D _) (fun i l a c _ _ ho => own_ne ho D (fun a cs e => by rw [hdf] at e; cases e)), q3.grown (grownBy_putObj' W D _) q3.size (fun q hq => by cases hq; omega)⟩
    · rintro W ⟨q1, q2, q3⟩
      exact ⟨_, results_tmp rfl _ _ _, v3, vs, rfl, owns_base q1 (by omega), q2.lower (by omega), q3⟩
  case pos =>
  have hd : decide ((k : Int) < (n : Int)) = true := by simpa using hkn
  have hk64 : I64 (k : Int) := ⟨by omega, by omega⟩
  have hlk := HST.out.map.look 155 4 (by kernel_rfl) zero_bool (k : Int) hk64 false
  by_cases hsn : seenB E k (k : Int)
  case pos =>
    have e : seenC E k (k : Int) = some (.bool true) := by unfold seenC; rw [if_pos hsn]
    rw [e] at hlk
    simp only [intFam] at hlk
    have hkS : (k : Int) ∈ E.map Prod.snd := by
      obtain ⟨w', hw', hm⟩ := hsn
      exact HONE.out.orb_sub hm
    have HS2 := Lib.hid (show LSt W0 X E w.heap.size (k + 1) cn v3 vs Ds from by
      have hmin := (seen_min HONE.out HNN0.out hkS).1 hsn
      refine ⟨by rw [seenC_same (seen_same HONE.out hsn)]; exact HST.out.map, by rw [loopsL_no hmin]; exact HST.out.row, by rw [loopsL_no hmin]; exact HST.out.fam, HST.out.but, HST.out.ml, HST.out.marks, HST.out.sz⟩)
    clear e hsn hkS
    gi_wp2
    refine ⟨⟨k + 1, cn, v3, _, _, _, _, _, _, _, _, _, _, _, _, _, _, _, _, _, _, _, _, _, _, _, _, _, _, vs, Ds, by omega, HS2.out, rfl⟩, ?_⟩
    show n - (intOf (.int .i64 ((k : Int) + 1))).toNat < n - (intOf (.int .i64 (k : Int))).toNat
    simp [intOf]; omega
  case neg =>
  have e : seenC E k (k : Int) = none := by unfold seenC; rw [if_neg hsn]
  rw [e] at hlk
  simp only [intFam] at hlk
  obtain ⟨X1, hX1⟩ : ∃ X1, X1 = (X.alloc (.cells #[.pointer (some ⟨b, 0, none⟩)] 31)).alloc (.cells #[.int .i64 (k : Int)] 3) := ⟨_, rfl⟩
  have hXX1 : Below X.heap.size X X1 := by rw [hX1]; exact ((Below.refl _ _).alloc (Nat.le_refl _) _).alloc (by simp) _
  have hs1 : X1.heap.size = X.heap.size + 2 := by rw [hX1]; simp
  have hr1 : X1.cell? ⟨X.heap.size, 0, none⟩ = some (.pointer (some ⟨b, 0, none⟩)) := by
    rw [hX1]; exact ((RowIs.made X 31 [.pointer (some ⟨b, 0, none⟩)]).alloc _).cell (i := 0) rfl
  have hr2 : X1.cell? ⟨X.heap.size + 1, 0, none⟩ = some (.int .i64 (k : Int)) := by
    rw [hX1]; exact (RowIs.made' (X.alloc (.cells #[.pointer (some ⟨b, 0, none⟩)] 31)) 3 [.int .i64 (k : Int)] (X.heap.size + 1) (by simp)).cell (i := 0) rfl
  have htab1 : Tab X1 b n T := HTB.out X1 (HST.out.but.more hXX1 HST.out.sz)
  have HCO := Lib.hid (collect_seq 7 (by omega) 152 #[.pointer (some ⟨X.heap.size, 0, none⟩), .pointer (some ⟨X.heap.size + 1, 0, none⟩)] (orb E (k : Int)) (HLEN.out k) (fun j => j = X.heap.size ∨ j = X.heap.size + 1) X1 (by rintro j (rfl | rfl) <;> omega) (enters_of Tryz.func152 (by kernel_rfl) rfl)
    (by have := walk_seq 5 (by omega) b n T HS.out X.heap.size (X.heap.size + 1) (k : Int) hk64 X1 (by omega) (by omega) hr1 hr2 htab1; rwa [← HE.out] at this))
  have HX1 := Lib.hid hX1
  have HXX1 := Lib.hid hXX1
  have HS1 := Lib.hid hs1
  have HSN := Lib.hid hsn
  clear hX1 hXX1 hs1 hr1 hr2 htab1 e hsn
  gi_upto_region 10 with (first | (refine ⟨trivial, ?_⟩; gi_at_call 139; refine (walk_any _ b (k : Int) X).mono ?_; rintro e w' ⟨rfl, hw'⟩; rw [← HX1.out] at hw'; have hw2 := hw'.symm; clear hw'; subst hw2) | (refine ⟨trivial, ?_⟩; gi_at_call 138; refine HCO.out.mono ?_; rintro e X2 ⟨vl, rfl, hown2, hb12⟩; obtain ⟨la, lc, rfl⟩ := owns_slice hown2))
  have HXX2 := Lib.hid (below_more HXX1.out (hb12.mono (Nat.le_refl _)) (by have := HXX1.out.size; omega))
  obtain ⟨X3, hX3⟩ : ∃ X3, X3 = (X2.alloc (.cells #[.pointer (some ⟨b, 0, none⟩)] 31)).alloc (.cells #[.int .i64 (k : Int)] 3) := ⟨_, rfl⟩
  have hX23 : Below X2.heap.size X2 X3 := by rw [hX3]; exact ((Below.refl _ _).alloc (Nat.le_refl _) _).alloc (by simp) _
  have hs3 : X3.heap.size = X2.heap.size + 2 := by rw [hX3]; simp
  have hr1 : X3.cell? ⟨X2.heap.size, 0, none⟩ = some (.pointer (some ⟨b, 0, none⟩)) := by
    rw [hX3]; exact ((RowIs.made X2 31 [.pointer (some ⟨b, 0, none⟩)]).alloc _).cell (i := 0) rfl
  have hr2 : X3.cell? ⟨X2.heap.size + 1, 0, none⟩ = some (.int .i64 (k : Int)) := by
    rw [hX3]; exact (RowIs.made' (X2.alloc (.cells #[.pointer (some ⟨b, 0, none⟩)] 31)) 3 [.int .i64 (k : Int)] (X2.heap.size + 1) (by simp)).cell (i := 0) rfl
  have HXX3 := Lib.hid (below_more HXX2.out hX23 HXX2.out.size)
  have HBUT3 := Lib.hid (HST.out.but.more HXX3.out HST.out.sz)
  have HSQ := Lib.hid (show SeqM Fence.wide (8 - 1) Tryz.prog 152 #[.pointer (some ⟨X2.heap.size, 0, none⟩), .pointer (some ⟨X2.heap.size + 1, 0, none⟩)] (fun x : Int => #[.int .i64 x]) (fun j => j = X2.heap.size ∨ j = X2.heap.size + 1) (orb E (k : Int)) X3 from by
    have := walk_seq (8 - 1) (by omega) b n T HS.out X2.heap.size (X2.heap.size + 1) (k : Int) hk64 X3 (by omega) (by omega) hr1 hr2 (HTB.out X3 HBUT3.out)
    rwa [← HE.out] at this)
  have HO2 := Lib.hid (owns_below hown2 hX23)
  have HX3 := Lib.hid hX3
  have HS3 := Lib.hid hs3
  have hml := HST.out.ml
  have HM3 := Lib.hid (HST.out.map.below (Nat.le_refl _) HXX3.out)
  have hsz03 : W0.heap.size ≤ X3.heap.size := by have := HST.out.sz; have := HXX3.out.size; omega
  have HSZ12 := Lib.hid (show W0.heap.size + 2 ≤ X1.heap.size ∧ X1.heap.size ≤ X2.heap.size from ⟨by have := HST.out.sz; have := HS1.out; omega, hb12.size⟩)
  have hbx3 : X3.cell? ⟨w.heap.size + 1, 0, none⟩ = some (.map (some w.heap.size)) := (HBUT3.out.cell (by have := HBX.out.2; omega) (by omega)).trans HBX.out.1
  clear hX3 hX23 hs3 hr1 hr2 hown2 hb12 hbx hlk HCO
  gi_wp2_with (refine ⟨trivial, ?_⟩; gi_at_call 139; refine (walk_any _ b (k : Int) X2).mono ?_; rintro e w' ⟨rfl, hw'⟩; rw [← HX3.out] at hw'; have hw2 := hw'.symm; clear hw'; subst hw2)
  refine rangeFunc_M rfl h1 (gf := 152) (lb := #[.pointer (some ⟨X2.heap.size, 0, none⟩), .pointer (some ⟨X2.heap.size + 1, 0, none⟩)]) rfl trivial (enters_of Tryz.func152 (by kernel_rfl) rfl) HSQ.out (Below.refl _ _) (fun _ => rfl) (by rintro j (rfl | rfl) <;> (have := HS3.out; omega))
    (fun pre W => (∃ c, MapIs intFam W w.heap.size c (seenP E k pre)) ∧ But X3.heap.size w.heap.size X3 W ∧ X3.heap.size ≤ W.heap.size) ?_ ⟨⟨cn, by rw [seenP_nil]; exact HM3.out⟩, But.refl _ _ _, Nat.le_refl _⟩ (fun x => { tmps := #[.pointer (some ⟨b, 0, none⟩), undef, .slice none 0 0, v3, .pointer (some ⟨w.heap.size + 1, 0, none⟩), .int .i64 (k : Int), .slice la (orb E (k : Int)).length lc, .int .i64 x, .pointer (some ⟨b, 0, none⟩), .bool false, .map (some w.heap.size), .pointer (some ⟨b, 0, none⟩), .int .i64 (n : Int), .int .i64 (k : Int), .bool true, .int .i64 (k : Int), .map (some w.heap.size), .int .i64 (k : Int), .bool false, .pointer (some ⟨b, 0, none⟩), .int .i64 (k : Int), .func (.func 152) #[] #[.pointer (some ⟨X.heap.size, 0, none⟩), .pointer (some ⟨X.heap.size + 1, 0, none⟩)], .slice la (orb E (k : Int)).length lc, .pointer (some ⟨b, 0, none⟩), .int .i64 (k : Int), .func (.func 152) #[] #[.pointer (some ⟨X2.heap.size, 0, none⟩), .pointer (some ⟨X2.heap.size + 1, 0, none⟩)], .int .i64 x, u27, u28, u29, u30, u31, u32, u33, u34, u35, u36, undef], defers := [] }) ?assign ?body ?done
  · rintro s A B row ⟨⟨c, hm⟩, hb, hz⟩ hg hr
    exact ⟨⟨c, hm.same (hg.block _ hm.lt (fun e => by have := (hr _ e.symm).1; omega))⟩, hb.grown hg hz (fun q hq => .inl (hr q hq).1), by have := hg.size; omega⟩
  case assign =>
    intro l x W K hK
    gi_wp2
    exact hK
  case body =>
    rintro l pre x W ⟨⟨c, hm⟩, hb, hz⟩ hpre
    have hbw := (hb.cell (by have := HBX.out.2; omega) (by omega)).trans hbx3
    have hx : x ∈ orb E (k : Int) := hpre.subset (by simp)
    obtain ⟨W', hst, hm', hg'⟩ := hm.store 155 4 (by kernel_rfl) x (HINT.out _ x hx) (.bool true)
    simp only [intFam] at hst
    have HM' := Lib.hid hm'
    have HG' := Lib.hid hg'
    have HBW := Lib.hid hb
    have HZ := Lib.hid hz
    clear hm hb hz hm' hg' hx
    gi_wp2
    refine ⟨KeepsFrom.of_grownBy HG'.out (fun j e => by cases e; omega), ?_, ⟨⟨_, by rw [seenP_snoc]; exact HM'.out⟩, HBW.out.grown HG'.out HZ.out (fun q hq => .inr (by cases hq; rfl)), by have := HG'.out.size; have := HZ.out; omega⟩⟩
    rintro j (rfl | rfl)
    · exact HG'.out.block _ (by have := HZ.out; have := HS3.out; omega) (by have := HSZ12.out; simp; omega)
    · exact HG'.out.block _ (by have := HZ.out; have := HS3.out; omega) (by have := HSZ12.out; simp; omega)
  case done =>
  rintro D X4 hD ⟨⟨c, hm4⟩, hb4, hz4⟩ hK
  have HG34 := Lib.hid hb4.grownBy
  have HM5 := Lib.hid (show MapIs intFam X4 w.heap.size c (seenC E (k + 1)) from by rw [← seenP_all]; exact hm4)
  have HROW := Lib.hid ((owns_below HST.out.row HXX3.out).kept HG34.out (owns_off (owns_below HST.out.row HXX3.out) hml))
  have HFAM := Lib.hid ((HST.out.fam.below HXX3.out).kept HG34.out (fun i l a c _ _ ho => owns_off ho hml))
  have HL4 := Lib.hid (owns_base (HO2.out.kept HG34.out (owns_off HO2.out (by have := HSZ12.out; omega))) (show W0.heap.size ≤ X1.heap.size by have := HSZ12.out; omega))
  have HBUT4 := Lib.hid (HBUT3.out.trans (show But W0.heap.size w.heap.size X3 X4 from ⟨hb4.os, hb4.tape, hb4.output, hb4.size, fun i hi hg => hb4.block i (by omega) hg⟩))
  have HSZ4 := Lib.hid (show W0.heap.size ≤ X4.heap.size from by omega)
  have HMK := Lib.hid (show Marks14 W0.heap.size (D :: Ds) X4 from by
    have hm := HST.out.marks
    refine ⟨List.nodup_cons.2 ⟨fun hD' => ?_, hm.1⟩, fun D' hD' => ?_⟩
    · have h1 := hm.lt hD'
      have h2 := HXX3.out.size
      omega
    · rcases List.mem_cons.1 hD' with rfl | hD'
      · exact ⟨by omega, hK⟩
      · have h1 := hm.lt hD'
        have h2 := hm.2 D' hD'
        have h3 := HXX3.out.size
        exact ⟨h2.1, ((hb4.block D' (by omega) (by omega)).trans (HXX3.out.block D' h1)).trans h2.2⟩)
  have HKD := Lib.hid hK
  have HDD := Lib.hid hD
  have hvs : vs.length = (loopsL E k).length := HST.out.fam.1
  have hll := loopsL_le (E := E) k
  obtain ⟨ol, hol⟩ : ∃ o, o = (orb E (k : Int)).length := ⟨_, rfl⟩
  have HOL := Lib.hid hol
  rw [← hol] at HL4 ⊢
  clear hm4 hb4 hz4 hK hD hbx3 hsz03
  by_cases hkS : (k : Int) ∈ E.map Prod.snd
  case neg =>
    have hnil := orb_nil hkS
    have hol0 : ol = 0 := by rw [hol, hnil]; rfl
    have hmin : minB E (k : Int) = false := by
      cases q : minB E (k : Int) with
      | false => rfl
      | true => exact absurd (minB_iff.1 q).1 hkS
    have d1 : decide ((ol : Int) > 0) = false := by simp [hol0]
    have d2 : decide ((0 : Int) < (ol : Int)) = false := by simp [hol0]
    have d3 : decide (0 < ol) = false := by simp [hol0]
    have HS2 := Lib.hid (show LSt W0 X4 E w.heap.size (k + 1) c v3 vs (D :: Ds) from ⟨HM5.out, by rw [loopsL_no hmin]; exact HROW.out, by rw [loopsL_no hmin]; exact HFAM.out, HBUT4.out, hml, HMK.out, HSZ4.out⟩)
    clear hol hol0 hnil hkS hmin hvs hll
    dsimp only
    gi_wp2
    refine ⟨⟨k + 1, c, v3, _, _, _, _, _, _, _, _, _, _, _, _, _, _, _, _, _, _, _, _, _, _, _, _, _, _, vs, D :: Ds, by omega, HS2.out, rfl⟩, ?_⟩
    show n - (intOf (.int .i64 ((k : Int) + 1))).toNat < n - (intOf (.int .i64 (k : Int))).toNat
    simp [intOf]; omega
  case pos =>
  obtain ⟨p, hp⟩ := HONE.out.per hkS
  have holp : 0 < ol := by rw [hol, orb_eq hkS hp, List.length_map, List.length_range]; exact hp.pos
  have hmin : minB E (k : Int) = true := by
    cases q : minB E (k : Int) with
    | true => rfl
    | false => exact absurd ((seen_min HONE.out HNN0.out hkS).2 q) HSN.out
  have d1 : decide ((ol : Int) > 0) = true := by simp; omega
  have d2 : decide ((0 : Int) < (ol : Int)) = true := by simp; omega
  have d3 : decide (0 < ol) = true := by simp; omega
  have HMIN := Lib.hid hmin
  obtain ⟨ii, hii, hj0, hj1, hj2⟩ := info_parts info44
  obtain ⟨rl, hrl⟩ : ∃ r, r = (loopsL E k).length := ⟨_, rfl⟩
  have HRL := Lib.hid hrl
  rw [← hrl] at HROW hll
  clear hol hp hkS hmin hvs hrl
  dsimp only
  gi_wp2_with (gi_at_builtin; refine wpListIn_append_own _ rfl _ _ 137 rfl W0.heap.size 25 ii (.slice none 0 0) 1 24 (by kernel_rfl) hii hj0 hj1 hj2 rfl (by decide) _ _ _ rfl (HROW.out.alloc _) ⟨X4.heap.size, 0, none⟩ 1 1 [.slice la ol lc] rfl rfl (cell_one_new _ _ _) (by simp [Value.oneCell']) (by unfold maxLen; omega) (by omega) (by have := HSZ4.out; simp; omega) ?_; intro v' w5 hown' hgrow _)
  have ha4 : Below X4.heap.size X4 (X4.alloc (.cells #[.slice la ol lc] 25)) := (Below.refl _ _).alloc (Nat.le_refl _) _
  have hov := HROW.out.alloc (.cells #[.slice la ol lc] 25)
  have HS2 := Lib.hid (show LSt W0 w5 E w.heap.size (k + 1) c v' (vs ++ [.slice la ol lc]) (D :: Ds) from by
    have hmlt := HM5.out.lt
    refine ⟨HM5.out.same ((hgrow.block _ (by simp; omega) (fun e => ?_)).trans (ha4.block _ hmlt)), ?_, ?_, ?_, hml, ?_, ?_⟩
    · have := (HROW.out.lt _ e.symm).1
      omega
    · rw [loopsL_yes HMIN.out, List.length_append, ← HRL.out]
      exact hown'
    · rw [loopsL_yes HMIN.out, HOL.out]
      have h1 : FamOwn w5 W0.heap.size vs (loopsL E k) := (HFAM.out.below ha4).kept hgrow (fun i l a c _ _ ho => owns_apart14 ho hov (by decide))
      have h2 := (owns_below HL4.out ha4).kept hgrow (owns_apart14 (owns_below HL4.out ha4) hov (by decide))
      rw [HOL.out] at h2
      exact h1.push h2
    · exact (HBUT4.out.more ha4 HSZ4.out).grown hgrow (by have := HSZ4.out; simp; omega) (fun q hq => .inl (HROW.out.lt q hq).1)
    · refine HMK.out.keeps fun D' hlt hB hd => ?_
      refine (hgrow.block D' (by simp; omega) (fun e => ?_)).trans (ha4.block D' hlt)
      rcases own_ne HROW.out D' (fun a cs q => by rw [hd] at q; cases q) with q | q
      · have e' : some D' = v3.ownBlock := e
        rw [q] at e'
        cases e'
      · exact q e.symm
    · have := hgrow.size
      have := HSZ4.out
      simp at *
      omega)
  refine ⟨⟨k + 1, c, v', _, _, _, _, _, _, _, _, _, _, _, _, _, _, _, _, _, _, _, _, _, _, _, _, _, _, vs ++ [.slice la ol lc], D :: Ds, by omega, HS2.out, rfl⟩, ?_⟩
  show n - (intOf (.int .i64 ((k : Int) + 1))).toNat < n - (intOf (.int .i64 (k : Int))).toNat
  simp [intOf]; omega
theorem firstF_has {N : Int} {T : List Tr} (hs : Surf N T) {v : Nat} (hv : (v : Int) < N) : ∃ c : Nat, firstF T 0 v = (c : Int) ∧ c < 3 * T.length ∧ vt T (c : Int) = (v : Int) := by
  obtain ⟨i, hi, hb⟩ := hs.used (v : Int) (by omega) hv
  obtain ⟨j, hj, e⟩ := hasB_iff.1 hb
  unfold firstF
  cases hf : (List.range' 0 (3 * T.length - 0)).find? fun (c : Nat) => vt T (c : Int) == (v : Int) with
  | none =>
    have := List.find?_eq_none.1 hf (3 * i + j) (by simp [List.mem_range'_1]; omega)
    have e2 := vt_tri T i j hj
    rw [e] at e2
    exact absurd (by simpa using e2) this
  | some c =>
    have h1 := List.mem_of_find?_eq_some hf
    have h2 := List.find?_some hf
    simp only [List.mem_range'_1] at h1
    exact ⟨c, rfl, by omega, by simpa using h2⟩
set_option maxRecDepth 100000 in
set_option maxHeartbeats 1000000 in
theorem corner_any (b n v : Nat) (T : List Tr) (w : World) (h : FirstAt w b T n) (hv : v < n) (hn : n ≤ 10000) :
    Calls Tryz.prog 111 #[.pointer (some ⟨b, 0, none⟩), .int .i64 (v : Int)] w fun e w' => e = .returned (.int .i64 (firstF T 0 v)) ∧ w' = w := by
  obtain ⟨f, h1, h2, h3⟩ := h
  have c0 := h3.cell (iv_get (firstF T 0) hv)
  generalize firstF T 0 v = z at c0 ⊢
  have d0 : decide ((v : Int) < 0) = false := by simp
  have d1 : decide ((v : Int) ≥ (n : Int)) = false := by simp; omega
  have d2 : decide ((n : Int) ≤ (v : Int)) = false := by simp; omega
  have d3 : decide (n ≤ v) = false := by simp; omega
  clear h3
  go_enter Tryz.func111, Tryz.ntmps111
  go_wp2
  go_ret
  exact ⟨rfl, rfl⟩
set_option maxRecDepth 100000 in
set_option maxHeartbeats 1000000 in
theorem at_any (b n v b1 b3 gl : Nat) (T : List Tr) (L : Nat → Int) (w : World) (hs : Surf n T) (h : FirstAt w b T n) (hv : v < n) (h1 : w.cell? ⟨b1, 0, none⟩ = some (.pointer (some ⟨b, 0, none⟩))) (h3 : w.cell? ⟨b3, 0, none⟩ = some (.slice (some ⟨gl, 0, none⟩) T.length T.length)) (hL : RowIs w gl 3 (iv L T.length)) :
    Calls Tryz.prog 110 #[.int .i64 (v : Int), .pointer (some ⟨b3, 0, none⟩), .pointer (some ⟨b1, 0, none⟩)] w fun e w' => e = .returned (.int .i64 (L ((firstF T 0 v).toNat / 3))) ∧ Below w.heap.size w w' := by
  obtain ⟨c, hc, hc3, -⟩ := firstF_has hs (v := v) (by omega)
  have hn4 : n ≤ 4096 := by have := hs.n1; omega
  have ht := hs.t1
  have HC := Lib.hid (show ∀ q, Calls Tryz.prog 111 #[.pointer (some ⟨b, 0, none⟩), .int .i64 (v : Int)] (w.drewN q) fun e w' => e = .returned (.int .i64 (c : Int)) ∧ ∃ r, w' = w.drewN r from fun q => by
    have := corner_any b n v T (w.drewN q) (h.mono (Nat.le_refl _) (by exact ⟨rfl, rfl, rfl, Nat.le_refl _, fun _ _ => rfl⟩)) hv (by omega)
    rw [hc] at this
    exact this.mono fun e w' ⟨h1, h2⟩ => ⟨h1, q, h2⟩)
  obtain ⟨k, hk⟩ : ∃ k, k = c / 3 := ⟨_, rfl⟩
  have hkl : k < T.length := by omega
  have s3 : (c : Int) / 3 = (k : Int) := by omega
  have c0 := hL.cell (iv_get L hkl)
  rw [hc, Int.toNat_natCast, ← hk]
  generalize L k = z at c0 ⊢
  obtain ⟨len, hlen⟩ : ∃ l, l = T.length := ⟨_, rfl⟩
  rw [← hlen] at h3 hkl ht
  clear hL hc hk hlen hs h
  go_enter Tryz.func110, Tryz.ntmps110
  go_upto_region 1 with fail
  go_quiet ((go_at_call 111; with_reducible exact HC.out _))
  go_wp2
  go_ret
  exact ⟨rfl, ⟨rfl, rfl, rfl, Nat.le_refl _, fun _ _ => rfl⟩⟩
set_option maxRecDepth 100000 in
set_option maxHeartbeats 2000000 in
theorem done_any (g o m6 : Nat) (Φ : Nat → Int) (V F B tw : Nat) (w : World) (hr : RowIs w g 88 (iv Φ m6)) (ho : o + 6 ≤ m6) (hV : Φ o = (V : Int)) (hF : Φ (o + 2) = (F : Int)) (hB : Φ (o + 3) = (B : Int)) (bV : V ≤ 100000) (bF : F ≤ 100000) (bB : B ≤ 100000) (bT : tw ≤ 100000) :
    Calls Tryz.prog 114 #[.pointer (some ⟨g, o, none⟩), .int .i64 (tw : Int)] w fun e w' => e = .returned (.tuple #[]) ∧ w.grownBy w' (some g) ∧
      RowIs w' g 88 (iv (upd (upd (upd Φ (o + 1) ((tw / 2 : Nat) : Int)) (o + 4) ((V : Int) - ((tw / 2 : Nat) : Int) + (F : Int))) (o + 5) (((2 : Int) - (B : Int) - ((V : Int) - ((tw / 2 : Nat) : Int) + (F : Int))).tdiv 2)) m6) := by
  obtain ⟨e, he⟩ : ∃ e, e = tw / 2 := ⟨_, rfl⟩
  have s2 : (tw : Int) / 2 = (e : Int) := by omega
  rw [← he]
  have be : e ≤ 50000 := by omega
  obtain ⟨eu, heu⟩ : ∃ x : Int, x = (V : Int) - (e : Int) + (F : Int) := ⟨_, rfl⟩
  have r0 := hr.set (o + 1) (.int .i64 (e : Int))
  rw [iv_set] at r0
  obtain ⟨w1, hw1⟩ : ∃ w1, w1 = w.setCell ⟨g, o + 1, none⟩ (.int .i64 (e : Int)) := ⟨_, rfl⟩
  rw [← hw1] at r0
  have HG1 := Lib.hid (show w.grownBy w1 (some g) from by rw [hw1]; exact grown_set _ _ _ _)
  have HR1 := Lib.hid r0
  have HW1 := Lib.hid hw1
  have f1 := hr.free (o + 1)
  have c1 := hr.cell (iv_get Φ (show o + 1 < m6 by omega))
  have u0 : upd Φ (o + 1) (e : Int) o = (V : Int) := by unfold upd; rw [if_neg (by omega)]; exact hV
  have u1 : upd Φ (o + 1) (e : Int) (o + 1) = (e : Int) := by unfold upd; rw [if_pos rfl]
  have u2 : upd Φ (o + 1) (e : Int) (o + 2) = (F : Int) := by unfold upd; rw [if_neg (by omega)]; exact hF
  have u3 : upd Φ (o + 1) (e : Int) (o + 3) = (B : Int) := by unfold upd; rw [if_neg (by omega)]; exact hB
  obtain ⟨Ψ, hΨ⟩ : ∃ Ψ, Ψ = upd Φ (o + 1) (e : Int) := ⟨_, rfl⟩
  rw [← hΨ] at u0 u1 u2 u3 HR1 ⊢
  have HPS := Lib.hid hΨ
  have x0 := HR1.out.cell (iv_get Ψ (show o < m6 by omega))
  have x1 := HR1.out.cell (iv_get Ψ (show o + 1 < m6 by omega))
  have x2 := HR1.out.cell (iv_get Ψ (show o + 2 < m6 by omega))
  have x4 := HR1.out.cell (iv_get Ψ (show o + 4 < m6 by omega))
  rw [u0] at x0
  rw [u1] at x1
  rw [u2] at x2
  have f4 := HR1.out.free (o + 4)
  have HU3 := Lib.hid u3
  generalize Φ (o + 1) = z1 at c1
  generalize Ψ (o + 4) = z4 at x4
  clear hw1 r0 hr he hV hF hB u0 u1 u2 u3 hΨ
  rw [← heu]
  have hse : (V : Int) - (e : Int) + (F : Int) = eu := heu.symm
  have beu : -100000 ≤ eu ∧ eu ≤ 200000 := by omega
  clear heu
  go_enter Tryz.func114, Tryz.ntmps114
  go_upto_region 1 with fail
  rw [← HW1.out]
  obtain ⟨Y, hY⟩ : ∃ Y, Y = w1.drew := ⟨_, rfl⟩
  have HY := Lib.hid hY
  have HRY := Lib.hid (show RowIs Y g 88 (iv Ψ m6) from by rw [hY]; exact HR1.out.drew1)
  have y4 : Y.cell? ⟨g, o + 4, none⟩ = some (.int .i64 z4) := by rw [hY]; exact x4
  have yf4 : Y.frozen? ⟨g, o + 4, none⟩ = false := by rw [hY]; exact f4
  clear hY
  go_still_tail 17, (by kernel_rfl)
  change wpList _ _ _ _ _ w1.drew
  rw [← HY.out]
  clear x4 f4
  obtain ⟨Y2, hY2⟩ : ∃ Y2, Y2 = Y.setCell ⟨g, o + 4, none⟩ (.int .i64 ((V : Int) - (e : Int) + (F : Int))) := ⟨_, rfl⟩
  have HY2 := Lib.hid hY2
  have HRY2 := Lib.hid (show RowIs Y2 g 88 (iv (upd Ψ (o + 4) eu) m6) from by
    have := HRY.out.set (o + 4) (.int .i64 eu)
    rw [iv_set] at this
    rw [hY2, hse]; exact this)
  have HSE := Lib.hid hse
  have HGY := Lib.hid (show w.grownBy Y2 (some g) from by
    rw [hY2]
    exact grown_tr (grown_tr HG1.out (by rw [HY.out]; exact ⟨rfl, rfl, rfl, Nat.le_refl _, fun _ _ _ => rfl⟩)) (grown_set _ _ _ _))
  clear hY2 hse
  go_upto_region 2 with fail
  rw [← HY2.out]
  have v3 : upd Ψ (o + 4) eu (o + 3) = (B : Int) := by unfold upd; rw [if_neg (by omega)]; exact HU3.out
  have v4 : upd Ψ (o + 4) eu (o + 4) = eu := by unfold upd; rw [if_pos rfl]
  obtain ⟨Θ, hΘ⟩ : ∃ Θ, Θ = upd Ψ (o + 4) eu := ⟨_, rfl⟩
  rw [← hΘ] at v3 v4 HRY2
  have HTH := Lib.hid hΘ
  obtain ⟨Z, hZ⟩ : ∃ Z, Z = Y2.drew := ⟨_, rfl⟩
  have HZ := Lib.hid hZ
  have HRZ := Lib.hid (show RowIs Z g 88 (iv Θ m6) from by rw [hZ]; exact HRY2.out.drew1)
  have z3 := HRY2.out.cell (iv_get Θ (show o + 3 < m6 by omega))
  have z4 := HRY2.out.cell (iv_get Θ (show o + 4 < m6 by omega))
  have z5 := HRZ.out.cell (iv_get Θ (show o + 5 < m6 by omega))
  rw [v3] at z3
  rw [v4] at z4
  have zf5 := HRZ.out.free (o + 5)
  generalize Θ (o + 5) = z5' at z5
  clear v3 v4 hΘ hZ y4 yf4
  go_still_tail 14, (by kernel_rfl)
  change wpList _ _ _ _ _ Y2.drew
  rw [← HZ.out]
  have HGF := Lib.hid (show w.grownBy (Z.setCell ⟨g, o + 5, none⟩ (.int .i64 (((2 : Int) - (B : Int) - eu).tdiv 2))) (some g) from
    grown_tr (grown_tr HGY.out (by rw [HZ.out]; exact ⟨rfl, rfl, rfl, Nat.le_refl _, fun _ _ _ => rfl⟩)) (grown_set _ _ _ _))
  have HRF := Lib.hid (show RowIs (Z.setCell ⟨g, o + 5, none⟩ (.int .i64 (((2 : Int) - (B : Int) - eu).tdiv 2))) g 88 (iv (upd (upd Ψ (o + 4) eu) (o + 5) (((2 : Int) - (B : Int) - eu).tdiv 2)) m6) from by
    have := HRZ.out.set (o + 5) (.int .i64 (((2 : Int) - (B : Int) - eu).tdiv 2))
    rw [iv_set, HTH.out] at this
    exact this)
  go_wp2
  exact bodyPost_end (v := .tuple #[]) (by simp [results, Tryz.results114, go_sem]) rfl ⟨rfl, HGF.out, HRF.out⟩
/-- How many of the first i have the key k. -/
def cntK (key : Nat → Int) (i k : Nat) : Nat := ((List.range i).filter fun t => decide (key t = (k : Int))).length
theorem cntK_zero (key : Nat → Int) (k : Nat) : cntK key 0 k = 0 := rfl
theorem cntK_succ (key : Nat → Int) (i k : Nat) : cntK key (i + 1) k = cntK key i k + if key i = (k : Int) then 1 else 0 := by
  unfold cntK
  rw [List.range_succ, List.filter_append, List.length_append]
  by_cases h : key i = (k : Int) <;> simp [h]
theorem cntK_le (key : Nat → Int) (i k : Nat) : cntK key i k ≤ i := by
  have := List.length_filter_le (fun t => decide (key t = (k : Int))) (List.range i)
  simpa [cntK] using this
/-- The ends of edges at the first c corners: one a corner, two on the border. -/
def twn (T : List Tr) (L : Nat → Int) (c k : Nat) : Nat := cntK (fun x => L (x / 3)) c k + ((List.range c).filter fun x => decide (L (x / 3) = (k : Int)) && decide (opp T (x : Nat) < 0)).length
theorem twn_succ (T : List Tr) (L : Nat → Int) (c k : Nat) : twn T L (c + 1) k = twn T L c k + (if L (c / 3) = (k : Int) then (if opp T (c : Nat) < 0 then 2 else 1) else 0) := by
  unfold twn
  rw [cntK_succ, List.range_succ, List.filter_append, List.length_append]
  by_cases h : L (c / 3) = (k : Int) <;> by_cases g : opp T (c : Nat) < 0 <;> simp [h, g] <;> omega
theorem twn_le (T : List Tr) (L : Nat → Int) (c k : Nat) : twn T L c k ≤ 2 * c := by
  have h1 := cntK_le (fun x => L (x / 3)) c k
  have h2 := List.length_filter_le (fun x => decide (L (x / 3) = (k : Int)) && decide (opp T (x : Nat) < 0)) (List.range c)
  rw [List.length_range] at h2
  unfold twn
  omega
/-- The shell of a vertex. -/
def shV (T : List Tr) (L : Nat → Int) (v : Nat) : Int := L ((firstF T 0 v).toNat / 3)
/-- The first vertices of the border loops. -/
def headsB (E : List (Int × Int)) (n : Nat) : List Nat := (List.range n).filter fun v => minB E (v : Int)
theorem loopsL_heads (E : List (Int × Int)) (n : Nat) : loopsL E n = (headsB E n).map fun (v : Nat) => orb E (v : Int) := rfl
theorem headsB_le (E : List (Int × Int)) (n : Nat) : (headsB E n).length ≤ n := by
  have := List.length_filter_le (fun v : Nat => minB E (v : Int)) (List.range n)
  simpa [headsB] using this
theorem headsB_mem {E : List (Int × Int)} {n v : Nat} : v ∈ headsB E n ↔ v < n ∧ minB E (v : Int) = true := by simp [headsB]
/-- A loop begins with its vertex. -/
theorem orb_head {E : List (Int × Int)} {v : Int} (hv : v ∈ E.map Prod.snd) : ∃ l, orb E v = v :: l := by
  unfold orb
  cases hb : nextB E v with
  | none => exact absurd hv (nextB_none.1 hb)
  | some b => exact ⟨_, rfl⟩
/-- The numbers under way. -/
def numF (V F B : Nat → Nat) : Nat → Int := fun i => if i % 6 = 0 then (V (i / 6) : Int) else if i % 6 = 2 then (F (i / 6) : Int) else if i % 6 = 3 then (B (i / 6) : Int) else 0
theorem numF_V (V F B : Nat → Nat) (s : Nat) : numF V F B (6 * s) = (V s : Int) := by
  unfold numF
  rw [if_pos (by omega), show 6 * s / 6 = s by omega]
theorem numF_F (V F B : Nat → Nat) (s : Nat) : numF V F B (6 * s + 2) = (F s : Int) := by
  unfold numF
  rw [if_neg (by omega), if_pos (by omega), show (6 * s + 2) / 6 = s by omega]
theorem numF_B (V F B : Nat → Nat) (s : Nat) : numF V F B (6 * s + 3) = (B s : Int) := by
  unfold numF
  rw [if_neg (by omega), if_neg (by omega), if_pos (by omega), show (6 * s + 3) / 6 = s by omega]
theorem numF_upF (V F F' B : Nat → Nat) (s : Nat) (h : ∀ k, F' k = F k + if k = s then 1 else 0) : upd (numF V F B) (6 * s + 2) ((F s : Int) + 1) = numF V F' B := by
  funext i
  unfold upd numF
  by_cases e : i = 6 * s + 2
  · subst e
    rw [if_pos rfl, if_neg (by omega), if_pos (by omega), show (6 * s + 2) / 6 = s by omega, h s, if_pos rfl]
    omega
  · rw [if_neg e]
    by_cases e2 : i % 6 = 2
    · rw [if_neg (by omega), if_pos e2, if_neg (by omega), if_pos e2, h (i / 6), if_neg (by omega)]
      rfl
    · by_cases e0 : i % 6 = 0
      · rw [if_pos e0, if_pos e0]
      · rw [if_neg e0, if_neg e2, if_neg e0, if_neg e2]
theorem numF_upV (V V' F B : Nat → Nat) (s : Nat) (h : ∀ k, V' k = V k + if k = s then 1 else 0) : upd (numF V F B) (6 * s) ((V s : Int) + 1) = numF V' F B := by
  funext i
  unfold upd numF
  by_cases e : i = 6 * s
  · subst e
    rw [if_pos rfl, if_pos (by omega), show 6 * s / 6 = s by omega, h s, if_pos rfl]
    omega
  · rw [if_neg e]
    by_cases e0 : i % 6 = 0
    · rw [if_pos e0, if_pos e0, h (i / 6), if_neg (by omega)]
      rfl
    · rw [if_neg e0, if_neg e0]
theorem numF_upB (V F B B' : Nat → Nat) (s : Nat) (h : ∀ k, B' k = B k + if k = s then 1 else 0) : upd (numF V F B) (6 * s + 3) ((B s : Int) + 1) = numF V F B' := by
  funext i
  unfold upd numF
  by_cases e : i = 6 * s + 3
  · subst e
    rw [if_pos rfl, if_neg (by omega), if_neg (by omega), if_pos (by omega), show (6 * s + 3) / 6 = s by omega, h s, if_pos rfl]
    omega
  · rw [if_neg e]
    by_cases e3 : i % 6 = 3
    · rw [if_neg (by omega), if_neg (by omega), if_pos e3, if_neg (by omega), if_neg (by omega), if_pos e3, h (i / 6), if_neg (by omega)]
      rfl
    · by_cases e0 : i % 6 = 0
      · rw [if_pos e0, if_pos e0]
      · rw [if_neg e0, if_neg e0]
        by_cases e2 : i % 6 = 2
        · rw [if_pos e2, if_pos e2]
        · rw [if_neg e2, if_neg e3, if_neg e2, if_neg e3]
/-- The numbers of a shell. -/
def finF (V F B tw : Nat → Nat) : Nat → Int := fun i =>
  let k := i / 6
  let eu := (V k : Int) - ((tw k / 2 : Nat) : Int) + (F k : Int)
  if i % 6 = 0 then (V k : Int) else if i % 6 = 1 then ((tw k / 2 : Nat) : Int) else if i % 6 = 2 then (F k : Int) else if i % 6 = 3 then (B k : Int) else if i % 6 = 4 then eu else ((2 : Int) - (B k : Int) - eu).tdiv 2
/-- Those of the first s shells done. -/
def dunF (V F B tw : Nat → Nat) (s : Nat) : Nat → Int := fun i => if i / 6 < s then finF V F B tw i else numF V F B i
theorem dunF_zero (V F B tw : Nat → Nat) : dunF V F B tw 0 = numF V F B := by
  funext i
  unfold dunF
  rw [if_neg (by omega)]
theorem dunF_here (V F B tw : Nat → Nat) (s j : Nat) (hj : j < 6) : dunF V F B tw s (6 * s + j) = numF V F B (6 * s + j) := by
  unfold dunF
  rw [if_neg (by omega)]
theorem dunF_step (V F B tw : Nat → Nat) (s : Nat) : upd (upd (upd (dunF V F B tw s) (6 * s + 1) ((tw s / 2 : Nat) : Int)) (6 * s + 4) ((V s : Int) - ((tw s / 2 : Nat) : Int) + (F s : Int))) (6 * s + 5) (((2 : Int) - (B s : Int) - ((V s : Int) - ((tw s / 2 : Nat) : Int) + (F s : Int))).tdiv 2) = dunF V F B tw (s + 1) := by
  funext i
  unfold upd dunF
  by_cases e5 : i = 6 * s + 5
  · subst e5
    rw [if_pos rfl, if_pos (by omega)]
    unfold finF
    rw [if_neg (by omega), if_neg (by omega), if_neg (by omega), if_neg (by omega), if_neg (by omega), show (6 * s + 5) / 6 = s by omega]
  · rw [if_neg e5]
    by_cases e4 : i = 6 * s + 4
    · subst e4
      rw [if_pos rfl, if_pos (by omega)]
      unfold finF
      rw [if_neg (by omega), if_neg (by omega), if_neg (by omega), if_neg (by omega), if_pos (by omega), show (6 * s + 4) / 6 = s by omega]
    · rw [if_neg e4]
      by_cases e1 : i = 6 * s + 1
      · subst e1
        rw [if_pos rfl, if_pos (by omega)]
        unfold finF
        rw [if_neg (by omega), if_pos (by omega), show (6 * s + 1) / 6 = s by omega]
      · rw [if_neg e1]
        by_cases hs : i / 6 < s
        · rw [if_pos hs, if_pos (by omega)]
        · rw [if_neg hs]
          by_cases h1 : i / 6 < s + 1
          · rw [if_pos h1]
            have hk : i / 6 = s := by omega
            unfold finF numF
            by_cases e0 : i % 6 = 0
            · rw [if_pos e0, if_pos e0]
            · have n1 : ¬ i % 6 = 1 := by omega
              rw [if_neg e0, if_neg e0, if_neg n1]
              by_cases e2 : i % 6 = 2
              · rw [if_pos e2, if_pos e2]
              · rw [if_neg e2, if_neg e2]
                by_cases e3 : i % 6 = 3
                · rw [if_pos e3, if_pos e3]
                · omega
          · rw [if_neg h1]
theorem madeCells_six (m : Nat) : (madeCells #[Value.int .i64 0, .int .i64 0, .int .i64 0, .int .i64 0, .int .i64 0, .int .i64 0] (m * 6)).toList = iv (fun _ => 0) (6 * m) := by
  apply List.ext_getElem
  · simp [madeCells, iv]; omega
  · intro i h1 h2
    have hm : i % 6 < 6 := Nat.mod_lt _ (by omega)
    simp only [madeCells, iv, Array.toList_map, Array.toList_range, List.getElem_map, List.getElem_range]
    generalize e : i % 6 = r at hm ⊢
    match r, hm with
    | 0, _ => simp [e]
    | 1, _ => simp [e]
    | 2, _ => simp [e]
    | 3, _ => simp [e]
    | 4, _ => simp [e]
    | 5, _ => simp [e]
theorem infoNum : (Tryz.prog.info? 88).map (fun i => (i.zero, i.size, i.bytes)) = some (some (.agg #[.int .i64 0, .int .i64 0, .int .i64 0, .int .i64 0, .int .i64 0, .int .i64 0]), 6, 48) := by kernel_rfl
def nV (T : List Tr) (L : Nat → Int) (n : Nat) : Nat → Nat := cntK (shV T L) n
def nF (T : List Tr) (L : Nat → Int) : Nat → Nat := cntK L T.length
def keyB (T : List Tr) (L : Nat → Int) (n : Nat) (j : Nat) : Int := shV T L ((headsB (bordE T (3 * T.length)) n).getD j 0)
def nB (T : List Tr) (L : Nat → Int) (n : Nat) : Nat → Nat := cntK (keyB T L n) (headsB (bordE T (3 * T.length)) n).length
def nT (T : List Tr) (L : Nat → Int) : Nat → Nat := twn T L (3 * T.length)
/-- The numbers of the shells, six a shell. -/
def genF (T : List Tr) (L : Nat → Int) (n : Nat) : Nat → Int := finF (nV T L n) (nF T L) (nB T L n) (nT T L)
/-- The state of genus.Of's loops: the numbers, the ends of edges. -/
structure GSt (W X : World) (go gt m : Nat) (Φ τ : Nat → Int) : Prop where
  row : RowIs X go 88 (iv Φ (6 * m))
  tw : RowIs X gt 3 (iv τ m)
  low : Below go W X
  ord : go < gt
section
variable {W X Y : World} {go gt m : Nat} {Φ τ : Nat → Int}
theorem GSt.more (h : GSt W X go gt m Φ τ) (hb : Below X.heap.size X Y) : GSt W Y go gt m Φ τ :=
  ⟨h.row.after hb, h.tw.after hb, below_more h.low hb (by have := h.row.lt; omega), h.ord⟩
theorem GSt.setO (h : GSt W X go gt m Φ τ) (i : Nat) (v : Int) : GSt W (X.setCell ⟨go, i, none⟩ (.int .i64 v)) go gt m (upd Φ i v) τ := by
  have := h.row.set i (.int .i64 v)
  rw [iv_set] at this
  exact ⟨this, h.tw.other (by have := h.ord; show go ≠ gt; omega) _, h.low.setCell (p := ⟨go, i, none⟩) (Nat.le_refl _) _, h.ord⟩
theorem GSt.setT (h : GSt W X go gt m Φ τ) (i : Nat) (v : Int) : GSt W (X.setCell ⟨gt, i, none⟩ (.int .i64 v)) go gt m Φ (upd τ i v) := by
  have := h.tw.set i (.int .i64 v)
  rw [iv_set] at this
  have ho := h.ord
  exact ⟨h.row.other (by show gt ≠ go; omega) _, this, h.low.setCell (p := ⟨gt, i, none⟩) (by show go ≤ gt; omega) _, h.ord⟩
end
theorem numF_zero : numF (fun _ => 0) (fun _ => 0) (fun _ => 0) = fun _ => 0 := by
  funext i
  unfold numF
  by_cases h0 : i % 6 = 0
  · rw [if_pos h0]; rfl
  · rw [if_neg h0]
    by_cases h2 : i % 6 = 2
    · rw [if_pos h2]; rfl
    · rw [if_neg h2]
      by_cases h3 : i % 6 = 3
      · rw [if_pos h3]; rfl
      · rw [if_neg h3]
theorem twn_upd {T : List Tr} {L : Nat → Int} {c s : Nat} (h : L (c / 3) = (s : Int)) (d : Nat) (hd : d = if opp T (c : Nat) < 0 then 2 else 1) : upd (fun k => (twn T L c k : Int)) s ((twn T L c s : Int) + (d : Int)) = fun k => (twn T L (c + 1) k : Int) := by
  funext k
  unfold upd
  rw [twn_succ, h]
  by_cases e : k = s
  · subst e
    rw [if_pos rfl, if_pos rfl, ← hd]
    omega
  · rw [if_neg e, if_neg (by omega)]
    simp
set_option maxRecDepth 100000 in
set_option maxHeartbeats 4000000 in
theorem genus_of (b n m : Nat) (T : List Tr) (L : Nat → Int) (w : World) (h : Tab w b n T) (hf : FirstAt w b T n) (hs : Surf n T) (hL : IsShells (Adj T) T.length L) (hm : (m : Int) = cnt L T.length) :
    Calls Tryz.prog 90 #[.pointer (some ⟨b, 0, none⟩)] w fun e w' => ∃ g, e = .returned (.slice (some ⟨g, 0, none⟩) m m) ∧ w.heap.size ≤ g ∧ RowIs w' g 88 (iv (genF T L n) (6 * m)) ∧ Below w.heap.size w w' := by
  obtain ⟨i0, hi, hz0, hz1, hz2⟩ := info_parts info3
  obtain ⟨j0, hj, hy0, hy1, hy2⟩ := info_parts infoNum
  obtain ⟨W0, hW0⟩ : ∃ W0, W0 = w.alloc (.cells #[.pointer (some ⟨b, 0, none⟩)] 31) := ⟨_, rfl⟩
  have hb0 : Below w.heap.size w W0 := by rw [hW0]; exact (Below.refl _ _).alloc (Nat.le_refl _) _
  have hr0 : RowIs W0 w.heap.size 31 [.pointer (some ⟨b, 0, none⟩)] := by rw [hW0]; exact RowIs.made w 31 [.pointer (some ⟨b, 0, none⟩)]
  have hn4 : n ≤ 4096 := by have := hs.n1; omega
  have ht8 := hs.t1
  have hmle : m ≤ T.length := by have := hL.cnt_le; omega
  have HLS := Lib.hid (show ∀ k, k < T.length → ∃ s : Nat, s < m ∧ L k = (s : Int) from fun k hk => by
    obtain ⟨s, e⟩ := Int.eq_ofNat_of_zero_le (hL.nonneg k hk)
    have := cnt_lt L T.length k hk
    exact ⟨s, by omega, e⟩)
  have HVS := Lib.hid (show ∀ v, v < n → ∃ s : Nat, s < m ∧ shV T L v = (s : Int) from fun v hv => by
    obtain ⟨c, hc, hc3, -⟩ := firstF_has hs (v := v) (by omega)
    unfold shV
    rw [hc, Int.toNat_natCast]
    exact HLS.out (c / 3) (by omega))
  have HTAB := Lib.hid (show ∀ X, Below w.heap.size w X → Tab X b n T ∧ FirstAt X b T n from fun X hX => ⟨h.mono (Nat.le_refl _) hX, hf.mono (Nat.le_refl _) hX⟩)
  have HS := Lib.hid hs
  have HSH := Lib.hid hL
  have HM := Lib.hid hm
  have HB0 := Lib.hid hb0
  have HR0 := Lib.hid hr0
  have HW0 := Lib.hid hW0
  have HOL := Lib.hid (of_L hs hL W0 b (HTAB.out W0 hb0).1)
  obtain ⟨xb, hxb⟩ : ∃ x, x = w.heap.size := ⟨_, rfl⟩
  rw [← hxb] at HR0
  obtain ⟨len, hlen⟩ : ∃ l, l = T.length := ⟨_, rfl⟩
  rw [← hlen] at HOL ht8 hmle HLS
  have HL := Lib.hid hlen
  have HXB := Lib.hid hxb
  clear h hf hs hL hm hb0 hr0 hW0 hxb hlen
  go_enter Tryz.func90, Tryz.ntmps90
  go_upto_region 1 with fail
  rw [← HW0.out, ← HXB.out]
  have c0 := HR0.out.cell (i := 0) rfl
  go_wp2_with fail
  refine HOL.out.mono ?_
  rintro e w1 ⟨gl, rfl, hgl, hrl, hb1⟩
  obtain ⟨W1, hW1⟩ : ∃ W1, W1 = w1.alloc (.cells #[.slice (some ⟨gl, 0, none⟩) len len] 25) := ⟨_, rfl⟩
  have hb11 : Below w1.heap.size w1 W1 := by rw [hW1]; exact (Below.refl _ _).alloc (Nat.le_refl _) _
  obtain ⟨b3, hb3⟩ : ∃ x, x = w1.heap.size := ⟨_, rfl⟩
  have HR3 := Lib.hid (show RowIs W1 b3 25 [.slice (some ⟨gl, 0, none⟩) len len] from by rw [hW1, hb3]; exact RowIs.made w1 25 [.slice (some ⟨gl, 0, none⟩) len len])
  have HRL := Lib.hid (hrl.after hb11)
  have HB01 := Lib.hid (below_more hb1 hb11 hb1.size)
  have HR01 := Lib.hid (HR0.out.after HB01.out)
  have HBW1 := Lib.hid (below_more HB0.out HB01.out HB0.out.size)
  have HW1 := Lib.hid hW1
  have HB3 := Lib.hid hb3
  have HCT := Lib.hid (count_L HS.out HSH.out HM.out W1 b (HTAB.out W1 HBW1.out).1)
  have c1 := HR01.out.cell (i := 0) rfl
  clear hW1 hb11 hb3 hrl hb1 hgl c0
  go_upto_region 2 with fail
  rw [← HW1.out, ← HB3.out]
  go_wp2_with fail
  refine HCT.out.mono ?_
  rintro e w2 ⟨rfl, hb2⟩
  have HB12 := Lib.hid hb2
  clear c1 hb2
  go_wp2_with (at_make; refine wpList_make_full _ rfl _ _ _ rfl w2.heap.size 88 j0 (.agg #[.int .i64 0, .int .i64 0, .int .i64 0, .int .i64 0, .int .i64 0, .int .i64 0]) 6 (by kernel_rfl) hj hy0 hy1 _ _ _ _ m rfl rfl rfl rfl (by rw [hy2]; omega) (by unfold maxLen; omega) (Nat.le_refl _) ?_)
  intro w3 hown hgr
  have hro : RowIs w3 w2.heap.size 88 (iv (fun _ => 0) (6 * m)) := by rw [← madeCells_six]; exact RowIs.of_owns hown
  have hb23 : Below w2.heap.size w2 w3 := (Below.refl _ _).grown hgr (Nat.le_refl _) (by simp)
  obtain ⟨go, hgo⟩ : ∃ g, g = w2.heap.size := ⟨_, rfl⟩
  rw [← hgo] at hro ⊢
  have HRO := Lib.hid hro
  have HB23 := Lib.hid hb23
  have HGO := Lib.hid hgo
  clear hown hgr hro hb23 hgo
  go_upto_region 3 with fail
  go_wp2_with (at_make; refine wpList_make_full _ rfl _ _ _ rfl w3.heap.size 3 i0 (.int .i64 0) 1 (by kernel_rfl) hi hz0 hz1 _ _ _ _ m rfl rfl rfl rfl (by rw [hz2]; omega) (by unfold maxLen; omega) (by simp) ?_)
  intro W4 hown hgr
  rw [madeCells_iv] at hown
  have hrt := RowIs.of_owns hown
  have hb34 : Below w3.heap.size w3 W4 := (Below.refl _ _).grown hgr (Nat.le_refl _) (by simp)
  obtain ⟨gt, hgt⟩ : ∃ g, g = w3.heap.size := ⟨_, rfl⟩
  rw [← hgt] at hrt ⊢
  have hsz12 := HB12.out.size
  have hsz23 := HB23.out.size
  have hlgo : go < gt := by have := HRO.out.lt; omega
  have HGS := Lib.hid (show GSt W4 W4 go gt m (numF (fun _ => 0) (cntK L 0) (fun _ => 0)) (fun s => (twn T L (3 * 0) s : Int)) from by
    refine ⟨?_, ?_, Below.refl _ _, hlgo⟩
    · rw [show cntK L 0 = fun _ => 0 from rfl, numF_zero]
      exact HRO.out.after hb34
    · exact hrt)
  have HLOW := Lib.hid (show ∀ X, Below go W4 X → X.cell? ⟨xb, 0, none⟩ = some (.pointer (some ⟨b, 0, none⟩)) ∧ X.cell? ⟨b3, 0, none⟩ = some (.slice (some ⟨gl, 0, none⟩) len len) ∧ RowIs X gl 3 (iv L len) ∧ Below w.heap.size w X from fun X hX => by
    have h24 : Below w2.heap.size w2 X := (HB23.out.trans (hb34.mono hsz23)).trans (by rw [← HGO.out]; exact hX)
    have h1X : Below W1.heap.size W1 X := below_more HB12.out h24 hsz12
    refine ⟨(HR01.out.after h1X).cell (i := 0) rfl, (HR3.out.after h1X).cell (i := 0) rfl, HRL.out.after h1X, below_more HBW1.out h1X HBW1.out.size⟩)
  have HGO2 := Lib.hid (show w.heap.size ≤ go from by rw [HGO.out]; have := HBW1.out.size; omega)
  clear hown hgr hrt hb34 hgt hsz12 hsz23 HRO HB23 HB12 HRL HR01 HR3 HBW1 HW1 HB3 HCT HOL HB01 HR0 HB0 HW0
  obtain ⟨q1, q3, -, -⟩ := HLOW.out W4 (Below.refl _ _)
  go_upto_region 6 with fail
  clear q1 q3
  go_loopw [25] (fun i ws => ∃ k : Nat, k ≤ len ∧ i = .int .i64 k ∧ GSt W4 ws go gt m (numF (fun _ => 0) (cntK L k) (fun _ => 0)) (fun s => (twn T L (3 * k) s : Int))) (fun i _ => len - (intOf i).toNat)
  case atStart => exact ⟨0, by omega, rfl, HGS.out⟩
  case round =>
  clear HGS
  obtain ⟨k, hk, rfl, hst⟩ := hrel
  obtain ⟨X, rfl⟩ : ∃ X : World, X = wr := ⟨_, rfl⟩
  have HST := Lib.hid hst
  obtain ⟨x1, x3, xl, -⟩ := HLOW.out X hst.low
  clear hst
  by_cases hkl : k < len
  case neg =>
    obtain rfl : len = k := by omega
    have HF1 := Lib.hid (show GSt W4 X go gt m (numF (cntK (shV T L) 0) (nF T L) (fun _ => 0)) (fun s => (nT T L s : Int)) from by
      have := HST.out
      rw [HL.out] at this
      exact this)
    obtain ⟨-, -, -, hbw⟩ := HLOW.out X HST.out.low
    have HVT := Lib.hid (vertices_any X b n T (HTAB.out X hbw).1.s)
    clear HST xl hbw x3 hkl hk
    go_wp2_with fail
    refine HVT.out.mono ?_
    rintro e X' ⟨rfl, rfl⟩
    clear x1 HVT
    go_wp2
    go_loopw [66] (fun i ws => ∃ v : Nat, v ≤ n ∧ i = .int .i64 v ∧ GSt W4 ws go gt m (numF (cntK (shV T L) v) (nF T L) (fun _ => 0)) (fun s => (nT T L s : Int))) (fun i _ => n - (intOf i).toNat)
    case atStart => exact ⟨0, by omega, rfl, HF1.out⟩
    case round =>
    clear HF1
    obtain ⟨v, hv, rfl, hst⟩ := hrel
    obtain ⟨X, rfl⟩ : ∃ X : World, X = wr := ⟨_, rfl⟩
    have HST := Lib.hid hst
    obtain ⟨x1, x3, xl, hbw⟩ := HLOW.out X hst.low
    clear hst
    by_cases hvn : v < n
    case neg =>
      obtain rfl : n = v := by omega
      have HF2 := Lib.hid (show GSt W4 X go gt m (numF (nV T L n) (nF T L) (cntK (keyB T L n) 0)) (fun s => (nT T L s : Int)) from HST.out)
      have HLP := Lib.hid (loops_ok b n T X (HTAB.out X hbw).1 HS.out)
      have hgX : go < X.heap.size := HST.out.row.lt
      obtain ⟨E, hE⟩ : ∃ E, E = bordE T (3 * T.length) := ⟨_, rfl⟩
      rw [← hE] at HLP
      have hone : OneIn E := by rw [hE]; exact HS.out.oneIn
      have HONE := Lib.hid hone
      have HEE := Lib.hid hE
      obtain ⟨hl, hhl⟩ : ∃ x, x = (headsB E n).length := ⟨_, rfl⟩
      have hll : (loopsL E n).length = hl := by rw [hhl, loopsL_heads, List.length_map]
      have hlb := headsB_le E n
      rw [hll] at HLP
      rw [← hhl] at hlb
      have HHL := Lib.hid hhl
      clear xl hbw x3 hvn hv HST hone hE hhl hll
      go_wp2_with fail
      refine HLP.out.mono ?_
      rintro e Y ⟨vl, vs, rfl, hown, hfam, hbY⟩
      obtain ⟨la, lc, hve⟩ := owns_slice hown
      subst hve
      have HF3 := Lib.hid (HF2.out.more hbY)
      have HOW := Lib.hid hown
      have HFA := Lib.hid hfam
      have hXY := hbY.size
      clear x1 HLP HF2 hown hfam hbY
      go_wp2
      go_loopw [83] (fun i ws => ∃ j : Nat, j ≤ hl ∧ i = .int .i64 j ∧ GSt W4 ws go gt m (numF (nV T L n) (nF T L) (cntK (keyB T L n) j)) (fun s => (nT T L s : Int)) ∧ But Y.heap.size go Y ws ∧ Y.heap.size ≤ ws.heap.size) (fun i _ => hl - (intOf i).toNat)
      case atStart => exact ⟨0, by omega, rfl, HF3.out, But.refl _ _ _, Nat.le_refl _⟩
      case round =>
      clear HF3
      obtain ⟨j, hj', rfl, hst, hbut, hsz⟩ := hrel
      obtain ⟨Z, rfl⟩ : ∃ X : World, X = wr := ⟨_, rfl⟩
      have HST := Lib.hid hst
      have HBUT := Lib.hid hbut
      have HSZ := Lib.hid hsz
      obtain ⟨x1, x3, xl, hbw⟩ := HLOW.out Z hst.low
      clear hst hbut hsz
      by_cases hjl : j < hl
      case neg =>
        obtain rfl : hl = j := by omega
        have HF4 := Lib.hid (show GSt W4 Z go gt m (dunF (nV T L n) (nF T L) (nB T L n) (nT T L) 0) (fun s => (nT T L s : Int)) from by
          rw [dunF_zero]
          have := HST.out
          rw [HHL.out, HEE.out] at this
          exact this)
        clear HST HBUT HSZ HOW HFA x1 x3 xl hbw hjl hj' hXY hgX
        go_wp2
        go_loopw [102] (fun i ws => ∃ j : Nat, j ≤ m ∧ i = .int .i64 j ∧ GSt W4 ws go gt m (dunF (nV T L n) (nF T L) (nB T L n) (nT T L) j) (fun s => (nT T L s : Int))) (fun i _ => m - (intOf i).toNat)
        case atStart => exact ⟨0, by omega, rfl, HF4.out⟩
        case round =>
        clear HF4
        obtain ⟨j, hj', rfl, hst⟩ := hrel
        obtain ⟨Z, rfl⟩ : ∃ X : World, X = wr := ⟨_, rfl⟩
        have HST := Lib.hid hst
        obtain ⟨-, -, -, hbw⟩ := HLOW.out Z hst.low
        have HBW := Lib.hid hbw
        clear hst hbw
        by_cases hjm : j < m
        case neg =>
          obtain rfl : m = j := by omega
          have HEND := Lib.hid (show RowIs Z go 88 (iv (genF T L n) (6 * m)) from by
            have := HST.out.row
            rw [iv_congr (h := genF T L n) (fun i hi => by unfold dunF genF; rw [if_pos (by omega)])] at this
            exact this)
          go_wp2
          go_ret
          exact ⟨go, rfl, HGO2.out, HEND.out, HBW.out⟩
        case pos =>
        obtain ⟨Z1, hZ1⟩ : ∃ Z1, Z1 = Z.drew := ⟨_, rfl⟩
        have HST1 := Lib.hid (show GSt W4 Z1 go gt m (dunF (nV T L n) (nF T L) (nB T L n) (nT T L) j) (fun s => (nT T L s : Int)) from by rw [hZ1]; exact HST.out.more (Below.refl _ _).drew)
        have bT : nT T L j ≤ 100000 := by
          have h1 := twn_le T L (3 * T.length) j
          have h2 := HL.out
          unfold nT
          omega
        have bV : nV T L n j ≤ 100000 := by have := cntK_le (shV T L) n j; unfold nV; omega
        have bF : nF T L j ≤ 100000 := by have := cntK_le L T.length j; have := HL.out; unfold nF; omega
        have bB : nB T L n j ≤ 100000 := by
          have := cntK_le (keyB T L n) (headsB (bordE T (3 * T.length)) n).length j
          have h2 := headsB_le (bordE T (3 * T.length)) n
          unfold nB
          omega
        have HDN := Lib.hid (done_any go (j * 6) (6 * m) (dunF (nV T L n) (nF T L) (nB T L n) (nT T L) j) (nV T L n j) (nF T L j) (nB T L n j) (nT T L j) Z1 HST1.out.row (by omega)
          (by have := dunF_here (nV T L n) (nF T L) (nB T L n) (nT T L) j 0 (by omega); rw [show 6 * j + 0 = 6 * j from rfl, numF_V, show 6 * j = j * 6 by omega] at this; exact this)
          (by have := dunF_here (nV T L n) (nF T L) (nB T L n) (nT T L) j 2 (by omega); rw [numF_F, show 6 * j + 2 = j * 6 + 2 by omega] at this; exact this)
          (by have := dunF_here (nV T L n) (nF T L) (nB T L n) (nT T L) j 3 (by omega); rw [numF_B, show 6 * j + 3 = j * 6 + 3 by omega] at this; exact this) bV bF bB bT)
        rw [show j * 6 + 1 = 6 * j + 1 by omega, show j * 6 + 4 = 6 * j + 4 by omega, show j * 6 + 5 = 6 * j + 5 by omega, dunF_step] at HDN
        have g0 := HST.out.tw.cell (iv_get (fun s => (nT T L s : Int)) hjm)
        obtain ⟨tj, htj⟩ : ∃ x, x = nT T L j := ⟨_, rfl⟩
        rw [← htj] at g0 HDN
        have HZ1 := Lib.hid hZ1
        clear bV bF bB bT htj hZ1
        go_upto_region 29 with fail
        go_still_tail 7, (by kernel_rfl)
        change wpList _ _ _ _ _ Z.drew
        rw [← HZ1.out]
        clear g0
        go_wp2_with fail
        refine HDN.out.mono ?_
        rintro e Z2 ⟨rfl, hg2, hr2⟩
        have HF := Lib.hid (show GSt W4 Z2 go gt m (dunF (nV T L n) (nF T L) (nB T L n) (nT T L) (j + 1)) (fun s => (nT T L s : Int)) from
          ⟨hr2, HST1.out.tw.grown hg2 (by have := HST1.out.ord; simp; omega), HST1.out.low.grown hg2 (by have := HST1.out.row.lt; omega) (fun q hq => by cases hq; omega), HST1.out.ord⟩)
        clear hg2 hr2 HDN HST HST1
        go_wp2
        go_roundw
        case rel => exact ⟨j + 1, by omega, by go_num, HF.out⟩
        case measure => simp [intOf]; omega
      case pos =>
      have hv0 : ∃ v0, (headsB E n)[j]? = some v0 := ⟨_, List.getElem?_eq_getElem (by rw [← HHL.out]; exact hjl)⟩
      obtain ⟨v0, hv0⟩ := hv0
      obtain ⟨hv0n, hv0m⟩ := headsB_mem.1 (List.mem_of_getElem? hv0)
      obtain ⟨tl, htl⟩ := orb_head (minB_iff.1 hv0m).1
      have hlj : (loopsL E n)[j]? = some ((v0 : Int) :: tl) := by rw [loopsL_heads, List.getElem?_map, hv0, ← htl]; rfl
      obtain ⟨ea, ec, hvs, hrow⟩ := HFA.out.2 j _ hlj
      obtain ⟨g1, cap1, e1, hg1, hg1l, -, -, hcell1, -⟩ := owns_block HOW.out (by omega)
      obtain ⟨g2, cap2, e2, hg2, hg2l, -, -, hcell2, -⟩ := owns_block hrow (by simp)
      simp only [Value.slice.injEq] at e1 e2
      obtain ⟨rfl, -, -⟩ := e1
      obtain ⟨rfl, -, -⟩ := e2
      have y1 := (HBUT.out.cell hg1l (by omega)).trans (hcell1 j _ hvs)
      have y2 := (HBUT.out.cell hg2l (by omega)).trans (hcell2 0 (.int .i64 (v0 : Int)) rfl)
      obtain ⟨el, hel⟩ : ∃ x, x = ((v0 : Int) :: tl).length := ⟨_, rfl⟩
      have hel0 : 0 < el := by rw [hel]; simp
      rw [← hel] at y1
      obtain ⟨s, hsm, hvs0⟩ := HVS.out v0 hv0n
      have HAT := Lib.hid (at_any b n v0 xb b3 gl T L Z HS.out (HTAB.out Z hbw).2 hv0n x1 (by rw [← HL.out]; exact x3) (by rw [← HL.out]; exact xl))
      rw [show L ((firstF T 0 v0).toNat / 3) = (s : Int) from hvs0] at HAT
      have HKB := Lib.hid (show keyB T L n j = (s : Int) from by
        unfold keyB
        rw [← HEE.out, List.getD_eq_getElem?_getD, hv0]
        exact hvs0)
      clear hbw xl hvs0 x1 x3 hv0 hv0m htl hlj hvs hrow hcell1 hcell2 hel
      go_wp2_with fail
      refine HAT.out.mono ?_
      rintro e Z2 ⟨rfl, hb2⟩
      have HST2 := Lib.hid (HST.out.more hb2)
      have HBUT2 := Lib.hid (HBUT.out.more hb2 HSZ.out)
      have HSZ2 := Lib.hid (show Y.heap.size ≤ Z2.heap.size from by have := hb2.size; have := HSZ.out; omega)
      have hcB := cntK_le (keyB T L n) j s
      have o0 := HST2.out.row.cell (iv_get (numF (nV T L n) (nF T L) (cntK (keyB T L n) j)) (show s * 6 + 3 < 6 * m by omega))
      rw [show s * 6 + 3 = 6 * s + 3 by omega, numF_B, show 6 * s + 3 = s * 6 + 3 by omega] at o0
      have of0 := HST2.out.row.free (s * 6 + 3)
      obtain ⟨f, hfc⟩ : ∃ f, f = cntK (keyB T L n) j s := ⟨_, rfl⟩
      rw [← hfc] at o0 hcB
      have HF := Lib.hid (show GSt W4 (Z2.setCell ⟨go, s * 6 + 3, none⟩ (.int .i64 ((f : Int) + 1))) go gt m (numF (nV T L n) (nF T L) (cntK (keyB T L n) (j + 1))) (fun s => (nT T L s : Int)) from by
        have := HST2.out.setO (s * 6 + 3) ((f : Int) + 1)
        rw [hfc, show s * 6 + 3 = 6 * s + 3 by omega, numF_upB _ _ _ (cntK (keyB T L n) (j + 1)) s (fun i => by
          rw [cntK_succ, HKB.out]
          by_cases e : i = s
          · rw [if_pos e, if_pos (by omega)]
          · rw [if_neg e, if_neg (by omega)])] at this
        rw [hfc, show s * 6 + 3 = 6 * s + 3 by omega]
        exact this)
      have HBUT3 := Lib.hid (show But Y.heap.size go Y (Z2.setCell ⟨go, s * 6 + 3, none⟩ (.int .i64 ((f : Int) + 1))) from HBUT2.out.grown (grown_set _ _ _ _) HSZ2.out (fun q hq => .inr (by cases hq; rfl)))
      have HSZ3 := Lib.hid (show Y.heap.size ≤ (Z2.setCell ⟨go, s * 6 + 3, none⟩ (.int .i64 ((f : Int) + 1))).heap.size from by have := (grown_set Z2 go (s * 6 + 3) (.int .i64 ((f : Int) + 1))).size; have := HSZ2.out; omega)
      clear hfc hb2 HST HST2 HAT y1 y2
      go_wp2
      go_roundw
      case rel => exact ⟨j + 1, by omega, by go_num, HF.out, HBUT3.out, HSZ3.out⟩
      case measure => simp [intOf]; omega
    case pos =>
    obtain ⟨s, hsm, hvs⟩ := HVS.out v hvn
    have HAT := Lib.hid (at_any b n v xb b3 gl T L X HS.out (HTAB.out X hbw).2 hvn x1 (by rw [← HL.out]; exact x3) (by rw [← HL.out]; exact xl))
    rw [show L ((firstF T 0 v).toNat / 3) = (s : Int) from hvs] at HAT
    have HKV := Lib.hid hvs
    clear hbw xl hvs x1 x3
    go_wp2_with fail
    refine HAT.out.mono ?_
    rintro e X2 ⟨rfl, hb2⟩
    have HST2 := Lib.hid (HST.out.more hb2)
    have hcV := cntK_le (shV T L) v s
    have o0 := HST2.out.row.cell (iv_get (numF (cntK (shV T L) v) (nF T L) (fun _ => 0)) (show s * 6 < 6 * m by omega))
    rw [show s * 6 = 6 * s by omega, numF_V, show 6 * s = s * 6 by omega] at o0
    have of0 := HST2.out.row.free (s * 6)
    obtain ⟨f, hfc⟩ : ∃ f, f = cntK (shV T L) v s := ⟨_, rfl⟩
    rw [← hfc] at o0 hcV
    have HF := Lib.hid (show GSt W4 (X2.setCell ⟨go, s * 6, none⟩ (.int .i64 ((f : Int) + 1))) go gt m (numF (cntK (shV T L) (v + 1)) (nF T L) (fun _ => 0)) (fun s => (nT T L s : Int)) from by
      have := HST2.out.setO (s * 6) ((f : Int) + 1)
      rw [hfc, show s * 6 = 6 * s by omega, numF_upV _ (cntK (shV T L) (v + 1)) _ _ s (fun j => by
        rw [cntK_succ, HKV.out]
        by_cases e : j = s
        · rw [if_pos e, if_pos (by omega)]
        · rw [if_neg e, if_neg (by omega)])] at this
      rw [hfc, show s * 6 = 6 * s by omega]
      exact this)
    clear hfc hb2 HST HST2 HAT
    go_wp2
    go_roundw
    case rel => exact ⟨v + 1, by omega, by go_num, HF.out⟩
    case measure => simp [intOf]; omega
  case pos =>
  obtain ⟨s, hsm, hls⟩ := HLS.out k hkl
  have l0 := xl.cell (iv_get L hkl)
  rw [hls] at l0
  have HLK := Lib.hid hls
  have hcF := cntK_le L k s
  have o0 := HST.out.row.cell (iv_get (numF (fun _ => 0) (cntK L k) (fun _ => 0)) (show s * 6 + 2 < 6 * m by omega))
  rw [show s * 6 + 2 = 6 * s + 2 by omega, numF_F, show 6 * s + 2 = s * 6 + 2 by omega] at o0
  have of0 := HST.out.row.free (s * 6 + 2)
  obtain ⟨f, hfc⟩ : ∃ f, f = cntK L k s := ⟨_, rfl⟩
  rw [← hfc] at o0 hcF
  obtain ⟨X1, hX1⟩ : ∃ X1, X1 = X.setCell ⟨go, s * 6 + 2, none⟩ (.int .i64 ((f : Int) + 1)) := ⟨_, rfl⟩
  have HST1 := Lib.hid (show GSt W4 X1 go gt m (numF (fun _ => 0) (cntK L (k + 1)) (fun _ => 0)) (fun s => (twn T L (3 * k + 0) s : Int)) from by
    have := HST.out.setO (s * 6 + 2) ((f : Int) + 1)
    rw [← hX1, hfc, show s * 6 + 2 = 6 * s + 2 by omega, numF_upF _ _ (cntK L (k + 1)) _ s (fun j => by
      rw [cntK_succ, HLK.out]
      by_cases e : j = s
      · rw [if_pos e, if_pos (by omega)]
      · rw [if_neg e, if_neg (by omega)])] at this
    exact this)
  have HX1 := Lib.hid hX1
  clear hX1 hls xl hfc HST
  go_upto_region 9 with fail
  rw [← HX1.out]
  obtain ⟨k3, hk3⟩ : ∃ a, a = 3 * k := ⟨_, rfl⟩
  have s0 : (3 : Int) * (k : Int) = (k3 : Int) := by omega
  have HK3 := Lib.hid hk3
  have hk3b : k3 + 3 ≤ 24576 := by omega
  have HST2 := Lib.hid (show GSt W4 X1 go gt m (numF (fun _ => 0) (cntK L (k + 1)) (fun _ => 0)) (fun s => (twn T L (k3 + 0) s : Int)) from by rw [hk3]; exact HST1.out)
  clear hk3 HST1 o0 of0 l0 x3
  go_wp2
  go_loopw [9] (fun j ws => ∃ q : Nat, q ≤ 3 ∧ j = .int .i64 ((k3 + q : Nat) : Int) ∧ GSt W4 ws go gt m (numF (fun _ => 0) (cntK L (k + 1)) (fun _ => 0)) (fun s => (twn T L (k3 + q) s : Int))) (fun j _ => k3 + 3 - (intOf j).toNat)
  case atStart => exact ⟨0, by omega, rfl, HST2.out⟩
  case round =>
  clear HST2 HX1
  obtain ⟨q, hq, rfl, hst⟩ := hrel
  obtain ⟨X, rfl⟩ : ∃ X : World, X = wr := ⟨_, rfl⟩
  have HST := Lib.hid hst
  clear hst
  by_cases hq3 : q < 3
  case neg =>
    have hqe : q = 3 := by omega
    have d0 : decide (((k3 + q : Nat) : Int) < (k3 : Int) + 3) = false := by simp; omega
    have HF := Lib.hid (show GSt W4 X go gt m (numF (fun _ => 0) (cntK L (k + 1)) (fun _ => 0)) (fun s => (twn T L (3 * (k + 1)) s : Int)) from by
      have := HST.out
      rw [hqe, HK3.out] at this
      exact this)
    clear hqe
    go_wp2
    go_roundw
    case rel => exact ⟨k + 1, by omega, by go_num, HF.out⟩
    case measure => simp [intOf]; omega
  case pos =>
  obtain ⟨c, hc⟩ : ∃ c, c = k3 + q := ⟨_, rfl⟩
  rw [← hc] at HST ⊢
  have d0 : decide ((c : Int) < (k3 : Int) + 3) = true := by simp; omega
  have hcs : L (c / 3) = (s : Int) := by
    have := HLK.out
    rw [show c / 3 = k by have := HK3.out; omega]
    exact this
  have HCS := Lib.hid hcs
  have htw := twn_le T L c s
  have g0 := HST.out.tw.cell (iv_get (fun s => (twn T L c s : Int)) hsm)
  have gf0 := HST.out.tw.free s
  obtain ⟨z, hz⟩ : ∃ z, z = twn T L c s := ⟨_, rfl⟩
  rw [← hz] at g0 htw
  obtain ⟨X2, hX2⟩ : ∃ X2, X2 = X.setCell ⟨gt, s, none⟩ (.int .i64 ((z : Int) + 1)) := ⟨_, rfl⟩
  have hst2 := HST.out.setT s ((z : Int) + 1)
  rw [← hX2] at hst2
  have HST2 := Lib.hid hst2
  have HX2 := Lib.hid hX2
  obtain ⟨x1, -, -, hbw⟩ := HLOW.out X2 hst2.low
  have HOP := Lib.hid (opp_any (c : Int) X2 b n T (HTAB.out X2 hbw).1 (by omega) (by have := HL.out; have := HK3.out; omega))
  have hcb : c ≤ 24576 := by omega
  have HZ := Lib.hid hz
  have HC := Lib.hid hc
  clear hX2 hst2 hbw hcs hz hc HST
  go_upto_region 13 with fail
  rw [← HX2.out]
  clear g0 gf0
  go_wp2_with fail
  refine HOP.out.mono ?_
  rintro e X3 ⟨rfl, hb3⟩
  have HST3 := Lib.hid (HST2.out.more hb3)
  obtain ⟨o, ho⟩ : ∃ o, o = opp T (c : Int) := ⟨_, rfl⟩
  rw [← ho]
  clear hb3 x1 HST2 HX2
  by_cases hneg : o < 0
  case neg =>
    have d1 : decide (o < 0) = false := by simpa using hneg
    have HF := Lib.hid (show GSt W4 X3 go gt m (numF (fun _ => 0) (cntK L (k + 1)) (fun _ => 0)) (fun s => (twn T L (k3 + (q + 1)) s : Int)) from by
      have := HST3.out
      rw [HZ.out, show ((twn T L c s : Int) + 1) = (twn T L c s : Int) + ((1 : Nat) : Int) from rfl, twn_upd HCS.out 1 (by rw [if_neg (by rw [← ho]; exact hneg)])] at this
      rw [show k3 + (q + 1) = c + 1 by have := HC.out; omega]
      exact this)
    have HC2 := Lib.hid (show (c : Int) + 1 = ((k3 + (q + 1) : Nat) : Int) from by have := HC.out; omega)
    clear hneg ho
    go_wp2
    go_roundw
    case rel => exact ⟨q + 1, by omega, by rw [HC2.out], HF.out⟩
    case measure => have := HC.out; simp [intOf]; omega
  case pos =>
  have d1 : decide (o < 0) = true := by simpa using hneg
  have g1 := HST3.out.tw.cell (iv_get _ hsm)
  rw [show upd (fun s => (twn T L c s : Int)) s ((z : Int) + 1) s = (z : Int) + 1 from by unfold upd; rw [if_pos rfl]] at g1
  have gf1 := HST3.out.tw.free s
  have HF := Lib.hid (show GSt W4 (X3.setCell ⟨gt, s, none⟩ (.int .i64 ((z : Int) + 1 + 1))) go gt m (numF (fun _ => 0) (cntK L (k + 1)) (fun _ => 0)) (fun s => (twn T L (k3 + (q + 1)) s : Int)) from by
    have := HST3.out.setT s ((z : Int) + 1 + 1)
    rw [show upd (upd (fun s => (twn T L c s : Int)) s ((z : Int) + 1)) s ((z : Int) + 1 + 1) = upd (fun s => (twn T L c s : Int)) s ((twn T L c s : Int) + ((2 : Nat) : Int)) from by
      funext j
      unfold upd
      by_cases e : j = s
      · rw [if_pos e, if_pos e, HZ.out]; omega
      · rw [if_neg e, if_neg e, if_neg e], twn_upd HCS.out 2 (by rw [if_pos (by rw [← ho]; exact hneg)])] at this
    rw [show k3 + (q + 1) = c + 1 by have := HC.out; omega]
    exact this)
  have HC2 := Lib.hid (show (c : Int) + 1 = ((k3 + (q + 1) : Nat) : Int) from by have := HC.out; omega)
  clear hneg ho
  go_wp2
  go_roundw
  case rel => exact ⟨q + 1, by omega, by rw [HC2.out], HF.out⟩
  case measure => have := HC.out; simp [intOf]; omega
/-- The sums of the first k shells' numbers. -/
def sumF (Φ : Nat → Int) : Nat → Nat → Int
  | 0, _ => 0
  | k + 1, j => sumF Φ k j + Φ (6 * k + j)
theorem genF_le {T : List Tr} {L : Nat → Int} {n : Nat} (hn : n ≤ 4096) (ht : T.length ≤ 8192) (i : Nat) : -300000 ≤ genF T L n i ∧ genF T L n i ≤ 300000 := by
  have h1 := cntK_le (shV T L) n (i / 6)
  have h2 := cntK_le L T.length (i / 6)
  have h3 := cntK_le (keyB T L n) (headsB (bordE T (3 * T.length)) n).length (i / 6)
  have h4 := headsB_le (bordE T (3 * T.length)) n
  have h5 := twn_le T L (3 * T.length) (i / 6)
  have e1 : nV T L n (i / 6) ≤ 4096 := by unfold nV; omega
  have e2 : nF T L (i / 6) ≤ 8192 := by unfold nF; omega
  have e3 : nB T L n (i / 6) ≤ 4096 := by unfold nB; omega
  have e4 : nT T L (i / 6) ≤ 49152 := by unfold nT; omega
  unfold genF finF
  dsimp only
  generalize nV T L n (i / 6) = a at e1 ⊢
  generalize nF T L (i / 6) = b at e2 ⊢
  generalize nB T L n (i / 6) = c at e3 ⊢
  generalize nT T L (i / 6) = d at e4 ⊢
  have ht : ∀ x : Int, -100000 ≤ x → x ≤ 100000 → -300000 ≤ x.tdiv 2 ∧ x.tdiv 2 ≤ 300000 := fun x h1 h2 => by
    rcases Int.le_total 0 x with h | h
    · rw [Int.tdiv_eq_ediv_of_nonneg h]; omega
    · have := Int.neg_tdiv x 2
      have h3 : (-x).tdiv 2 = (-x) / 2 := Int.tdiv_eq_ediv_of_nonneg (by omega)
      omega
  have := ht ((2 : Int) - (c : Int) - ((a : Int) - ((d / 2 : Nat) : Int) + (b : Int))) (by omega) (by omega)
  repeat' split
  all_goals omega
theorem sumF_le {Φ : Nat → Int} (h : ∀ i, -300000 ≤ Φ i ∧ Φ i ≤ 300000) (j : Nat) : ∀ k : Nat, -300000 * (k : Int) ≤ sumF Φ k j ∧ sumF Φ k j ≤ 300000 * (k : Int)
  | 0 => by simp [sumF]
  | k + 1 => by
    have h1 := sumF_le h j k
    have h2 := h (6 * k + j)
    unfold sumF
    constructor <;> omega
set_option maxRecDepth 100000 in
set_option maxHeartbeats 4000000 in
theorem whole_ok (b n m : Nat) (T : List Tr) (L : Nat → Int) (w : World) (h : Tab w b n T) (hf : FirstAt w b T n) (hs : Surf n T) (hL : IsShells (Adj T) T.length L) (hm : (m : Int) = cnt L T.length) :
    Calls Tryz.prog 63 #[.pointer (some ⟨b, 0, none⟩)] w fun e w' => e = .returned (.agg #[.int .i64 (sumF (genF T L n) m 0), .int .i64 (sumF (genF T L n) m 1), .int .i64 (sumF (genF T L n) m 2), .int .i64 (sumF (genF T L n) m 3), .int .i64 (sumF (genF T L n) m 4), .int .i64 (sumF (genF T L n) m 5)]) ∧ Below w.heap.size w w' := by
  obtain ⟨W0, hW0⟩ : ∃ W0, W0 = (w.alloc (.cells #[.int .i64 0, .int .i64 0, .int .i64 0, .int .i64 0, .int .i64 0, .int .i64 0] 88)).alloc (.cells #[.int .i64 0, .int .i64 0, .int .i64 0, .int .i64 0, .int .i64 0, .int .i64 0] 88) := ⟨_, rfl⟩
  have hb0 : Below w.heap.size w W0 := by rw [hW0]; exact ((Below.refl _ _).alloc (Nat.le_refl _) _).alloc (by simp) _
  have hr0 : RowIs W0 w.heap.size 88 (iv (fun _ => 0) 6) := by rw [hW0]; exact (RowIs.made w 88 (iv (fun _ => 0) 6)).alloc _
  have hr1 : RowIs W0 (w.heap.size + 1) 88 (iv (fun _ => 0) 6) := by rw [hW0]; exact RowIs.made' _ _ (iv (fun _ => 0) 6) _ (by simp)
  have hn4 : n ≤ 4096 := by have := hs.n1; omega
  have ht8 := hs.t1
  have hmle : m ≤ 8192 := by have := hL.cnt_le; omega
  have HG := Lib.hid (genus_of b n m T L W0 (h.mono (Nat.le_refl _) hb0) (hf.mono (Nat.le_refl _) hb0) hs hL hm)
  obtain ⟨Φ, hΦ⟩ : ∃ Φ, Φ = genF T L n := ⟨_, rfl⟩
  have HLE := Lib.hid (show ∀ i, -300000 ≤ Φ i ∧ Φ i ≤ 300000 from fun i => by rw [hΦ]; exact genF_le hn4 ht8 i)
  rw [← hΦ] at HG ⊢
  have HB0 := Lib.hid hb0
  have HR0 := Lib.hid hr0
  have HR1 := Lib.hid hr1
  have HW0 := Lib.hid hW0
  obtain ⟨xb, hxb⟩ : ∃ x, x = w.heap.size := ⟨_, rfl⟩
  rw [← hxb] at HR0 HR1
  have HXB := Lib.hid hxb
  clear h hf hs hL hm hb0 hr0 hr1 hW0 hΦ ht8 hxb
  go_enter Tryz.func63, Tryz.ntmps63
  go_upto_region 2 with fail
  simp only [← HXB.out]
  rw [← HW0.out]
  go_wp2_with fail
  refine HG.out.mono ?_
  rintro e W1 ⟨go, rfl, hgo, hro, hb1⟩
  have HRO := Lib.hid hro
  have HB1 := Lib.hid hb1
  have hx0 := (HR0.out.lt)
  have hx1 := HR1.out.lt
  have HROW1 := Lib.hid (HR1.out.after hb1)
  have HROW0 := Lib.hid (HR0.out.after hb1)
  have hlt := hro.lt
  clear hro hb1 HG
  go_wp2
  go_loopw [9] (fun i ws => ∃ k : Nat, k ≤ m ∧ i = .int .i64 k ∧ RowIs ws (xb + 1) 88 (iv (sumF Φ k) 6) ∧ But W1.heap.size (xb + 1) W1 ws ∧ W1.heap.size ≤ ws.heap.size) (fun i _ => m - (intOf i).toNat)
  case atStart => exact ⟨0, by omega, rfl, HROW1.out, But.refl _ _ _, Nat.le_refl _⟩
  case round =>
  obtain ⟨k, hk, rfl, hrow, hbut, hsz⟩ := hrel
  obtain ⟨X, rfl⟩ : ∃ X : World, X = wr := ⟨_, rfl⟩
  have HROW := Lib.hid hrow
  have HBUT := Lib.hid hbut
  have HSZ := Lib.hid hsz
  clear hrow hbut hsz
  by_cases hkm : k < m
  case neg =>
    obtain rfl : m = k := by omega
    obtain ⟨s0, hs0⟩ : ∃ x, x = sumF Φ m 0 := ⟨_, rfl⟩
    have p0 := HROW.out.cell (iv_get (sumF Φ m) (show 0 < 6 by omega))
    rw [← hs0] at p0
    have HQ0 := Lib.hid hs0
    obtain ⟨s1, hs1⟩ : ∃ x, x = sumF Φ m 1 := ⟨_, rfl⟩
    have p1 := HROW.out.cell (iv_get (sumF Φ m) (show 1 < 6 by omega))
    rw [← hs1] at p1
    have HQ1 := Lib.hid hs1
    obtain ⟨s2, hs2⟩ : ∃ x, x = sumF Φ m 2 := ⟨_, rfl⟩
    have p2 := HROW.out.cell (iv_get (sumF Φ m) (show 2 < 6 by omega))
    rw [← hs2] at p2
    have HQ2 := Lib.hid hs2
    obtain ⟨s3, hs3⟩ : ∃ x, x = sumF Φ m 3 := ⟨_, rfl⟩
    have p3 := HROW.out.cell (iv_get (sumF Φ m) (show 3 < 6 by omega))
    rw [← hs3] at p3
    have HQ3 := Lib.hid hs3
    obtain ⟨s4, hs4⟩ : ∃ x, x = sumF Φ m 4 := ⟨_, rfl⟩
    have p4 := HROW.out.cell (iv_get (sumF Φ m) (show 4 < 6 by omega))
    rw [← hs4] at p4
    have HQ4 := Lib.hid hs4
    obtain ⟨s5, hs5⟩ : ∃ x, x = sumF Φ m 5 := ⟨_, rfl⟩
    have p5 := HROW.out.cell (iv_get (sumF Φ m) (show 5 < 6 by omega))
    rw [← hs5] at p5
    have HQ5 := Lib.hid hs5
    have hr0 := HBUT.out.row HROW0.out (by have := HROW0.out.lt; exact this) (by omega)
    have z0 := hr0.cell (iv_get (fun _ => 0) (show 0 < 6 by omega))
    have z1 := hr0.cell (iv_get (fun _ => 0) (show 1 < 6 by omega))
    have z2 := hr0.cell (iv_get (fun _ => 0) (show 2 < 6 by omega))
    have z3 := hr0.cell (iv_get (fun _ => 0) (show 3 < 6 by omega))
    have z4 := hr0.cell (iv_get (fun _ => 0) (show 4 < 6 by omega))
    have z5 := hr0.cell (iv_get (fun _ => 0) (show 5 < 6 by omega))
    have zf := fun i => hr0.free i
    have hrF := ((((((hr0.set 0 (.int .i64 s0)).set 1 (.int .i64 s1)).set 2 (.int .i64 s2)).set 3 (.int .i64 s3)).set 4 (.int .i64 s4)).set 5 (.int .i64 s5))
    rw [iv_set, iv_set, iv_set, iv_set, iv_set, iv_set] at hrF
    have y0 := hrF.cell (iv_get _ (show 0 < 6 by omega))
    rw [show upd (upd (upd (upd (upd (upd (fun _ => 0) 0 s0) 1 s1) 2 s2) 3 s3) 4 s4) 5 s5 0 = s0 from by simp [upd]] at y0
    have y1 := hrF.cell (iv_get _ (show 1 < 6 by omega))
    rw [show upd (upd (upd (upd (upd (upd (fun _ => 0) 0 s0) 1 s1) 2 s2) 3 s3) 4 s4) 5 s5 1 = s1 from by simp [upd]] at y1
    have y2 := hrF.cell (iv_get _ (show 2 < 6 by omega))
    rw [show upd (upd (upd (upd (upd (upd (fun _ => 0) 0 s0) 1 s1) 2 s2) 3 s3) 4 s4) 5 s5 2 = s2 from by simp [upd]] at y2
    have y3 := hrF.cell (iv_get _ (show 3 < 6 by omega))
    rw [show upd (upd (upd (upd (upd (upd (fun _ => 0) 0 s0) 1 s1) 2 s2) 3 s3) 4 s4) 5 s5 3 = s3 from by simp [upd]] at y3
    have y4 := hrF.cell (iv_get _ (show 4 < 6 by omega))
    rw [show upd (upd (upd (upd (upd (upd (fun _ => 0) 0 s0) 1 s1) 2 s2) 3 s3) 4 s4) 5 s5 4 = s4 from by simp [upd]] at y4
    have y5 := hrF.cell (iv_get _ (show 5 < 6 by omega))
    rw [show upd (upd (upd (upd (upd (upd (fun _ => 0) 0 s0) 1 s1) 2 s2) 3 s3) 4 s4) 5 s5 5 = s5 from by simp [upd]] at y5
    have HBF := Lib.hid (show Below w.heap.size w ((((((X.setCell ⟨xb, 0, none⟩ (.int .i64 s0)).setCell ⟨xb, 1, none⟩ (.int .i64 s1)).setCell ⟨xb, 2, none⟩ (.int .i64 s2)).setCell ⟨xb, 3, none⟩ (.int .i64 s3)).setCell ⟨xb, 4, none⟩ (.int .i64 s4)).setCell ⟨xb, 5, none⟩ (.int .i64 s5)) from by
      have hbw : Below xb w X := by
        rw [HXB.out]
        exact (below_more HB0.out HB1.out HB0.out.size).trans (HBUT.out.below (by rw [← HXB.out]; omega) (by rw [← HXB.out]; omega))
      rw [HXB.out] at hbw ⊢
      exact (((((hbw.setCell (p := ⟨w.heap.size, 0, none⟩) (Nat.le_refl _) _).setCell (p := ⟨w.heap.size, 1, none⟩) (Nat.le_refl _) _).setCell (p := ⟨w.heap.size, 2, none⟩) (Nat.le_refl _) _).setCell (p := ⟨w.heap.size, 3, none⟩) (Nat.le_refl _) _).setCell (p := ⟨w.heap.size, 4, none⟩) (Nat.le_refl _) _).setCell (p := ⟨w.heap.size, 5, none⟩) (Nat.le_refl _) _)
    clear hs0 hs1 hs2 hs3 hs4 hs5 hr0 hrF
    go_wp2
    exact bodyPost_ret (v := .agg #[.int .i64 s0, .int .i64 s1, .int .i64 s2, .int .i64 s3, .int .i64 s4, .int .i64 s5]) (by simp [results, Tryz.results63, go_sem, y0, y1, y2, y3, y4, y5]) rfl ⟨by rw [HQ0.out, HQ1.out, HQ2.out, HQ3.out, HQ4.out, HQ5.out], HBF.out⟩
  case pos =>
  have hro := HBUT.out.row HRO.out hlt (by omega)
  have p0 := hro.cell (iv_get Φ (show k * 6 < 6 * m by omega))
  have p1 := hro.cell (iv_get Φ (show k * 6 + 1 < 6 * m by omega))
  have p2 := hro.cell (iv_get Φ (show k * 6 + 2 < 6 * m by omega))
  have p3 := hro.cell (iv_get Φ (show k * 6 + 3 < 6 * m by omega))
  have p4 := hro.cell (iv_get Φ (show k * 6 + 4 < 6 * m by omega))
  have p5 := hro.cell (iv_get Φ (show k * 6 + 5 < 6 * m by omega))
  obtain ⟨f0, hf0⟩ : ∃ x, x = Φ (k * 6) := ⟨_, rfl⟩
  obtain ⟨f1, hf1⟩ : ∃ x, x = Φ (k * 6 + 1) := ⟨_, rfl⟩
  obtain ⟨f2, hf2⟩ : ∃ x, x = Φ (k * 6 + 2) := ⟨_, rfl⟩
  obtain ⟨f3, hf3⟩ : ∃ x, x = Φ (k * 6 + 3) := ⟨_, rfl⟩
  obtain ⟨f4, hf4⟩ : ∃ x, x = Φ (k * 6 + 4) := ⟨_, rfl⟩
  obtain ⟨f5, hf5⟩ : ∃ x, x = Φ (k * 6 + 5) := ⟨_, rfl⟩
  rw [← hf0] at p0
  rw [← hf1] at p1
  rw [← hf2] at p2
  rw [← hf3] at p3
  rw [← hf4] at p4
  rw [← hf5] at p5
  obtain ⟨X1, hX1⟩ : ∃ X1, X1 = X.alloc (.cells #[.int .i64 f0, .int .i64 f1, .int .i64 f2, .int .i64 f3, .int .i64 f4, .int .i64 f5] 88) := ⟨_, rfl⟩
  have hbX : Below X.heap.size X X1 := by rw [hX1]; exact (Below.refl _ _).alloc (Nat.le_refl _) _
  have hrX : RowIs X1 X.heap.size 88 [.int .i64 f0, .int .i64 f1, .int .i64 f2, .int .i64 f3, .int .i64 f4, .int .i64 f5] := by rw [hX1]; exact RowIs.made X 88 [.int .i64 f0, .int .i64 f1, .int .i64 f2, .int .i64 f3, .int .i64 f4, .int .i64 f5]
  have HX1 := Lib.hid hX1
  have HF0 := Lib.hid hf0
  have bf0 := HLE.out (k * 6)
  have HF1 := Lib.hid hf1
  have bf1 := HLE.out (k * 6 + 1)
  have HF2 := Lib.hid hf2
  have bf2 := HLE.out (k * 6 + 2)
  have HF3 := Lib.hid hf3
  have bf3 := HLE.out (k * 6 + 3)
  have HF4 := Lib.hid hf4
  have bf4 := HLE.out (k * 6 + 4)
  have HF5 := Lib.hid hf5
  have bf5 := HLE.out (k * 6 + 5)
  rw [← hf0] at bf0
  rw [← hf1] at bf1
  rw [← hf2] at bf2
  rw [← hf3] at bf3
  rw [← hf4] at bf4
  rw [← hf5] at bf5
  have hkm8 : k ≤ 8191 := by omega
  have o0 := (HROW.out.after hbX).cell (iv_get (sumF Φ k) (show 0 < 6 by omega))
  obtain ⟨s0, hs0⟩ : ∃ x, x = sumF Φ k 0 := ⟨_, rfl⟩
  rw [← hs0] at o0
  have bs0 := sumF_le HLE.out 0 k
  rw [← hs0] at bs0
  have HS0 := Lib.hid hs0
  have o1 := (HROW.out.after hbX).cell (iv_get (sumF Φ k) (show 1 < 6 by omega))
  obtain ⟨s1, hs1⟩ : ∃ x, x = sumF Φ k 1 := ⟨_, rfl⟩
  rw [← hs1] at o1
  have bs1 := sumF_le HLE.out 1 k
  rw [← hs1] at bs1
  have HS1 := Lib.hid hs1
  have o2 := (HROW.out.after hbX).cell (iv_get (sumF Φ k) (show 2 < 6 by omega))
  obtain ⟨s2, hs2⟩ : ∃ x, x = sumF Φ k 2 := ⟨_, rfl⟩
  rw [← hs2] at o2
  have bs2 := sumF_le HLE.out 2 k
  rw [← hs2] at bs2
  have HS2 := Lib.hid hs2
  have o3 := (HROW.out.after hbX).cell (iv_get (sumF Φ k) (show 3 < 6 by omega))
  obtain ⟨s3, hs3⟩ : ∃ x, x = sumF Φ k 3 := ⟨_, rfl⟩
  rw [← hs3] at o3
  have bs3 := sumF_le HLE.out 3 k
  rw [← hs3] at bs3
  have HS3 := Lib.hid hs3
  have o4 := (HROW.out.after hbX).cell (iv_get (sumF Φ k) (show 4 < 6 by omega))
  obtain ⟨s4, hs4⟩ : ∃ x, x = sumF Φ k 4 := ⟨_, rfl⟩
  rw [← hs4] at o4
  have bs4 := sumF_le HLE.out 4 k
  rw [← hs4] at bs4
  have HS4 := Lib.hid hs4
  have o5 := (HROW.out.after hbX).cell (iv_get (sumF Φ k) (show 5 < 6 by omega))
  obtain ⟨s5, hs5⟩ : ∃ x, x = sumF Φ k 5 := ⟨_, rfl⟩
  rw [← hs5] at o5
  have bs5 := sumF_le HLE.out 5 k
  rw [← hs5] at bs5
  have HS5 := Lib.hid hs5
  have q0 := hrX.cell (i := 0) rfl
  have q1 := hrX.cell (i := 1) rfl
  have q2 := hrX.cell (i := 2) rfl
  have q3 := hrX.cell (i := 3) rfl
  have q4 := hrX.cell (i := 4) rfl
  have q5 := hrX.cell (i := 5) rfl
  have a0 : -4000000000 ≤ s0 ∧ s0 ≤ 4000000000 := by omega
  have c0 : -300000 ≤ f0 ∧ f0 ≤ 300000 := bf0
  have a1 : -4000000000 ≤ s1 ∧ s1 ≤ 4000000000 := by omega
  have c1 : -300000 ≤ f1 ∧ f1 ≤ 300000 := bf1
  have a2 : -4000000000 ≤ s2 ∧ s2 ≤ 4000000000 := by omega
  have c2 : -300000 ≤ f2 ∧ f2 ≤ 300000 := bf2
  have a3 : -4000000000 ≤ s3 ∧ s3 ≤ 4000000000 := by omega
  have c3 : -300000 ≤ f3 ∧ f3 ≤ 300000 := bf3
  have a4 : -4000000000 ≤ s4 ∧ s4 ≤ 4000000000 := by omega
  have c4 : -300000 ≤ f4 ∧ f4 ≤ 300000 := bf4
  have a5 : -4000000000 ≤ s5 ∧ s5 ≤ 4000000000 := by omega
  have c5 : -300000 ≤ f5 ∧ f5 ≤ 300000 := bf5
  have of := fun i => (HROW.out.after hbX).free i
  obtain ⟨X2, hX2⟩ : ∃ X2, X2 = ((((((X1.setCell ⟨xb + 1, 0, none⟩ (.int .i64 (s0 + f0))).setCell ⟨xb + 1, 1, none⟩ (.int .i64 (s1 + f1))).setCell ⟨xb + 1, 2, none⟩ (.int .i64 (s2 + f2))).setCell ⟨xb + 1, 3, none⟩ (.int .i64 (s3 + f3))).setCell ⟨xb + 1, 4, none⟩ (.int .i64 (s4 + f4))).setCell ⟨xb + 1, 5, none⟩ (.int .i64 (s5 + f5))) := ⟨_, rfl⟩
  have HX2 := Lib.hid hX2
  have HR2 := Lib.hid (show RowIs X2 (xb + 1) 88 (iv (sumF Φ (k + 1)) 6) from by
    have h0 := (((((((HROW.out.after hbX).set 0 (.int .i64 (s0 + f0))).set 1 (.int .i64 (s1 + f1))).set 2 (.int .i64 (s2 + f2))).set 3 (.int .i64 (s3 + f3))).set 4 (.int .i64 (s4 + f4))).set 5 (.int .i64 (s5 + f5)))
    rw [iv_set, iv_set, iv_set, iv_set, iv_set, iv_set] at h0
    rw [hX2, iv_congr (h := upd (upd (upd (upd (upd (upd (sumF Φ k) 0 (s0 + f0)) 1 (s1 + f1)) 2 (s2 + f2)) 3 (s3 + f3)) 4 (s4 + f4)) 5 (s5 + f5)) (fun i hi => ?_)]
    · exact h0
    · unfold upd
      match i, hi with
      | 0, _ => simp [sumF, hs0, hf0, Nat.mul_comm]
      | 1, _ => simp [sumF, hs1, hf1, Nat.mul_comm]
      | 2, _ => simp [sumF, hs2, hf2, Nat.mul_comm]
      | 3, _ => simp [sumF, hs3, hf3, Nat.mul_comm]
      | 4, _ => simp [sumF, hs4, hf4, Nat.mul_comm]
      | 5, _ => simp [sumF, hs5, hf5, Nat.mul_comm])
  have hb1' := HBUT.out.more hbX HSZ.out
  have HB2 := Lib.hid (show But W1.heap.size (xb + 1) W1 X2 ∧ W1.heap.size ≤ X2.heap.size from by
    have hg := grown_tr (grown_tr (grown_tr (grown_tr (grown_tr (grown_set X1 (xb + 1) 0 (.int .i64 (s0 + f0))) (grown_set _ (xb + 1) 1 (.int .i64 (s1 + f1)))) (grown_set _ (xb + 1) 2 (.int .i64 (s2 + f2)))) (grown_set _ (xb + 1) 3 (.int .i64 (s3 + f3)))) (grown_set _ (xb + 1) 4 (.int .i64 (s4 + f4)))) (grown_set _ (xb + 1) 5 (.int .i64 (s5 + f5)))
    rw [← hX2] at hg
    have h1 := hbX.size
    have h2 := HSZ.out
    exact ⟨hb1'.grown hg (by omega) (fun q hq => .inr (by cases hq; rfl)), by have := hg.size; omega⟩)
  clear hf0 hs0 bf0 bs0 hf1 hs1 bf1 bs1 hf2 hs2 bf2 bs2 hf3 hs3 bf3 bs3 hf4 hs4 bf4 bs4 hf5 hs5 bf5 bs5 hX1 hX2 hbX hrX hro hb1'
  go_upto_region 5 with fail
  rw [← HX1.out]
  go_upto_region 6 with fail
  rw [← HX2.out]
  go_wp2
  go_roundw
  case rel => exact ⟨k + 1, by omega, by go_num, HR2.out, HB2.out.1, HB2.out.2⟩
  case measure => simp [intOf]; omega
set_option maxRecDepth 100000 in
set_option maxHeartbeats 1000000 in
theorem of_nil (w : World) : Calls Tryz.prog 32 #[.pointer none] w fun e w' => ∃ g, e = .returned (.slice (some ⟨g, 0, none⟩) 0 0) ∧ Below w.heap.size w w' := by
  obtain ⟨i0, hi, hz0, hz1, hz2⟩ := info_parts info3
  go_enter Tryz.func32, Tryz.ntmps32
  go_wp2_with fail
  refine (triangles_nil _).mono ?_
  rintro e w1 ⟨rfl, rfl⟩
  go_wp2_with (at_make; refine wpList_make_full _ rfl _ _ _ rfl w.heap.size 3 i0 (.int .i64 0) 1 (by kernel_rfl) hi hz0 hz1 _ _ _ _ 0 rfl rfl rfl rfl (by rw [hz2]; omega) (by unfold maxLen; omega) (Nat.le_refl _) ?_)
  intro w1 hown hgrow
  have HB1 := Lib.hid (show Below w.heap.size w w1 from (Below.refl _ _).grown hgrow (Nat.le_refl _) (by simp))
  clear hown hgrow hi hz0 hz1 hz2
  go_wp2
  go_loopw [16, 4] (fun i _ ws => i = .int .i64 0 ∧ ws = w1) (fun _ _ _ => 0)
  case atStart => exact ⟨rfl, rfl⟩
  case round =>
    obtain ⟨rfl, rfl⟩ := hrel
    obtain ⟨w1, rfl⟩ : ∃ w1 : World, w1 = wr := ⟨_, rfl⟩
    go_wp2
    go_loopw [25, 5] (fun i _ ws => i = .int .i64 0 ∧ ws = w1) (fun _ _ _ => 0)
    case atStart => exact ⟨rfl, rfl⟩
    case round =>
      obtain ⟨rfl, rfl⟩ := hrel
      go_wp2
      exact bodyPost_ret (v := .slice (some ⟨w.heap.size, 0, none⟩) 0 0) (by simp [results, Tryz.results32, go_sem]) rfl ⟨_, rfl, HB1.out⟩
set_option maxRecDepth 100000 in
set_option maxHeartbeats 1000000 in
theorem count_nil (w : World) : Calls Tryz.prog 29 #[.pointer none] w fun e w' => e = .returned (.int .i64 0) ∧ Below w.heap.size w w' := by
  go_enter Tryz.func29, Tryz.ntmps29
  go_wp2_with fail
  refine (of_nil _).mono ?_
  rintro e w1 ⟨g, rfl, hb⟩
  have HB1 := Lib.hid hb
  clear hb
  go_wp2
  go_loopw [9, 3] (fun i v ws => i = .int .i64 0 ∧ v = .int .i64 0 ∧ ws = w1) (fun _ _ _ => 0)
  case atStart => exact ⟨rfl, rfl, rfl⟩
  case round =>
    obtain ⟨rfl, rfl, rfl⟩ := hrel
    go_wp2
    exact bodyPost_ret (v := .int .i64 0) (by simp [results, Tryz.results29, go_sem]) rfl ⟨rfl, HB1.out⟩
set_option maxHeartbeats 400000 in
theorem vertices_nil (w : World) : Calls Tryz.prog 112 #[.pointer none] w fun e w' => e = .returned (.int .i64 0) ∧ w = w' := by
  go_enter Tryz.func112, Tryz.ntmps112
  go_wp2
  go_ret
  exact ⟨rfl, rfl⟩
set_option maxHeartbeats 400000 in
theorem loops_nil (w : World) : Calls Tryz.prog 113 #[.pointer none] w fun e w' => e = .returned (.slice none 0 0) ∧ w = w' := by
  go_enter Tryz.func113, Tryz.ntmps113
  go_wp2
  go_ret
  exact ⟨rfl, rfl⟩
set_option maxRecDepth 100000 in
set_option maxHeartbeats 2000000 in
theorem genus_nil (w : World) : Calls Tryz.prog 90 #[.pointer none] w fun e w' => ∃ g, e = .returned (.slice (some ⟨g, 0, none⟩) 0 0) ∧ w.heap.size ≤ g ∧ g < w'.heap.size ∧ Below w.heap.size w w' := by
  obtain ⟨i0, hi, hz0, hz1, hz2⟩ := info_parts info3
  obtain ⟨j0, hj, hy0, hy1, hy2⟩ := info_parts infoNum
  obtain ⟨W0, hW0⟩ : ∃ W0, W0 = w.alloc (.cells #[.pointer none] 31) := ⟨_, rfl⟩
  have hb0 : Below w.heap.size w W0 := by rw [hW0]; exact (Below.refl _ _).alloc (Nat.le_refl _) _
  have hr0 : RowIs W0 w.heap.size 31 [.pointer none] := by rw [hW0]; exact RowIs.made w 31 [.pointer none]
  have HB0 := Lib.hid hb0
  have HR0 := Lib.hid hr0
  have HW0 := Lib.hid hW0
  obtain ⟨xb, hxb⟩ : ∃ x, x = w.heap.size := ⟨_, rfl⟩
  rw [← hxb] at HR0
  have HXB := Lib.hid hxb
  clear hb0 hr0 hW0 hxb
  go_enter Tryz.func90, Tryz.ntmps90
  go_upto_region 1 with fail
  rw [← HW0.out, ← HXB.out]
  have c0 := HR0.out.cell (i := 0) rfl
  go_wp2_with fail
  refine (of_nil _).mono ?_
  rintro e w1 ⟨gl, rfl, hb1⟩
  obtain ⟨W1, hW1⟩ : ∃ W1, W1 = w1.alloc (.cells #[.slice (some ⟨gl, 0, none⟩) 0 0] 25) := ⟨_, rfl⟩
  have hb11 : Below w1.heap.size w1 W1 := by rw [hW1]; exact (Below.refl _ _).alloc (Nat.le_refl _) _
  obtain ⟨b3, hb3⟩ : ∃ x, x = w1.heap.size := ⟨_, rfl⟩
  have HR3 := Lib.hid (show RowIs W1 b3 25 [.slice (some ⟨gl, 0, none⟩) 0 0] from by rw [hW1, hb3]; exact RowIs.made w1 25 [.slice (some ⟨gl, 0, none⟩) 0 0])
  have HB01 := Lib.hid (below_more hb1 hb11 hb1.size)
  have HR01 := Lib.hid (HR0.out.after HB01.out)
  have HBW1 := Lib.hid (below_more HB0.out HB01.out HB0.out.size)
  have HW1 := Lib.hid hW1
  have HB3 := Lib.hid hb3
  have c1 := HR01.out.cell (i := 0) rfl
  clear hW1 hb11 hb3 hb1 c0
  go_upto_region 2 with fail
  rw [← HW1.out, ← HB3.out]
  go_wp2_with fail
  refine (count_nil _).mono ?_
  rintro e w2 ⟨rfl, hb2⟩
  have HB12 := Lib.hid hb2
  clear c1 hb2
  go_wp2_with (at_make; refine wpList_make_full _ rfl _ _ _ rfl w2.heap.size 88 j0 (.agg #[.int .i64 0, .int .i64 0, .int .i64 0, .int .i64 0, .int .i64 0, .int .i64 0]) 6 (by kernel_rfl) hj hy0 hy1 _ _ _ _ 0 rfl rfl rfl rfl (by rw [hy2]; omega) (by unfold maxLen; omega) (Nat.le_refl _) ?_)
  intro w3 hown hgr
  have hb23 : Below w2.heap.size w2 w3 := (Below.refl _ _).grown hgr (Nat.le_refl _) (by simp)
  have hlt3 : w2.heap.size < w3.heap.size := (RowIs.of_owns hown).lt
  obtain ⟨go, hgo⟩ : ∃ g, g = w2.heap.size := ⟨_, rfl⟩
  rw [← hgo] at hlt3 ⊢
  have HB23 := Lib.hid hb23
  have HGO := Lib.hid hgo
  clear hown hgr hb23 hgo
  go_upto_region 3 with fail
  go_wp2_with (at_make; refine wpList_make_full _ rfl _ _ _ rfl w3.heap.size 3 i0 (.int .i64 0) 1 (by kernel_rfl) hi hz0 hz1 _ _ _ _ 0 rfl rfl rfl rfl (by rw [hz2]; omega) (by unfold maxLen; omega) (by simp) ?_)
  intro W4 hown hgr
  have hb34 : Below w3.heap.size w3 W4 := (Below.refl _ _).grown hgr (Nat.le_refl _) (by simp)
  have hb14 : Below W1.heap.size W1 W4 := below_more HB12.out (below_more HB23.out hb34 (by have := HB23.out.size; omega)) HB12.out.size
  have q1 := (HR01.out.after hb14).cell (i := 0) rfl
  have q3 := (HR3.out.after hb14).cell (i := 0) rfl
  have HF := Lib.hid (below_more HBW1.out hb14 HBW1.out.size)
  have hlt4 : go < W4.heap.size := by have := hb34.size; omega
  have hgow : w.heap.size ≤ go := by rw [HGO.out]; have := HBW1.out.size; have := HB12.out.size; omega
  obtain ⟨gt, hgt⟩ : ∃ g, g = w3.heap.size := ⟨_, rfl⟩
  rw [← hgt]
  have HGW := Lib.hid hgow
  have HL4 := Lib.hid hlt4
  clear hown hgr hb34 hb14 hgt hlt3 hlt4 hgow HB01 HB12 HB23
  go_upto_region 6 with fail
  go_loopw [25] (fun i ws => i = .int .i64 0 ∧ ws = W4) (fun i _ => 0)
  case atStart => exact ⟨rfl, rfl⟩
  case round =>
  obtain ⟨rfl, hws⟩ := hrel
  rw [hws]
  clear hws
  go_wp2_with fail
  refine (vertices_nil _).mono ?_
  rintro e w5 ⟨rfl, hw5⟩
  rw [← hw5]
  clear hw5
  go_wp2
  go_loopw [66] (fun i ws => i = .int .i64 0 ∧ ws = W4) (fun i _ => 0)
  case atStart => exact ⟨rfl, rfl⟩
  case round =>
  obtain ⟨rfl, hws⟩ := hrel
  rw [hws]
  clear hws
  go_wp2_with fail
  refine (loops_nil _).mono ?_
  rintro e w5 ⟨rfl, hw5⟩
  rw [← hw5]
  clear hw5
  go_wp2
  go_loopw [83] (fun i ws => i = .int .i64 0 ∧ ws = W4) (fun i _ => 0)
  case atStart => exact ⟨rfl, rfl⟩
  case round =>
  obtain ⟨rfl, hws⟩ := hrel
  rw [hws]
  clear hws
  go_wp2
  go_loopw [102] (fun i ws => i = .int .i64 0 ∧ ws = W4) (fun i _ => 0)
  case atStart => exact ⟨rfl, rfl⟩
  case round =>
  obtain ⟨rfl, hws⟩ := hrel
  rw [hws]
  clear hws
  go_wp2
  go_ret
  exact ⟨go, rfl, HGW.out, HL4.out, HF.out⟩
set_option maxRecDepth 100000 in
set_option maxHeartbeats 2000000 in
theorem whole_nil (w : World) : Calls Tryz.prog 63 #[.pointer none] w fun e w' => e = .returned (.agg #[.int .i64 0, .int .i64 0, .int .i64 0, .int .i64 0, .int .i64 0, .int .i64 0]) ∧ Below w.heap.size w w' := by
  obtain ⟨W0, hW0⟩ : ∃ W0, W0 = (w.alloc (.cells #[.int .i64 0, .int .i64 0, .int .i64 0, .int .i64 0, .int .i64 0, .int .i64 0] 88)).alloc (.cells #[.int .i64 0, .int .i64 0, .int .i64 0, .int .i64 0, .int .i64 0, .int .i64 0] 88) := ⟨_, rfl⟩
  have hb0 : Below w.heap.size w W0 := by rw [hW0]; exact ((Below.refl _ _).alloc (Nat.le_refl _) _).alloc (by simp) _
  have hr0 : RowIs W0 w.heap.size 88 (iv (fun _ => 0) 6) := by rw [hW0]; exact (RowIs.made w 88 (iv (fun _ => 0) 6)).alloc _
  have hr1 : RowIs W0 (w.heap.size + 1) 88 (iv (fun _ => 0) 6) := by rw [hW0]; exact RowIs.made' _ _ (iv (fun _ => 0) 6) _ (by simp)
  have HG := Lib.hid (genus_nil W0)
  have HB0 := Lib.hid hb0
  have HR0 := Lib.hid hr0
  have HR1 := Lib.hid hr1
  have HW0 := Lib.hid hW0
  obtain ⟨xb, hxb⟩ : ∃ x, x = w.heap.size := ⟨_, rfl⟩
  rw [← hxb] at HR0 HR1
  have HXB := Lib.hid hxb
  clear hb0 hr0 hr1 hW0 hxb
  go_enter Tryz.func63, Tryz.ntmps63
  go_upto_region 2 with fail
  simp only [← HXB.out]
  rw [← HW0.out]
  go_wp2_with fail
  refine HG.out.mono ?_
  rintro e X ⟨go, rfl, hgo, hlt, hb1⟩
  have hr0 := HR0.out.after hb1
  have hr1 := HR1.out.after hb1
  have HB1 := Lib.hid (below_more HB0.out hb1 HB0.out.size)
  clear hgo hlt hb1 HG
  go_wp2
  go_loopw [9] (fun i ws => i = .int .i64 0 ∧ ws = X) (fun i _ => 0)
  case atStart => exact ⟨rfl, rfl⟩
  case round =>
  obtain ⟨rfl, hws⟩ := hrel
  rw [hws]
  clear hws
  have p0 := hr1.cell (iv_get (fun _ => 0) (show 0 < 6 by omega))
  have z0 := hr0.cell (iv_get (fun _ => 0) (show 0 < 6 by omega))
  have p1 := hr1.cell (iv_get (fun _ => 0) (show 1 < 6 by omega))
  have z1 := hr0.cell (iv_get (fun _ => 0) (show 1 < 6 by omega))
  have p2 := hr1.cell (iv_get (fun _ => 0) (show 2 < 6 by omega))
  have z2 := hr0.cell (iv_get (fun _ => 0) (show 2 < 6 by omega))
  have p3 := hr1.cell (iv_get (fun _ => 0) (show 3 < 6 by omega))
  have z3 := hr0.cell (iv_get (fun _ => 0) (show 3 < 6 by omega))
  have p4 := hr1.cell (iv_get (fun _ => 0) (show 4 < 6 by omega))
  have z4 := hr0.cell (iv_get (fun _ => 0) (show 4 < 6 by omega))
  have p5 := hr1.cell (iv_get (fun _ => 0) (show 5 < 6 by omega))
  have z5 := hr0.cell (iv_get (fun _ => 0) (show 5 < 6 by omega))
  have zf := fun i => hr0.free i
  have hrF := ((((((hr0.set 0 (.int .i64 0)).set 1 (.int .i64 0)).set 2 (.int .i64 0)).set 3 (.int .i64 0)).set 4 (.int .i64 0)).set 5 (.int .i64 0))
  rw [iv_set, iv_set, iv_set, iv_set, iv_set, iv_set] at hrF
  have y0 := hrF.cell (iv_get _ (show 0 < 6 by omega))
  rw [show upd (upd (upd (upd (upd (upd (fun _ => 0) 0 0) 1 0) 2 0) 3 0) 4 0) 5 0 0 = 0 from by simp [upd]] at y0
  have y1 := hrF.cell (iv_get _ (show 1 < 6 by omega))
  rw [show upd (upd (upd (upd (upd (upd (fun _ => 0) 0 0) 1 0) 2 0) 3 0) 4 0) 5 0 1 = 0 from by simp [upd]] at y1
  have y2 := hrF.cell (iv_get _ (show 2 < 6 by omega))
  rw [show upd (upd (upd (upd (upd (upd (fun _ => 0) 0 0) 1 0) 2 0) 3 0) 4 0) 5 0 2 = 0 from by simp [upd]] at y2
  have y3 := hrF.cell (iv_get _ (show 3 < 6 by omega))
  rw [show upd (upd (upd (upd (upd (upd (fun _ => 0) 0 0) 1 0) 2 0) 3 0) 4 0) 5 0 3 = 0 from by simp [upd]] at y3
  have y4 := hrF.cell (iv_get _ (show 4 < 6 by omega))
  rw [show upd (upd (upd (upd (upd (upd (fun _ => 0) 0 0) 1 0) 2 0) 3 0) 4 0) 5 0 4 = 0 from by simp [upd]] at y4
  have y5 := hrF.cell (iv_get _ (show 5 < 6 by omega))
  rw [show upd (upd (upd (upd (upd (upd (fun _ => 0) 0 0) 1 0) 2 0) 3 0) 4 0) 5 0 5 = 0 from by simp [upd]] at y5
  have HBF := Lib.hid (show Below w.heap.size w ((((((X.setCell ⟨xb, 0, none⟩ (.int .i64 0)).setCell ⟨xb, 1, none⟩ (.int .i64 0)).setCell ⟨xb, 2, none⟩ (.int .i64 0)).setCell ⟨xb, 3, none⟩ (.int .i64 0)).setCell ⟨xb, 4, none⟩ (.int .i64 0)).setCell ⟨xb, 5, none⟩ (.int .i64 0)) from by
    have hbw := HB1.out
    rw [HXB.out]
    exact (((((hbw.setCell (p := ⟨w.heap.size, 0, none⟩) (Nat.le_refl _) _).setCell (p := ⟨w.heap.size, 1, none⟩) (Nat.le_refl _) _).setCell (p := ⟨w.heap.size, 2, none⟩) (Nat.le_refl _) _).setCell (p := ⟨w.heap.size, 3, none⟩) (Nat.le_refl _) _).setCell (p := ⟨w.heap.size, 4, none⟩) (Nat.le_refl _) _).setCell (p := ⟨w.heap.size, 5, none⟩) (Nat.le_refl _) _)
  clear hr0 hr1 hrF
  go_wp2
  exact bodyPost_ret (v := .agg #[.int .i64 0, .int .i64 0, .int .i64 0, .int .i64 0, .int .i64 0, .int .i64 0]) (by simp [results, Tryz.results63, go_sem, y0, y1, y2, y3, y4, y5]) rfl ⟨rfl, HBF.out⟩
end Go.Proofs.YtfbpjlfimmjieaaGreat

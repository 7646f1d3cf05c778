/- border.Loops: all border loops. -/
import Derived.Test.YtbeefabboabfgaaGreatCollectW
import Derived.Sort.CutIn
namespace Go.Proofs.YtbeefabboabfgaaGreat
set_option linter.unusedVariables false
set_option linter.unusedSimpArgs false
open Go.RowKit Go.Shelf
attribute [local go_sem] Oper.semAt_some
set_option maxHeartbeats 400000 in
theorem vertices_any (w : World) (b : Nat) (N : Int) (T : List Tr) (h : TabS w b N T) :
    Calls Tryz.prog 33 #[.pointer (some ⟨b, 0, none⟩)] w fun e w' => e = .returned (.int .i64 N) ∧ w = w' := by
  obtain ⟨ao, cap, h0, h1, h2, h3⟩ := h
  go_enter Tryz.func33, Tryz.ntmps33
  go_wp2
  go_ret
  exact ⟨rfl, rfl⟩
theorem info44 : (Tryz.prog.info? 45).map (fun i => (i.zero, i.size, i.bytes)) = some (some (.slice none 0 0), 1, 24) := by kernel_rfl
open Classical in
/-- What the map of the seen ones holds. -/
noncomputable def seenC (E : List (Int × Int)) (k : Nat) : Int → Option Value := fun u => if seenB E k u then some (.bool true) else none
theorem seenC_zero (E : List (Int × Int)) : seenC E 0 = fun _ => none := by
  funext u
  unfold seenC
  rw [if_neg]
  rintro ⟨w, hw, -⟩
  omega
theorem seenC_same {E : List (Int × Int)} {k : Nat} (h : ∀ u, seenB E (k + 1) u ↔ seenB E k u) : seenC E (k + 1) = seenC E k := by
  funext u
  unfold seenC
  by_cases hu : seenB E k u
  · rw [if_pos hu, if_pos ((h u).2 hu)]
  · rw [if_neg hu, if_neg fun q => hu ((h u).1 q)]
/-- The same, some of a loop put in. -/
noncomputable def seenP (E : List (Int × Int)) (k : Nat) (pre : List Int) : Int → Option Value := fun u => if u ∈ pre then some (.bool true) else seenC E k u
theorem seenP_nil (E : List (Int × Int)) (k : Nat) : seenP E k [] = seenC E k := by
  funext u
  simp [seenP]
theorem seenP_snoc (E : List (Int × Int)) (k : Nat) (pre : List Int) (x : Int) : seenP E k (pre ++ [x]) = fun u => if u = x then some (.bool true) else seenP E k pre u := by
  funext u
  unfold seenP
  by_cases h1 : u = x
  · simp [h1]
  · simp [h1]
theorem seenP_all (E : List (Int × Int)) (k : Nat) : seenP E k (orb E (k : Int)) = seenC E (k + 1) := by
  funext u
  unfold seenP seenC
  by_cases h1 : u ∈ orb E (k : Int)
  · rw [if_pos h1, if_pos (seen_add u |>.2 (.inr h1))]
  · rw [if_neg h1]
    by_cases h2 : seenB E k u
    · rw [if_pos h2, if_pos (seen_add u |>.2 (.inl h2))]
    · rw [if_neg h2, if_neg]
      intro q
      rcases (seen_add u).1 q with q | q
      · exact h2 q
      · exact h1 q
/-- A list of rows, each of its own. -/
def FamOwn (w : World) (base : Nat) (vs : List Value) (LL : List (List Int)) : Prop :=
  vs.length = LL.length ∧ ∀ (i : Nat) (l : List Int), LL[i]? = some l → ∃ a c, vs[i]? = some (Value.slice a l.length c) ∧ w.ownsRow base 3 1 (.slice a l.length c) l.length (ic l)
theorem owns_apart14 {w : World} {base base' : Nat} {e e' : TypeId} {sz sz' n n' : Nat} {v v' : Value} {xs xs' : List Value} (h : w.ownsRow base e sz v n xs) (k : w.ownsRow base' e' sz' v' n' xs') (hne : e ≠ e') : v.ownBlock = none ∨ v.ownBlock ≠ v'.ownBlock := by
  cases hk : v.ownBlock with
  | none => exact .inl rfl
  | some g =>
    refine .inr fun e2 => ?_
    rcases h.2 with ⟨q, -⟩ | ⟨g1, cap1, cur1, rfl, -, hg1, -⟩
    · rw [q] at hk; cases hk
    rcases k.2 with ⟨q, -⟩ | ⟨g2, cap2, cur2, rfl, -, hg2, -⟩
    · rw [q] at e2; cases e2
    simp only [Value.ownBlock, Option.some.injEq] at hk e2
    rw [hk] at hg1
    rw [← e2] at hg2
    rw [hg1] at hg2
    simp only [Option.some.injEq, Obj.cells.injEq] at hg2
    exact hne hg2.2.1
theorem FamOwn.kept {w w' : World} {base : Nat} {row : Option Nat} {vs : List Value} {LL : List (List Int)} (h : FamOwn w base vs LL) (hg : w.grownBy w' row) (hr : ∀ (i : Nat) (l : List Int) (a : Option Addr) (c : Nat), LL[i]? = some l → vs[i]? = some (Value.slice a l.length c) → w.ownsRow base 3 1 (.slice a l.length c) l.length (ic l) → (Value.slice a l.length c).ownBlock = none ∨ (Value.slice a l.length c).ownBlock ≠ row) : FamOwn w' base vs LL :=
  ⟨h.1, fun i l hi => by
    obtain ⟨a, c, h1, h2⟩ := h.2 i l hi
    exact ⟨a, c, h1, h2.kept hg (hr i l a c hi h1 h2)⟩⟩
theorem FamOwn.below {w w' : World} {base : Nat} {vs : List Value} {LL : List (List Int)} (h : FamOwn w base vs LL) (hb : Below w.heap.size w w') : FamOwn w' base vs LL :=
  h.kept (below_grown hb) fun i l a c _ _ ho => by
    cases q : (Value.slice a l.length c).ownBlock with
    | none => exact .inl rfl
    | some g => exact .inr (by simp)
theorem FamOwn.lower {w : World} {base B : Nat} {vs : List Value} {LL : List (List Int)} (h : FamOwn w base vs LL) (hB : B ≤ base) : FamOwn w B vs LL :=
  ⟨h.1, fun i l hi => by
    obtain ⟨a, c, h1, h2⟩ := h.2 i l hi
    exact ⟨a, c, h1, owns_base h2 hB⟩⟩
theorem FamOwn.push {w : World} {base : Nat} {vs : List Value} {LL : List (List Int)} (h : FamOwn w base vs LL) {l : List Int} {a : Option Addr} {c : Nat} (ho : w.ownsRow base 3 1 (.slice a l.length c) l.length (ic l)) : FamOwn w base (vs ++ [.slice a l.length c]) (LL ++ [l]) := by
  refine ⟨by simp [h.1], fun i l' hi => ?_⟩
  rcases Nat.lt_trichotomy i LL.length with hlt | heq | hgt
  · rw [List.getElem?_append_left hlt] at hi
    obtain ⟨a', c', h1, h2⟩ := h.2 i l' hi
    exact ⟨a', c', by rw [List.getElem?_append_left (by rw [h.1]; exact hlt)]; exact h1, h2⟩
  · subst heq
    rw [List.getElem?_append_right (Nat.le_refl _)] at hi
    simp only [Nat.sub_self, List.getElem?_cons_zero, Option.some.injEq] at hi
    subst hi
    exact ⟨a, c, by rw [List.getElem?_append_right (by rw [h.1]; exact Nat.le_refl _), h.1]; simp, ho⟩
  · rw [List.getElem?_eq_none (by simp; omega)] at hi
    cases hi
theorem But.grownBy {g : Nat} {w w' : World} (h : But w.heap.size g w w') : w.grownBy w' (some g) := ⟨h.os, h.tape, h.output, h.size, fun j hj hne => h.block j hj fun e => hne (by rw [e])⟩
/-- The marks that ranges over a function leave. -/
def markD (D : Nat) : Deferred := { target := .collected D, args := #[] }
def Marks14 (B : Nat) (Ds : List Nat) (W : World) : Prop := Ds.Nodup ∧ ∀ D, D ∈ Ds → B ≤ D ∧ W.heap[D]? = some (.deferred (some []))
theorem Marks14.lt {B : Nat} {Ds : List Nat} {W : World} (h : Marks14 B Ds W) {D : Nat} (hD : D ∈ Ds) : D < W.heap.size := (Array.getElem?_eq_some_iff.1 (h.2 D hD).2).1
theorem Marks14.keeps {B : Nat} {Ds : List Nat} {W W' : World} (h : Marks14 B Ds W) (hk : ∀ D, D < W.heap.size → B ≤ D → W.heap[D]? = some (.deferred (some [])) → W'.heap[D]? = W.heap[D]?) : Marks14 B Ds W' :=
  ⟨h.1, fun D hD => ⟨(h.2 D hD).1, (hk D (h.lt hD) (h.2 D hD).1 (h.2 D hD).2).trans (h.2 D hD).2⟩⟩
theorem leaves_marks {F : Fence} {n : Nat} {P : Program} {fn : Func} {tmps : Array Value} {R : Ending → World → Prop} {Φ : World → Prop} {B : Nat} (hΦ : ∀ W D, B ≤ D → Φ W → W.heap[D]? = some (.deferred (some [])) → Φ (W.putObj D (.deferred none)))
    (fin : ∀ W, Φ W → LeavesIn F n P fn tmps R [] .returning W) : ∀ (Ds : List Nat) (W : World), Marks14 B Ds W → Φ W → LeavesInM F n P fn tmps R (Ds.map markD) .returning W
  | [], W, _, h => fin W h
  | D :: Ds, W, hm, h => by
    have hD := hm.2 D (by simp)
    refine ⟨by simp, .inl ⟨D, _, rfl, run_takeDeferred hD.2, ?_⟩⟩
    have hn := List.nodup_cons.1 hm.1
    refine leaves_marks hΦ fin Ds _ ⟨hn.2, fun D' hD' => ?_⟩ (hΦ W D hD.1 h hD.2)
    have h' := hm.2 D' (by simp [hD'])
    exact ⟨h'.1, (World.putObj_heap_other (fun e => hn.1 (by rw [← e]; exact hD'))).trans h'.2⟩
/-- The state of border.Loops's loop. -/
structure LSt (W X : World) (E : List (Int × Int)) (ms k cn : Nat) (v : Value) (vs : List Value) (Ds : List Nat) : Prop where
  map : MapIs intFam X ms cn (seenC E k)
  row : X.ownsRow W.heap.size 45 1 v (loopsL E k).length vs
  fam : FamOwn X W.heap.size vs (loopsL E k)
  but : But W.heap.size ms W X
  ml : ms < W.heap.size
  marks : Marks14 W.heap.size Ds X
  sz : W.heap.size ≤ X.heap.size
set_option maxRecDepth 100000 in
set_option maxHeartbeats 2000000 in
theorem loops_ok (b n : Nat) (T : List Tr) (w : World) (h : Tab w b n T) (hs : Surf n T) :
    Calls Tryz.prog 19 #[.pointer (some ⟨b, 0, none⟩)] w fun e w' => ∃ v vs, e = .returned v ∧ w'.ownsRow w.heap.size 45 1 v (loopsL (bordE T (3 * T.length)) n).length vs ∧ FamOwn w' w.heap.size vs (loopsL (bordE T (3 * T.length)) n) ∧ Below w.heap.size w w' := by
  refine (callsIn_wide (n := 8)).1 ?_
  have h1 : (1 : Nat) ≤ 8 := by omega
  obtain ⟨E, hE⟩ : ∃ E, E = bordE T (3 * T.length) := ⟨_, rfl⟩
  obtain ⟨W0, hW0⟩ : ∃ W0, W0 = (w.alloc (.map #[] 0)).alloc (.cells #[.map (some w.heap.size)] 89) := ⟨_, rfl⟩
  have hb0 : Below w.heap.size w W0 := by rw [hW0]; exact ((Below.refl _ _).alloc (Nat.le_refl _) _).alloc (by simp) _
  have HV := Lib.hid (vertices_any W0 b n T (h.s.mono (Nat.le_refl _) hb0))
  have HW0 := Lib.hid hW0
  have hone : OneIn E := by rw [hE]; exact hs.oneIn
  have hnn : n ≤ 4096 := by have := hs.n1; omega
  have hlen : ∀ v : Int, (orb E v).length ≤ 100000 := fun v => by
    by_cases hv : v ∈ E.map Prod.snd
    · obtain ⟨p, hp⟩ := hone.per hv
      rw [orb_eq hv hp, List.length_map, List.length_range]
      have h1 := hp.le
      have h2 := bordE_le T (3 * T.length)
      rw [← hE] at h2
      have := hs.t1
      omega
    · rw [orb_nil hv]; simp
  have hint : ∀ v u : Int, u ∈ orb E v → I64 u := fun v u hu => by
    have hm := hone.orb_sub hu
    have h1 := hs.bord_in (u := u) (by rw [← hE]; exact hm)
    have h2 := hs.n1
    constructor <;> omega
  have h0 : ∀ u, u ∈ E.map Prod.snd → 0 ≤ u := fun u hu => (hs.bord_in (by rw [← hE]; exact hu)).1
  have HTAB := Lib.hid (show ∀ X, Below W0.heap.size W0 X → Tab X b n T from fun X hX => (h.mono (Nat.le_refl _) hb0).mono (Nat.le_refl _) hX)
  have HTB := Lib.hid (show ∀ X, But W0.heap.size w.heap.size W0 X → Tab X b n T from fun X hX => h.mono (Nat.le_refl _) (hb0.trans (hX.below hb0.size (Nat.le_refl _))))
  have HE := Lib.hid hE
  have HS := Lib.hid hs
  have HONE := Lib.hid hone
  have HLEN := Lib.hid hlen
  have HINT := Lib.hid hint
  have HNN0 := Lib.hid h0
  have HB0 := Lib.hid hb0
  have HBX := Lib.hid (show W0.cell? ⟨w.heap.size + 1, 0, none⟩ = some (.map (some w.heap.size)) ∧ W0.heap.size = w.heap.size + 2 from ⟨by
    have := (RowIs.made' (w.alloc (.map #[] 0)) 89 [.map (some w.heap.size)] (w.heap.size + 1) (by simp)).cell (i := 0) rfl
    rw [hW0]; exact this, by rw [hW0]; simp⟩)
  rw [← hE]
  clear h hs hE hone hlen hint h0 hb0
  refine callsIn_of_wp_marks Tryz.func19 rfl trivial ?_ rfl
  simp only [Tryz.ntmps19, List.size_toArray, List.length_cons, List.length_nil, Nat.reduceAdd, Nat.reduceSub, Array.replicate_succ, Array.replicate_zero, List.push_toArray, List.append_toArray, List.nil_append, List.cons_append]
  have hmm := @run_makeMap Tryz.prog
  clear hW0
  gi_wp2_with (refine ⟨trivial, ?_⟩; gi_at_call 33; rw [← HW0.out]; refine (callsIn_wide.2 HV.out).mono ?_; rintro e w1 ⟨rfl, rfl⟩)
  obtain ⟨X0, hX0⟩ : ∃ X0, X0 = W0 := ⟨_, rfl⟩
  have HST := Lib.hid (show LSt W0 W0 E w.heap.size 0 0 (.slice none 0 0) [] [] from by
    rw [HW0.out]
    refine ⟨?_, World.ownsRow_nil _ _ _ _, ⟨rfl, fun i l h => by simp [loopsL] at h⟩, But.refl _ _ _, by simp; omega, ⟨List.nodup_nil, fun D hD => by cases hD⟩, Nat.le_refl _⟩
    rw [seenC_zero]
    exact (MapIs.made w).same (Below.heap_alloc _ _ _ (by simp)))
  refine wpIn_loop (fun a' w' => ∃ (k cn : Nat) (v3 u5 u6 u7 u14 u15 u16 u17 u18 u19 u20 u21 u22 u23 u24 u25 u26 u27 u28 u29 u30 u31 u32 u33 u34 u35 u36 : Value) (vs : List Value) (Ds : List Nat), k ≤ n ∧ LSt W0 w' E w.heap.size k cn v3 vs Ds ∧ a' = { tmps := #[.pointer (some ⟨b, 0, none⟩), undef, .slice none 0 0, v3, .pointer (some ⟨w.heap.size + 1, 0, none⟩), u5, u6, u7, .pointer (some ⟨b, 0, none⟩), .bool false, .map (some w.heap.size), .pointer (some ⟨b, 0, none⟩), .int .i64 (n : Int), .int .i64 (k : Int), u14, u15, u16, u17, u18, u19, u20, u21, u22, u23, u24, u25, u26, u27, u28, u29, u30, u31, u32, u33, u34, u35, u36, undef], defers := Ds.map markD }) (fun a' w' => n - (intOf (a'.tmps.getD 13 undef)).toNat) ?_ ?_
  · exact ⟨0, 0, .slice none 0 0, undef, undef, undef, undef, undef, undef, undef, undef, undef, undef, undef, undef, undef, undef, undef, undef, undef, undef, undef, undef, undef, undef, undef, undef, undef, undef, [], [], by omega, HST.out, rfl⟩
  rintro a' X ⟨k, cn, v3, u5, u6, u7, u14, u15, u16, u17, u18, u19, u20, u21, u22, u23, u24, u25, u26, u27, u28, u29, u30, u31, u32, u33, u34, u35, u36, vs, Ds, hk, hst, rfl⟩
  have HST := Lib.hid hst
  have hbx : X.cell? ⟨w.heap.size + 1, 0, none⟩ = some (.map (some w.heap.size)) := (hst.but.cell (by have := HBX.out.2; omega) (by omega)).trans HBX.out.1
  clear hst
  by_cases hkn : k < n
  case neg =>
    obtain rfl : n = k := by omega
    have hd : decide ((n : Int) < (n : Int)) = false := by simp
    gi_wp2
    have hms : w.heap.size < W0.heap.size := HST.out.ml
    refine leaves_marks (Φ := fun W => W.ownsRow W0.heap.size 45 1 v3 (loopsL E n).length vs ∧ FamOwn W W0.heap.size vs (loopsL E n) ∧ Below w.heap.size w W) (B := W0.heap.size) ?_ ?_ Ds X HST.out.marks ⟨HST.out.row, HST.out.fam, HB0.out.trans (HST.out.but.below HB0.out.size (Nat.le_refl _))⟩
    · rintro W D hD ⟨q1, q2, q3⟩ hdf
      refine ⟨ownsRow_putObj q1 _ hdf rfl, q2.kept (grownBy_putObj' W D _) (fun i l a c _ _ ho => own_ne ho D (fun a cs e => by rw [hdf] at e; cases e)), q3.grown (grownBy_putObj' W D _) q3.size (fun q hq => by cases hq; omega)⟩
    · rintro W ⟨q1, q2, q3⟩
      exact ⟨_, results_tmp rfl _ _ _, v3, vs, rfl, owns_base q1 (by omega), q2.lower (by omega), q3⟩
  case pos =>
  have hd : decide ((k : Int) < (n : Int)) = true := by simpa using hkn
  have hk64 : I64 (k : Int) := ⟨by omega, by omega⟩
  have hlk := HST.out.map.look 89 4 (by kernel_rfl) zero_bool (k : Int) hk64 false
  by_cases hsn : seenB E k (k : Int)
  case pos =>
    have e : seenC E k (k : Int) = some (.bool true) := by unfold seenC; rw [if_pos hsn]
    rw [e] at hlk
    simp only [intFam] at hlk
    have hkS : (k : Int) ∈ E.map Prod.snd := by
      obtain ⟨w', hw', hm⟩ := hsn
      exact HONE.out.orb_sub hm
    have HS2 := Lib.hid (show LSt W0 X E w.heap.size (k + 1) cn v3 vs Ds from by
      have hmin := (seen_min HONE.out HNN0.out hkS).1 hsn
      refine ⟨by rw [seenC_same (seen_same HONE.out hsn)]; exact HST.out.map, by rw [loopsL_no hmin]; exact HST.out.row, by rw [loopsL_no hmin]; exact HST.out.fam, HST.out.but, HST.out.ml, HST.out.marks, HST.out.sz⟩)
    clear e hsn hkS
    gi_wp2
    refine ⟨⟨k + 1, cn, v3, _, _, _, _, _, _, _, _, _, _, _, _, _, _, _, _, _, _, _, _, _, _, _, _, _, _, vs, Ds, by omega, HS2.out, rfl⟩, ?_⟩
    show n - (intOf (.int .i64 ((k : Int) + 1))).toNat < n - (intOf (.int .i64 (k : Int))).toNat
    simp [intOf]; omega
  case neg =>
  have e : seenC E k (k : Int) = none := by unfold seenC; rw [if_neg hsn]
  rw [e] at hlk
  simp only [intFam] at hlk
  obtain ⟨X1, hX1⟩ : ∃ X1, X1 = (X.alloc (.cells #[.pointer (some ⟨b, 0, none⟩)] 26)).alloc (.cells #[.int .i64 (k : Int)] 3) := ⟨_, rfl⟩
  have hXX1 : Below X.heap.size X X1 := by rw [hX1]; exact ((Below.refl _ _).alloc (Nat.le_refl _) _).alloc (by simp) _
  have hs1 : X1.heap.size = X.heap.size + 2 := by rw [hX1]; simp
  have hr1 : X1.cell? ⟨X.heap.size, 0, none⟩ = some (.pointer (some ⟨b, 0, none⟩)) := by
    rw [hX1]; exact ((RowIs.made X 26 [.pointer (some ⟨b, 0, none⟩)]).alloc _).cell (i := 0) rfl
  have hr2 : X1.cell? ⟨X.heap.size + 1, 0, none⟩ = some (.int .i64 (k : Int)) := by
    rw [hX1]; exact (RowIs.made' (X.alloc (.cells #[.pointer (some ⟨b, 0, none⟩)] 26)) 3 [.int .i64 (k : Int)] (X.heap.size + 1) (by simp)).cell (i := 0) rfl
  have htab1 : Tab X1 b n T := HTB.out X1 (HST.out.but.more hXX1 HST.out.sz)
  have HCO := Lib.hid (collect_seq 7 (by omega) 78 #[.pointer (some ⟨X.heap.size, 0, none⟩), .pointer (some ⟨X.heap.size + 1, 0, none⟩)] (orb E (k : Int)) (HLEN.out k) (fun j => j = X.heap.size ∨ j = X.heap.size + 1) X1 (by rintro j (rfl | rfl) <;> omega) (enters_of Tryz.func78 (by kernel_rfl) rfl)
    (by have := walk_seq 5 (by omega) b n T HS.out X.heap.size (X.heap.size + 1) (k : Int) hk64 X1 (by omega) (by omega) hr1 hr2 htab1; rwa [← HE.out] at this))
  have HX1 := Lib.hid hX1
  have HXX1 := Lib.hid hXX1
  have HS1 := Lib.hid hs1
  have HSN := Lib.hid hsn
  clear hX1 hXX1 hs1 hr1 hr2 htab1 e hsn
  gi_upto_region 10 with (first | (refine ⟨trivial, ?_⟩; gi_at_call 49; refine (walk_any _ b (k : Int) X).mono ?_; rintro e w' ⟨rfl, hw'⟩; rw [← HX1.out] at hw'; have hw2 := hw'.symm; clear hw'; subst hw2) | (refine ⟨trivial, ?_⟩; gi_at_call 48; refine HCO.out.mono ?_; rintro e X2 ⟨vl, rfl, hown2, hb12⟩; obtain ⟨la, lc, rfl⟩ := owns_slice hown2))
  have HXX2 := Lib.hid (below_more HXX1.out (hb12.mono (Nat.le_refl _)) (by have := HXX1.out.size; omega))
  obtain ⟨X3, hX3⟩ : ∃ X3, X3 = (X2.alloc (.cells #[.pointer (some ⟨b, 0, none⟩)] 26)).alloc (.cells #[.int .i64 (k : Int)] 3) := ⟨_, rfl⟩
  have hX23 : Below X2.heap.size X2 X3 := by rw [hX3]; exact ((Below.refl _ _).alloc (Nat.le_refl _) _).alloc (by simp) _
  have hs3 : X3.heap.size = X2.heap.size + 2 := by rw [hX3]; simp
  have hr1 : X3.cell? ⟨X2.heap.size, 0, none⟩ = some (.pointer (some ⟨b, 0, none⟩)) := by
    rw [hX3]; exact ((RowIs.made X2 26 [.pointer (some ⟨b, 0, none⟩)]).alloc _).cell (i := 0) rfl
  have hr2 : X3.cell? ⟨X2.heap.size + 1, 0, none⟩ = some (.int .i64 (k : Int)) := by
    rw [hX3]; exact (RowIs.made' (X2.alloc (.cells #[.pointer (some ⟨b, 0, none⟩)] 26)) 3 [.int .i64 (k : Int)] (X2.heap.size + 1) (by simp)).cell (i := 0) rfl
  have HXX3 := Lib.hid (below_more HXX2.out hX23 HXX2.out.size)
  have HBUT3 := Lib.hid (HST.out.but.more HXX3.out HST.out.sz)
  have HSQ := Lib.hid (show SeqM Fence.wide (8 - 1) Tryz.prog 78 #[.pointer (some ⟨X2.heap.size, 0, none⟩), .pointer (some ⟨X2.heap.size + 1, 0, none⟩)] (fun x : Int => #[.int .i64 x]) (fun j => j = X2.heap.size ∨ j = X2.heap.size + 1) (orb E (k : Int)) X3 from by
    have := walk_seq (8 - 1) (by omega) b n T HS.out X2.heap.size (X2.heap.size + 1) (k : Int) hk64 X3 (by omega) (by omega) hr1 hr2 (HTB.out X3 HBUT3.out)
    rwa [← HE.out] at this)
  have HO2 := Lib.hid (owns_below hown2 hX23)
  have HX3 := Lib.hid hX3
  have HS3 := Lib.hid hs3
  have hml := HST.out.ml
  have HM3 := Lib.hid (HST.out.map.below (Nat.le_refl _) HXX3.out)
  have hsz03 : W0.heap.size ≤ X3.heap.size := by have := HST.out.sz; have := HXX3.out.size; omega
  have HSZ12 := Lib.hid (show W0.heap.size + 2 ≤ X1.heap.size ∧ X1.heap.size ≤ X2.heap.size from ⟨by have := HST.out.sz; have := HS1.out; omega, hb12.size⟩)
  have hbx3 : X3.cell? ⟨w.heap.size + 1, 0, none⟩ = some (.map (some w.heap.size)) := (HBUT3.out.cell (by have := HBX.out.2; omega) (by omega)).trans HBX.out.1
  clear hX3 hX23 hs3 hr1 hr2 hown2 hb12 hbx hlk HCO
  gi_wp2_with (refine ⟨trivial, ?_⟩; gi_at_call 49; refine (walk_any _ b (k : Int) X2).mono ?_; rintro e w' ⟨rfl, hw'⟩; rw [← HX3.out] at hw'; have hw2 := hw'.symm; clear hw'; subst hw2)
  refine rangeFunc_M rfl h1 (gf := 78) (lb := #[.pointer (some ⟨X2.heap.size, 0, none⟩), .pointer (some ⟨X2.heap.size + 1, 0, none⟩)]) rfl trivial (enters_of Tryz.func78 (by kernel_rfl) rfl) HSQ.out (Below.refl _ _) (fun _ => rfl) (by rintro j (rfl | rfl) <;> (have := HS3.out; omega))
    (fun pre W => (∃ c, MapIs intFam W w.heap.size c (seenP E k pre)) ∧ But X3.heap.size w.heap.size X3 W ∧ X3.heap.size ≤ W.heap.size) ?_ ⟨⟨cn, by rw [seenP_nil]; exact HM3.out⟩, But.refl _ _ _, Nat.le_refl _⟩ (fun x => { tmps := #[.pointer (some ⟨b, 0, none⟩), undef, .slice none 0 0, v3, .pointer (some ⟨w.heap.size + 1, 0, none⟩), .int .i64 (k : Int), .slice la (orb E (k : Int)).length lc, .int .i64 x, .pointer (some ⟨b, 0, none⟩), .bool false, .map (some w.heap.size), .pointer (some ⟨b, 0, none⟩), .int .i64 (n : Int), .int .i64 (k : Int), .bool true, .int .i64 (k : Int), .map (some w.heap.size), .int .i64 (k : Int), .bool false, .pointer (some ⟨b, 0, none⟩), .int .i64 (k : Int), .func (.func 78) #[] #[.pointer (some ⟨X.heap.size, 0, none⟩), .pointer (some ⟨X.heap.size + 1, 0, none⟩)], .slice la (orb E (k : Int)).length lc, .pointer (some ⟨b, 0, none⟩), .int .i64 (k : Int), .func (.func 78) #[] #[.pointer (some ⟨X2.heap.size, 0, none⟩), .pointer (some ⟨X2.heap.size + 1, 0, none⟩)], .int .i64 x, u27, u28, u29, u30, u31, u32, u33, u34, u35, u36, undef], defers := [] }) ?assign ?body ?done
  · rintro s A B row ⟨⟨c, hm⟩, hb, hz⟩ hg hr
    exact ⟨⟨c, hm.same (hg.block _ hm.lt (fun e => by have := (hr _ e.symm).1; omega))⟩, hb.grown hg hz (fun q hq => .inl (hr q hq).1), by have := hg.size; omega⟩
  case assign =>
    intro l x W K hK
    gi_wp2
    exact hK
  case body =>
    rintro l pre x W ⟨⟨c, hm⟩, hb, hz⟩ hpre
    have hbw := (hb.cell (by have := HBX.out.2; omega) (by omega)).trans hbx3
    have hx : x ∈ orb E (k : Int) := hpre.subset (by simp)
    obtain ⟨W', hst, hm', hg'⟩ := hm.store 89 4 (by kernel_rfl) x (HINT.out _ x hx) (.bool true)
    simp only [intFam] at hst
    have HM' := Lib.hid hm'
    have HG' := Lib.hid hg'
    have HBW := Lib.hid hb
    have HZ := Lib.hid hz
    clear hm hb hz hm' hg' hx
    gi_wp2
    refine ⟨KeepsFrom.of_grownBy HG'.out (fun j e => by cases e; omega), ?_, ⟨⟨_, by rw [seenP_snoc]; exact HM'.out⟩, HBW.out.grown HG'.out HZ.out (fun q hq => .inr (by cases hq; rfl)), by have := HG'.out.size; have := HZ.out; omega⟩⟩
    rintro j (rfl | rfl)
    · exact HG'.out.block _ (by have := HZ.out; have := HS3.out; omega) (by have := HSZ12.out; simp; omega)
    · exact HG'.out.block _ (by have := HZ.out; have := HS3.out; omega) (by have := HSZ12.out; simp; omega)
  case done =>
  rintro D X4 hD ⟨⟨c, hm4⟩, hb4, hz4⟩ hK
  have HG34 := Lib.hid hb4.grownBy
  have HM5 := Lib.hid (show MapIs intFam X4 w.heap.size c (seenC E (k + 1)) from by rw [← seenP_all]; exact hm4)
  have HROW := Lib.hid ((owns_below HST.out.row HXX3.out).kept HG34.out (owns_off (owns_below HST.out.row HXX3.out) hml))
  have HFAM := Lib.hid ((HST.out.fam.below HXX3.out).kept HG34.out (fun i l a c _ _ ho => owns_off ho hml))
  have HL4 := Lib.hid (owns_base (HO2.out.kept HG34.out (owns_off HO2.out (by have := HSZ12.out; omega))) (show W0.heap.size ≤ X1.heap.size by have := HSZ12.out; omega))
  have HBUT4 := Lib.hid (HBUT3.out.trans (show But W0.heap.size w.heap.size X3 X4 from ⟨hb4.os, hb4.tape, hb4.output, hb4.size, fun i hi hg => hb4.block i (by omega) hg⟩))
  have HSZ4 := Lib.hid (show W0.heap.size ≤ X4.heap.size from by omega)
  have HMK := Lib.hid (show Marks14 W0.heap.size (D :: Ds) X4 from by
    have hm := HST.out.marks
    refine ⟨List.nodup_cons.2 ⟨fun hD' => ?_, hm.1⟩, fun D' hD' => ?_⟩
    · have h1 := hm.lt hD'
      have h2 := HXX3.out.size
      omega
    · rcases List.mem_cons.1 hD' with rfl | hD'
      · exact ⟨by omega, hK⟩
      · have h1 := hm.lt hD'
        have h2 := hm.2 D' hD'
        have h3 := HXX3.out.size
        exact ⟨h2.1, ((hb4.block D' (by omega) (by omega)).trans (HXX3.out.block D' h1)).trans h2.2⟩)
  have HKD := Lib.hid hK
  have HDD := Lib.hid hD
  have hvs : vs.length = (loopsL E k).length := HST.out.fam.1
  have hll := loopsL_le (E := E) k
  obtain ⟨ol, hol⟩ : ∃ o, o = (orb E (k : Int)).length := ⟨_, rfl⟩
  have HOL := Lib.hid hol
  rw [← hol] at HL4 ⊢
  clear hm4 hb4 hz4 hK hD hbx3 hsz03
  by_cases hkS : (k : Int) ∈ E.map Prod.snd
  case neg =>
    have hnil := orb_nil hkS
    have hol0 : ol = 0 := by rw [hol, hnil]; rfl
    have hmin : minB E (k : Int) = false := by
      cases q : minB E (k : Int) with
      | false => rfl
      | true => exact absurd (minB_iff.1 q).1 hkS
    have d1 : decide ((ol : Int) > 0) = false := by simp [hol0]
    have d2 : decide ((0 : Int) < (ol : Int)) = false := by simp [hol0]
    have d3 : decide (0 < ol) = false := by simp [hol0]
    have HS2 := Lib.hid (show LSt W0 X4 E w.heap.size (k + 1) c v3 vs (D :: Ds) from ⟨HM5.out, by rw [loopsL_no hmin]; exact HROW.out, by rw [loopsL_no hmin]; exact HFAM.out, HBUT4.out, hml, HMK.out, HSZ4.out⟩)
    clear hol hol0 hnil hkS hmin hvs hll
    dsimp only
    gi_wp2
    refine ⟨⟨k + 1, c, v3, _, _, _, _, _, _, _, _, _, _, _, _, _, _, _, _, _, _, _, _, _, _, _, _, _, _, vs, D :: Ds, by omega, HS2.out, rfl⟩, ?_⟩
    show n - (intOf (.int .i64 ((k : Int) + 1))).toNat < n - (intOf (.int .i64 (k : Int))).toNat
    simp [intOf]; omega
  case pos =>
  obtain ⟨p, hp⟩ := HONE.out.per hkS
  have holp : 0 < ol := by rw [hol, orb_eq hkS hp, List.length_map, List.length_range]; exact hp.pos
  have hmin : minB E (k : Int) = true := by
    cases q : minB E (k : Int) with
    | true => rfl
    | false => exact absurd ((seen_min HONE.out HNN0.out hkS).2 q) HSN.out
  have d1 : decide ((ol : Int) > 0) = true := by simp; omega
  have d2 : decide ((0 : Int) < (ol : Int)) = true := by simp; omega
  have d3 : decide (0 < ol) = true := by simp; omega
  have HMIN := Lib.hid hmin
  obtain ⟨ii, hii, hj0, hj1, hj2⟩ := info_parts info44
  obtain ⟨rl, hrl⟩ : ∃ r, r = (loopsL E k).length := ⟨_, rfl⟩
  have HRL := Lib.hid hrl
  rw [← hrl] at HROW hll
  clear hol hp hkS hmin hvs hrl
  dsimp only
  gi_wp2_with (gi_at_builtin; refine wpListIn_append_own _ rfl _ _ 42 rfl W0.heap.size 45 ii (.slice none 0 0) 1 24 (by kernel_rfl) hii hj0 hj1 hj2 rfl (by decide) _ _ _ rfl (HROW.out.alloc _) ⟨X4.heap.size, 0, none⟩ 1 1 [.slice la ol lc] rfl rfl (cell_one_new _ _ _) (by simp [Value.oneCell']) (by unfold maxLen; omega) (by omega) (by have := HSZ4.out; simp; omega) ?_; intro v' w5 hown' hgrow _)
  have ha4 : Below X4.heap.size X4 (X4.alloc (.cells #[.slice la ol lc] 45)) := (Below.refl _ _).alloc (Nat.le_refl _) _
  have hov := HROW.out.alloc (.cells #[.slice la ol lc] 45)
  have HS2 := Lib.hid (show LSt W0 w5 E w.heap.size (k + 1) c v' (vs ++ [.slice la ol lc]) (D :: Ds) from by
    have hmlt := HM5.out.lt
    refine ⟨HM5.out.same ((hgrow.block _ (by simp; omega) (fun e => ?_)).trans (ha4.block _ hmlt)), ?_, ?_, ?_, hml, ?_, ?_⟩
    · have := (HROW.out.lt _ e.symm).1
      omega
    · rw [loopsL_yes HMIN.out, List.length_append, ← HRL.out]
      exact hown'
    · rw [loopsL_yes HMIN.out, HOL.out]
      have h1 : FamOwn w5 W0.heap.size vs (loopsL E k) := (HFAM.out.below ha4).kept hgrow (fun i l a c _ _ ho => owns_apart14 ho hov (by decide))
      have h2 := (owns_below HL4.out ha4).kept hgrow (owns_apart14 (owns_below HL4.out ha4) hov (by decide))
      rw [HOL.out] at h2
      exact h1.push h2
    · exact (HBUT4.out.more ha4 HSZ4.out).grown hgrow (by have := HSZ4.out; simp; omega) (fun q hq => .inl (HROW.out.lt q hq).1)
    · refine HMK.out.keeps fun D' hlt hB hd => ?_
      refine (hgrow.block D' (by simp; omega) (fun e => ?_)).trans (ha4.block D' hlt)
      rcases own_ne HROW.out D' (fun a cs q => by rw [hd] at q; cases q) with q | q
      · have e' : some D' = v3.ownBlock := e
        rw [q] at e'
        cases e'
      · exact q e.symm
    · have := hgrow.size
      have := HSZ4.out
      simp at *
      omega)
  refine ⟨⟨k + 1, c, v', _, _, _, _, _, _, _, _, _, _, _, _, _, _, _, _, _, _, _, _, _, _, _, _, _, _, vs ++ [.slice la ol lc], D :: Ds, by omega, HS2.out, rfl⟩, ?_⟩
  show n - (intOf (.int .i64 ((k : Int) + 1))).toNat < n - (intOf (.int .i64 (k : Int))).toNat
  simp [intOf]; omega
end Go.Proofs.YtbeefabboabfgaaGreat

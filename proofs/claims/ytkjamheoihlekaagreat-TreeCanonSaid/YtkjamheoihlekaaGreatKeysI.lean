/- maps.Keys over a map with numbers for keys, whatever its order; slices.AppendSeq, Collect and Sorted of numbers that come in whatever order. -/
import Derived.Test.YtkjamheoihlekaaGreatEdgesW
import Derived.Test.YtkjamheoihlekaaGreatSurfDef
namespace Go.Proofs.YtkjamheoihlekaaGreat
set_option linter.unusedVariables false
set_option linter.unusedSimpArgs false
open Go.RowKit Go.Maps
open Go.RowKit Go.Shelf
open Go.RowKit Go.Lib Go.Sort
open Go.RowKit
section
variable {F : Fence} {n : Nat} {P : Program} {α : Type}
theorem rangeFunc_N {g : Operand} {ps : Array Tmp} {assign body : Code} {Q : Exit → Act → World → Prop} {a : Act} {w w0 : World} (hro : F.round = none) (h1 : 1 ≤ n) {gf : Nat} {lb : Array Value}
    (hg : a.eval g = .func (.func gf) #[] lb) (hFg : F.fn gf) (eg : ∀ args w, (callFunc gf args).run P w = .ok (.enter gf args) w) {encs : α → Array Value} {Kc : Nat → Prop} {Pre Fin : List α → Prop}
    (hseq : SeqG F (n - 1) P gf lb encs Kc Pre Fin w0) (hb0 : Below w0.heap.size w0 w) (hps : ∀ x, (encs x).size = ps.size) (hKc : ∀ k, Kc k → k < w.heap.size)
    (I : List α → World → Prop) (hI : OwnFrom w.heap.size I) (h0 : I [] w) (a₁ : α → Act)
    (hassign : ∀ (l : Nat) (x : α) (W : World) (K : Act → World → Prop), K (a₁ x) W →
      assign.wpIn (F.inRound l) (n - 1 - 1) P (Exit.then K (fun _ _ _ => False)) { tmps := (ps.zip (encs x)).foldl (fun t (p, v) => t.setIfInBounds p v) a.tmps, defers := [] } W)
    (hbody : ∀ (l : Nat) (pre : List α) (x : α) (W : World), I pre W → Pre (pre ++ [x]) → body.wpIn (F.inRound l) (n - 1 - 1) P (roundM w.heap.size Kc I (pre ++ [x]) W) (a₁ x) W)
    (hdone : ∀ (D : Nat) (W : World) (ss : List α), w.heap.size ≤ D → Fin ss → I ss W → W.heap[D]? = some (.deferred (some [])) → Q .normal { a with defers := { target := .collected D, args := #[] } :: a.defers } W) :
    (Code.rangeFunc g ps assign body).wpIn F n P Q a w := by
  refine wpIn_rangeFunc fun fn hfn => ?_
  rw [hro]
  obtain ⟨b, hb⟩ : ∃ b, b = w.heap.size := ⟨_, rfl⟩
  obtain ⟨rec, hrec⟩ : ∃ rec : LoopState → Loop, rec = fun st => { state := st, pending := none, fn, tmps := a.tmps, params := ps, assign, body, defers := b } := ⟨_, rfl⟩
  obtain ⟨V, hV⟩ : ∃ V, V = (w.alloc (.deferred (some []))).alloc (.loop (rec .ready)) := ⟨_, rfl⟩
  have hVs : V.heap.size = b + 2 := by rw [hV, hb]; simp
  have hVl : V.heap[b + 1]? = some (.loop (rec .ready)) := by
    have := World.alloc_heap_new (w.alloc (.deferred (some []))) (.loop (rec .ready))
    rw [World.size_alloc] at this
    rw [hV, hb]; exact this
  have hVd : V.heap[b]? = some (.deferred (some [])) := by
    rw [hV, hb]
    exact (Below.heap_alloc _ _ _ (by simp)).trans (World.alloc_heap_new w _)
  have hIV : I [] V := by rw [hV]; exact hI.alloc _ (hI.alloc _ h0)
  have hbV : Below w0.heap.size w0 V := by
    rw [hV]; exact hb0.trans ((((Below.refl _ w).alloc (Nat.le_refl _) _).alloc (by simp) _).mono hb0.size)
  refine ⟨b + 1, [{ target := .collected b, args := #[] }], V, { target := .fn (.func gf) lb, args := #[.func (.yield (b + 1)) #[] #[]] }, V, gf, #[.func (.yield (b + 1)) #[] #[]] ++ lb, V, ?_, ?_, ?_, ?_, fun _ => h1, ?_⟩
  · rw [hV, hrec, hb]; exact run_enterLoop_outer _ _ _ _ _
  · simp only [resolve, hg]
    simp [go_sem]
  · intro f' hf'; simp [Target.leads] at hf'; subst hf'; exact hFg
  · simp [invoke, go_sem, eg]
  · refine (hseq (b + 1) (fun pre W => I pre W ∧ W.heap[b + 1]? = some (.loop (rec .ready)) ∧ W.heap[b]? = some (.deferred (some []))) V hbV
      (fun s A B row hs hgr hrow => ⟨hI s A B row hs.1 hgr (fun r e => by
          obtain ⟨q1, o, q2, q3⟩ := hrow r e
          exact ⟨by omega, o, q2, by cases o <;> first | rfl | cases q3⟩), (grownBy_keeps hgr (fun r e => (hrow r e).2) hs.2.1 rfl).trans hs.2.1, (grownBy_keeps hgr (fun r e => (hrow r e).2) hs.2.2 rfl).trans hs.2.2⟩) ?_ ⟨hIV, hVl, hVd⟩).mono ?_
    · rintro pre x W ⟨hi, hl, hk⟩ hpre
      have hlt : b + 1 < W.heap.size := (Array.getElem?_eq_some_iff.1 hl).1
      have hy := run_yield (P := P) (args := encs x) hl (by rw [hrec]; exact hps x)
      rw [hrec] at hy
      refine ⟨fn, _, assign, body, hy, roundIn_of_wpIn hfn (hassign _ x W _ ⟨_, run_beginRound hl (by rw [hrec]), ?_⟩)⟩
      obtain ⟨V2, hV2⟩ : ∃ V2, V2 = W.putObj (b + 1) (.loop { rec .ready with state := .busy }) := ⟨_, rfl⟩
      have hl2 : V2.heap[b + 1]? = some (.loop { rec .ready with state := .busy }) := by rw [hV2]; exact World.putObj_heap_same hlt
      have hk2 : V2.heap[b]? = some (.deferred (some [])) := by rw [hV2]; exact (World.putObj_heap_other (by omega)).trans hk
      have hi2 : I pre V2 := by rw [hV2]; exact hI.putObj _ hi (by omega) hl rfl
      rw [← hV2]
      refine wpIn_mono (hbody _ pre x _ hi2 hpre) ?_
      rintro e a3 W3 hp
      cases e with
      | normal =>
        obtain ⟨hk3, hc3, hi3⟩ := hp
        have hl3 := hk3.same _ _ (by omega) hl2 rfl
        have hd3 := hk3.same _ _ (by omega) hk2 rfl
        have hr := run_endRound (P := P) none hl3
        rw [hrec] at hr hl3
        refine ⟨_, _, hr, rfl, ⟨hI.putObj _ hi3 (by omega) hl3 rfl, ?_, (World.putObj_heap_other (by omega)).trans hd3⟩, fun k hkc => ?_, ?_⟩
        · rw [hrec]; exact World.putObj_heap_same (Array.getElem?_eq_some_iff.1 hl3).1
        · have := hKc k hkc
          rw [World.putObj_heap_other (by omega), hc3 k hkc, hV2, World.putObj_heap_other (by omega)]
        · refine ⟨?_, fun k o hB hko ho => ?_⟩
          · have := hk3.size
            rw [hV2] at this
            simpa using this
          · rw [hVs] at hB
            rw [World.putObj_heap_other (by omega)]
            exact hk3.same k o (by omega) (by rw [hV2, World.putObj_heap_other (by omega)]; exact hko) ho
      | ret => exact hp.elim
      | exit id => exact hp.elim
      | goto t => exact hp.elim
      | panic ch => exact hp.elim
      | outgrown => exact hp.elim
    · rintro e W2 ⟨⟨v, rfl⟩, ss, hf, hi, hl, hk⟩
      have := run_endLoop (P := P) hl (by rw [hrec]; simp)
      rw [hrec] at this
      exact ⟨none, _, this, hdone _ _ ss (by omega) hf (hI.putObj _ hi (by omega) hl rfl) ((World.putObj_heap_other (by omega)).trans hk)⟩
end
attribute [local go_sem] Oper.semAt_some
def encI (x : Int) : Array Value := #[.int .i64 x]
set_option maxRecDepth 100000 in
set_option maxHeartbeats 2000000 in
theorem keys_mkI (m : Nat) (w : World) :
    Calls Tryz.prog 55 #[.map (some m)] w fun e w' => e = .returned (.func (.func 93) #[] #[.pointer (some ⟨w.heap.size, 0, none⟩)]) ∧ w' = w.alloc (.cells #[.map (some m)] 88) := by
  go_enter Tryz.func55, Tryz.ntmps55
  go_wp2
  go_ret
  exact ⟨rfl, rfl⟩
theorem rngI_parts {w : World} {r m n : Nat} {C : Int → Option Value} {S : List (Int)} (h : Rng intFam w r m n C S) : S.Nodup ∧ ∀ a, a ∈ S → C a ≠ none := by
  obtain ⟨L, clock, seen, c0, h1, h2, h3, h4, h5, h6, h7, h8, h9, h10⟩ := h
  exact ⟨h8, h9⟩
theorem rngI_walk {w : World} {r m n : Nat} {C : Int → Option Value} {S : List (Int)} (h : Rng intFam w r m n C S) : ∃ o : Obj, w.heap[r]? = some o ∧ o.isWalk = true := by
  obtain ⟨L, clock, seen, c0, h1, h2, h3, h4, h5, h6, h7⟩ := h
  exact ⟨_, h6, rfl⟩
theorem rngI_keeps {w w' : World} {B r m n : Nat} {C : Int → Option Value} {S : List (Int)} (h : Rng intFam w r m n C S) (hB : r = B) (hm : w'.heap[m]? = w.heap[m]?) (hk : KeepsFrom B w w') : Rng intFam w' r m n C S := by
  obtain ⟨L, clock, seen, c0, h1, h2, h3, h4, h5, h6, h7⟩ := h
  exact ⟨L, clock, seen, c0, hm.trans h1, h2, h3, h4, h5, hk.same r _ (by omega) h6 rfl, h7⟩
set_option maxRecDepth 100000 in
set_option maxHeartbeats 2000000 in
theorem keys_seqI (n : Nat) (hn : 1 ≤ n) (b1 m cnt : Nat) (C : Int → Option Value) (w : World) (hb1 : b1 < w.heap.size) (c1 : w.cell? ⟨b1, 0, none⟩ = some (.map (some m))) (h : MapB intFam w m cnt C) :
    SeqG Fence.wide n Tryz.prog 93 #[.pointer (some ⟨b1, 0, none⟩)] encI (fun k => k = b1 ∨ k = m) (fun S => S.length ≤ cnt) (fun S => S.Nodup ∧ S.length ≤ cnt ∧ ∀ a, a ∈ S ↔ C a ≠ none) w := by
  intro l J W hW hJ hY h0
  have hml := h.lt
  have hM := h.same (w' := W) (hW.block m hml)
  have x1 := (hW.cell (p := ⟨b1, 0, none⟩) hb1).trans c1
  have HJ := Lib.hid hJ
  have HY := Lib.hid hY
  have H0 := Lib.hid h0
  have HML := Lib.hid (show m < W.heap.size by have := hW.size; omega)
  have HM := Lib.hid hM
  clear hJ hY h0 h c1 hb1 hM hml hW
  refine callsIn_of_wp Tryz.func93 rfl trivial ?_ rfl
  simp only [Tryz.ntmps93, List.size_toArray, List.length_cons, List.length_nil, Nat.reduceAdd, Nat.reduceSub, Array.replicate_succ, Array.replicate_zero, List.push_toArray, List.append_toArray, List.nil_append, List.cons_append]
  gi_wp2_with (gi_at_range; refine wpListIn_range_rng rfl _ 88 28 rfl (by kernel_rfl) rfl HM.out ?_; intro w1 hr1 hg1 hs1)
  have HR1 := Lib.hid hr1
  have HJ1 := Lib.hid (HJ.out [] W w1 none H0.out hg1 (fun r e => by cases e))
  have HS1 := Lib.hid hs1
  obtain ⟨r, hr⟩ : ∃ r, r = W.heap.size := ⟨_, rfl⟩
  rw [← hr] at HR1
  simp only [← hr]
  have HRR := Lib.hid hr
  clear hr1 hg1 hs1 hr
  gi_loopg [] cnt (fun g wr => ∃ S, g = cnt - S.length ∧ Rng intFam wr r m cnt C S ∧ J S wr)
  case atStart => exact ⟨[], rfl, HR1.out, HJ1.out⟩
  case round =>
  obtain ⟨S, hg, hRS, hJS⟩ := hrel
  obtain ⟨X, rfl⟩ : ∃ X : World, X = wr := ⟨_, rfl⟩
  have HRS := Lib.hid hRS
  have HJS := Lib.hid hJS
  have HG := Lib.hid hg
  clear hRS hJS hg HM HR1 HJ1 H0 HS1
  gi_wp2_with (first | (gi_at_next; refine wpListIn_next_rng rfl _ rfl rfl HRS.out (fun hall => ?_) (fun x v w2 hC hok hnS hR2 hg2 hs2 hent => ?_)) | gi_in)
  · unfold Stop
    obtain ⟨hnd, hin⟩ := rngI_parts HRS.out
    have HE := Lib.hid (show S.Nodup ∧ S.length ≤ cnt ∧ ∀ a, a ∈ S ↔ C a ≠ none from ⟨hnd, HRS.out.le, fun a => ⟨hin a, hall a⟩⟩)
    clear hall hnd hin
    gi_wp2
    go_end0
    exact ⟨⟨_, rfl⟩, S, HE.out, HJS.out⟩
  · unfold Stop
    obtain ⟨w3, hw3⟩ : ∃ w3, w3 = w2 := ⟨_, rfl⟩
    have hlen := hR2.le
    have hw := rngI_walk HRS.out
    have hJ2 := HJ.out S X w2 (some r) HJS.out hg2 (fun q e => by cases e; exact ⟨by rw [HRR.out]; exact Nat.le_refl _, hw⟩)
    have hJ3 : J S w3 := by rw [hw3]; exact hJ2
    have hR3 : Rng intFam w3 r m cnt C (S ++ [x]) := by
      rw [hw3]
      exact hR2
    obtain ⟨fn, tmps, assign, body, hy, hR⟩ := HY.out S x w3 hJ3 hlen
    subst hw3
    try dsimp only [encI] at hy
    try dsimp only [intFam] at hent
    have HR3 := Lib.hid hR3
    have HLEN := Lib.hid hlen
    clear hR3 hlen hJ2 hJ3 hR2 hg2 hs2 hnS hok hC hw
    simp only [intFam]
    gi_wp2
    refine hR.mono ?_
    rintro e W4 ⟨rfl, hJ4, hK4, hKF4⟩
    have HR4 := Lib.hid (rngI_keeps HR3.out HRR.out (hK4 m (.inr rfl)) hKF4)
    have HJ4 := Lib.hid hJ4
    clear hJ4 hK4 hKF4 hy hR hent
    gi_wp2
    gi_roundg (cnt - (S ++ [x]).length)
    case rel => exact ⟨S ++ [x], rfl, HR4.out, HJ4.out⟩
    case measure => have := HG.out; have := HLEN.out; rw [List.length_append, List.length_singleton] at *; omega
set_option maxRecDepth 100000 in
set_option maxHeartbeats 2000000 in
theorem append_intsG (n : Nat) (hn : 3 ≤ n) (gf : Nat) (lb : Array Value) (cnt : Nat) (hlen : cnt ≤ 100000) (Fin : List Int → Prop) (Kc : Nat → Prop) (w : World) (hKc : ∀ k, Kc k → k < w.heap.size) (eg : ∀ args w, (callFunc gf args).run Tryz.prog w = .ok (.enter gf args) w)
    (hseq : SeqG Fence.wide (n - 1) Tryz.prog gf lb encI Kc (fun S => S.length ≤ cnt) Fin w) :
    CallsIn Fence.wide n Tryz.prog 109 #[.slice none 0 0, .func (.func gf) #[] lb] w fun e W' => ∃ v D, Fin D ∧ e = .returned v ∧ W'.ownsRow w.heap.size 3 1 v D.length (ic D) ∧ Below w.heap.size w W' := by
  have h1 : 1 ≤ n := by omega
  obtain ⟨i0, hi, hz0, hz1, hz2⟩ := info_parts info3
  refine callsIn_of_wp_marks Tryz.func109 rfl trivial ?_ rfl
  simp only [Tryz.ntmps109, List.size_toArray, List.length_cons, List.length_nil, Nat.reduceAdd, Nat.reduceSub, Array.replicate_succ, Array.replicate_zero, List.push_toArray, List.append_toArray, List.nil_append, List.cons_append]
  gi_wp2
  have bO := Boxed.new w 28 (.slice none 0 0)
  have hB0 : Below w.heap.size w (w.alloc (.cells #[.slice none 0 0] 28)) := (Below.refl _ w).alloc (Nat.le_refl _) _
  refine rangeFunc_N rfl h1 (gf := gf) (lb := lb) rfl trivial eg hseq hB0 (fun _ => rfl) (fun k hk => by have := hKc k hk; simp; omega)
    (fun pre W => (∃ v, Boxed W w.heap.size 28 v ∧ W.ownsRow w.heap.size 3 1 v pre.length (ic pre) ∧ True) ∧ Below w.heap.size w W)
    (OwnFrom.and (Own.from (holdsRow_own w.heap.size w.heap.size 28 3 1 (fun pre => pre.length) (fun pre => ic pre) (fun _ _ => True)) _) (ownFrom_below (Nat.le_refl _) (by simp)))
    ⟨⟨_, bO, World.ownsRow_nil _ _ _ _, trivial⟩, hB0⟩ (fun x => { tmps := #[.slice none 0 0, .func (.func gf) #[] lb, .pointer (some ⟨w.heap.size, 0, none⟩), undef, .slice none 0 0, .int .i64 x, .func (.func gf) #[] lb, .int .i64 x, undef, undef, undef, undef, undef], defers := [] }) ?assign ?body ?done
  case assign =>
    intro l x W K hK
    simp only [encI]
    gi_wp2
    exact hK
  case body =>
    rintro l pre x W ⟨⟨v, hv, hrow, -⟩, hB⟩ hpre
    have hc := hv.cell
    have hpl : pre.length + 1 ≤ cnt := by simpa using hpre
    gi_wp2_with (gi_at_builtin; refine wpListIn_append_own _ rfl _ _ 28 rfl w.heap.size 3 i0 (.int .i64 0) 1 8 (by kernel_rfl) hi hz0 hz1 hz2 rfl (by decide) _ _ _ rfl (hrow.alloc _) ⟨W.heap.size, 0, none⟩ 1 1 [.int .i64 x] rfl rfl (cell_one_new _ _ _) (by simp [Value.oneCell']) (by unfold maxLen; omega) (by omega) (by have := hB.size; simp; omega) ?_; intro v' w1 hown' hgrow _; obtain ⟨g', cap', rfl⟩ := ownsRow_succ hown'; obtain ⟨hv1, hv2, hr2, hk2, hb2⟩ := hv.appended (by decide) hrow hB.size (Nat.le_refl _) hown' hgrow; have hc1 := hv1.cell; have hf1 := hv1.frozen)
    exact ⟨hk2.from _, fun k hk => hb2.block k (hKc k hk), ⟨_, hv2, by rw [ic_snoc, List.length_append]; exact hr2, trivial⟩, hB.trans hb2⟩
  case done =>
    rintro D W ss hD hfin ⟨⟨v, hv, hrow, -⟩, hB⟩ hK
    have hc := hv.cell
    gi_wp2
    refine ⟨by simp, .inl ⟨_, _, rfl, run_takeDeferred hK, ?_⟩⟩
    exact ⟨_, results_tmp rfl _ _ _, v, ss, hfin, rfl, ownsRow_putObj hrow _ hK rfl, hB.trans (belowK_b (w := w) (Nat.le_refl _) W D _ _ (by simp at hD; omega) hK rfl rfl)⟩
set_option maxRecDepth 100000 in
set_option maxHeartbeats 2000000 in
theorem collect_intsG (n : Nat) (hn : 4 ≤ n) (gf : Nat) (lb : Array Value) (cnt : Nat) (hlen : cnt ≤ 100000) (Fin : List Int → Prop) (Kc : Nat → Prop) (w : World) (hKc : ∀ k, Kc k → k < w.heap.size) (eg : ∀ args w, (callFunc gf args).run Tryz.prog w = .ok (.enter gf args) w)
    (hseq : SeqG Fence.wide (n - 1 - 1) Tryz.prog gf lb encI Kc (fun S => S.length ≤ cnt) Fin w) :
    CallsIn Fence.wide n Tryz.prog 91 #[.func (.func gf) #[] lb] w fun e W' => ∃ v D, Fin D ∧ e = .returned v ∧ W'.ownsRow w.heap.size 3 1 v D.length (ic D) ∧ Below w.heap.size w W' := by
  have h1 : 1 ≤ n := by omega
  have HA := append_intsG (n - 1) (by omega) gf lb cnt hlen Fin Kc w hKc eg hseq
  refine callsIn_of_wp Tryz.func91 rfl trivial ?_ rfl
  simp only [Tryz.ntmps91, List.size_toArray, List.length_cons, List.length_nil, Nat.reduceAdd, Nat.reduceSub, Array.replicate_succ, Array.replicate_zero, List.push_toArray, List.append_toArray, List.nil_append, List.cons_append]
  gi_wp2_with (refine ⟨trivial, ?_⟩; gi_at_call 109; refine HA.mono ?_; rintro e w1 ⟨v, D, hfin, rfl, hown, hbl⟩)
  go_ret
  exact ⟨v, D, hfin, rfl, hown, hbl⟩
/-- slices.Sort of an owned row. -/
theorem sort_ownI {w : World} {base n : Nat} {v : Value} {zs : List Int} (h : w.ownsRow base 3 1 v n (zs.map (Value.int .i64))) (hn : n = zs.length) (h0 : 0 < n) (hl : n ≤ 100000) :
    Calls Tryz.prog 92 #[v] w fun r w' => r = .returned (.tuple #[]) ∧ w'.ownsRow base 3 1 v n ((zs.mergeSort fun x y => decide (x ≤ y)).map (Value.int .i64)) ∧ w.grownBy w' v.ownBlock := by
  obtain ⟨h1, h2⟩ := h
  rcases h2 with ⟨_, h2⟩ | ⟨g, cap, cur, rfl, hg, hh, hc, hm, hs, ht⟩
  · omega
  · subst hn
    rw [Nat.mul_one] at ht
    refine (Tryz.slices_Sort_int g 0 cap zs w (holds_of_blockI hh ht) (Array.getElem?_eq_some_iff.1 hh).1 (by first | omega | (simp; omega) | (simp at hl ⊢; omega))).mono ?_
    rintro r w' ⟨rfl, q, os, rfl⟩
    refine ⟨rfl, ⟨by simp [List.length_mergeSort], .inr ⟨g, cap, _, rfl, hg, heap_sortedI _ hh, hc, hm, ?_, ?_⟩⟩, grownBy_sortedI _⟩
    · simpa [putCells, Array.size_mapIdx] using hs
    · have h3 := take_putCellsI cur (zs.mergeSort fun x y => decide (x ≤ y)) (by rw [List.length_mergeSort]; omega)
      rw [List.length_mergeSort] at h3
      rw [Nat.mul_one]
      exact h3
theorem grown_refl' (w : World) (row : Option Nat) : w.grownBy w row := ⟨rfl, rfl, rfl, Nat.le_refl _, fun _ _ _ => rfl⟩
theorem sort_zsI {w : World} {base : Nat} {v : Value} {zs : List Int} (h : w.ownsRow base 3 1 v zs.length (ic zs)) (hl : zs.length ≤ 100000) :
    Calls Tryz.prog 92 #[v] w fun r w' => r = .returned (.tuple #[]) ∧ w'.ownsRow base 3 1 v zs.length (ic (zs.mergeSort fun x y => decide (x ≤ y))) ∧ w.grownBy w' v.ownBlock := by
  by_cases h0 : zs = []
  · subst h0
    obtain ⟨a, c, rfl⟩ := owns_slice h
    exact (Tryz.slices_Sort_int_none a c w).mono fun r w' ⟨h1, h2⟩ => ⟨h1, by rw [h2]; simpa using h, by rw [h2]; exact grown_refl' _ _⟩
  · exact sort_ownI h rfl (List.length_pos_iff.2 h0) hl
/-- The keys of a map of numbers, in some order. -/
theorem keys_collectI (b1 m cnt : Nat) (hcnt : cnt ≤ 100000) (C : Int → Option Value) (w : World) (hb1 : b1 < w.heap.size) (c1 : w.cell? ⟨b1, 0, none⟩ = some (.map (some m))) (h : MapB intFam w m cnt C) :
    Calls Tryz.prog 91 #[.func (.func 93) #[] #[.pointer (some ⟨b1, 0, none⟩)]] w fun e W' => ∃ v D, (D.Nodup ∧ D.length ≤ cnt ∧ ∀ a, a ∈ D ↔ C a ≠ none) ∧ e = .returned v ∧ W'.ownsRow w.heap.size 3 1 v D.length (ic D) ∧ Below w.heap.size w W' :=
  callsIn_wide.1 (collect_intsG 7 (by omega) 93 #[.pointer (some ⟨b1, 0, none⟩)] cnt hcnt (fun S => S.Nodup ∧ S.length ≤ cnt ∧ ∀ a, a ∈ S ↔ C a ≠ none) (fun k => k = b1 ∨ k = m) w (by rintro k (rfl | rfl); exact hb1; exact h.lt) (enters_of Tryz.func93 (by kernel_rfl) rfl) (keys_seqI 5 (by omega) b1 m cnt C w hb1 c1 h))
/-- Numbers, rising. -/
def sortZ (D : List Int) : List Int := D.mergeSort fun x y => decide (x ≤ y)
/-- The keys D of a map, sorted. -/
def KeysI (C : Int → Option Value) (w : World) (e : Ending) (w' : World) : Prop :=
  ∃ v D, (D.Nodup ∧ ∀ a, a ∈ D ↔ C a ≠ none) ∧ e = .returned v ∧ w'.ownsRow w.heap.size 3 1 v D.length (ic (sortZ D)) ∧ Below w.heap.size w w'
set_option maxRecDepth 100000 in
set_option maxHeartbeats 1000000 in
theorem sorted_keysI (b1 m cnt : Nat) (hcnt : cnt ≤ 100000) (C : Int → Option Value) (w : World) (hb1 : b1 < w.heap.size) (c1 : w.cell? ⟨b1, 0, none⟩ = some (.map (some m))) (h : MapB intFam w m cnt C) :
    Calls Tryz.prog 54 #[.func (.func 93) #[] #[.pointer (some ⟨b1, 0, none⟩)]] w (KeysI C w) := by
  have HC := Lib.hid (keys_collectI b1 m cnt hcnt C w hb1 c1 h)
  clear h c1
  go_enter Tryz.func54, Tryz.ntmps54
  go_wp2_with fail
  refine HC.out.mono ?_
  rintro e w1 ⟨v, D, ⟨hnd, hle, hin⟩, rfl, hown, hb⟩
  have HS := Lib.hid (sort_zsI hown (by omega))
  have HO := Lib.hid hown
  have HB := Lib.hid hb
  have HD := Lib.hid (show D.Nodup ∧ ∀ a, a ∈ D ↔ C a ≠ none from ⟨hnd, hin⟩)
  clear hnd hle hin hown hb
  go_wp2_with fail
  refine HS.out.mono ?_
  rintro e w2 ⟨rfl, ho2, hg2⟩
  have HE2 := Lib.hid ho2
  have HB2 := Lib.hid (show Below w.heap.size w w2 from by
    refine ⟨hg2.os.trans HB.out.os, hg2.tape.trans HB.out.tape, hg2.output.trans HB.out.output, Nat.le_trans HB.out.size hg2.size, fun k hk => ?_⟩
    rw [hg2.block k (by have := HB.out.size; omega) (fun q => by have := (HO.out.lt k q.symm).1; omega)]
    exact HB.out.block k hk)
  clear ho2 hg2
  go_wp2
  go_ret
  exact ⟨v, D, HD.out, rfl, HE2.out, HB2.out⟩
end Go.Proofs.YtkjamheoihlekaaGreat

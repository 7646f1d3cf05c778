/- A range over a function whose iterator reads a map of its own: the rounds leave what is no cells and lies where the iterator began, or beyond. border.Walk: a loop's vertices, one by one. slices.Collect over an iterator that hands out some numbers. A range over a function whose iterator hands out values in an order that is not known ahead: the rounds leave what is no cells and lies where the iterator began, or beyond. -/
import Derived.RangeFuncWrites
import Derived.RangeFuncLeaves
import Derived.Test.YtkjamheoihlekaaGreatBase
import Derived.RangeFuncNested
import Derived.RangeFuncBound
import Derived.RangeFuncCalls
import Derived.Shelf.Abstract
import Derived.Shelf.RegionOpen
import Derived.WalkKit
import Derived.OwnWalkIn
import Derived.TacticsInMore
import Derived.LoopNIn
import Derived.LoopIn
import Derived.Sort.LoopGhostIn
import Derived.Test.YtkjamheoihlekaaGreatButLaw
import Derived.Maps.AppendAt
import Derived.Maps.OwnIn
import Derived.RangeFuncGives
namespace Go.Proofs.YtkjamheoihlekaaGreat
set_option linter.unusedVariables false
set_option linter.unusedSimpArgs false
open Go.RowKit
open Go.RowKit Go.Shelf
section
variable {F : Fence} {n : Nat} {P : Program} {α : Type}
/-- An iterator hands out xs, one by one, to rounds that keep the blocks Kc, and what is no cells from where it began on. -/
def SeqM (F : Fence) (n : Nat) (P : Program) (g : Nat) (lb : Array Value) (encs : α → Array Value) (Kc : Nat → Prop) (xs : List α) (w : World) : Prop :=
  ∀ (l : Nat) (J : List α → World → Prop) (W : World), Below w.heap.size w W → (∀ s A B, J s A → A.grownBy B none → J s B) →
    (∀ pre x W1, J pre W1 → pre ++ [x] <+: xs → YieldAt F (n - 1) P l (encs x) W1 fun e W' =>
      e = .returned (.bool true) ∧ J (pre ++ [x]) W' ∧ (∀ k, Kc k → W'.heap[k]? = W1.heap[k]?) ∧ KeepsFrom W.heap.size W1 W') →
    J [] W → CallsIn F n P g (#[.func (.yield l) #[] #[]] ++ lb) W fun e W' => (∃ v, e = .returned v) ∧ J xs W'
/-- How a round's body ends. -/
def roundM (B : Nat) (Kc : Nat → Prop) (I : List α → World → Prop) (xs : List α) (W : World) : Exit → Act → World → Prop
  | .normal, _, W' => KeepsFrom B W W' ∧ (∀ k, Kc k → W'.heap[k]? = W.heap[k]?) ∧ I xs W'
  | _, _, _ => False
theorem rangeFunc_M {g : Operand} {ps : Array Tmp} {assign body : Code} {Q : Exit → Act → World → Prop} {a : Act} {w w0 : World} (hro : F.round = none) (h1 : 1 ≤ n) {gf : Nat} {lb : Array Value}
    (hg : a.eval g = .func (.func gf) #[] lb) (hFg : F.fn gf) (eg : ∀ args w, (callFunc gf args).run P w = .ok (.enter gf args) w) {encs : α → Array Value} {Kc : Nat → Prop} {xs : List α}
    (hseq : SeqM F (n - 1) P gf lb encs Kc xs w0) (hb0 : Below w0.heap.size w0 w) (hps : ∀ x, (encs x).size = ps.size) (hKc : ∀ k, Kc k → k < w.heap.size)
    (I : List α → World → Prop) (hI : OwnFrom w.heap.size I) (h0 : I [] w) (a₁ : α → Act)
    (hassign : ∀ (l : Nat) (x : α) (W : World) (K : Act → World → Prop), K (a₁ x) W →
      assign.wpIn (F.inRound l) (n - 1 - 1) P (Exit.then K (fun _ _ _ => False)) { tmps := (ps.zip (encs x)).foldl (fun t (p, v) => t.setIfInBounds p v) a.tmps, defers := [] } W)
    (hbody : ∀ (l : Nat) (pre : List α) (x : α) (W : World), I pre W → pre ++ [x] <+: xs → body.wpIn (F.inRound l) (n - 1 - 1) P (roundM w.heap.size Kc I (pre ++ [x]) W) (a₁ x) W)
    (hdone : ∀ (D : Nat) (W : World), w.heap.size ≤ D → I xs W → W.heap[D]? = some (.deferred (some [])) → Q .normal { a with defers := { target := .collected D, args := #[] } :: a.defers } W) :
    (Code.rangeFunc g ps assign body).wpIn F n P Q a w := by
  refine wpIn_rangeFunc fun fn hfn => ?_
  rw [hro]
  obtain ⟨b, hb⟩ : ∃ b, b = w.heap.size := ⟨_, rfl⟩
  obtain ⟨rec, hrec⟩ : ∃ rec : LoopState → Loop, rec = fun st => { state := st, pending := none, fn, tmps := a.tmps, params := ps, assign, body, defers := b } := ⟨_, rfl⟩
  obtain ⟨V, hV⟩ : ∃ V, V = (w.alloc (.deferred (some []))).alloc (.loop (rec .ready)) := ⟨_, rfl⟩
  have hVs : V.heap.size = b + 2 := by rw [hV, hb]; simp
  have hVl : V.heap[b + 1]? = some (.loop (rec .ready)) := by
    have := World.alloc_heap_new (w.alloc (.deferred (some []))) (.loop (rec .ready))
    rw [World.size_alloc] at this
    rw [hV, hb]; exact this
  have hVd : V.heap[b]? = some (.deferred (some [])) := by
    rw [hV, hb]
    exact (Below.heap_alloc _ _ _ (by simp)).trans (World.alloc_heap_new w _)
  have hIV : I [] V := by rw [hV]; exact hI.alloc _ (hI.alloc _ h0)
  have hbV : Below w0.heap.size w0 V := by
    rw [hV]; exact hb0.trans ((((Below.refl _ w).alloc (Nat.le_refl _) _).alloc (by simp) _).mono hb0.size)
  refine ⟨b + 1, [{ target := .collected b, args := #[] }], V, { target := .fn (.func gf) lb, args := #[.func (.yield (b + 1)) #[] #[]] }, V, gf, #[.func (.yield (b + 1)) #[] #[]] ++ lb, V, ?_, ?_, ?_, ?_, fun _ => h1, ?_⟩
  · rw [hV, hrec, hb]; exact run_enterLoop_outer _ _ _ _ _
  · simp only [resolve, hg]
    simp [go_sem]
  · intro f' hf'; simp [Target.leads] at hf'; subst hf'; exact hFg
  · simp [invoke, go_sem, eg]
  · refine (hseq (b + 1) (fun pre W => I pre W ∧ W.heap[b + 1]? = some (.loop (rec .ready)) ∧ W.heap[b]? = some (.deferred (some []))) V hbV
      (fun s A B hs hgr => ⟨hI s A B none hs.1 hgr (fun r e => by cases e), (hgr.block _ (Array.getElem?_eq_some_iff.1 hs.2.1).1 (by simp)).trans hs.2.1, (hgr.block _ (Array.getElem?_eq_some_iff.1 hs.2.2).1 (by simp)).trans hs.2.2⟩) ?_ ⟨hIV, hVl, hVd⟩).mono ?_
    · rintro pre x W ⟨hi, hl, hk⟩ hpre
      have hlt : b + 1 < W.heap.size := (Array.getElem?_eq_some_iff.1 hl).1
      have hy := run_yield (P := P) (args := encs x) hl (by rw [hrec]; exact hps x)
      rw [hrec] at hy
      refine ⟨fn, _, assign, body, hy, roundIn_of_wpIn hfn (hassign _ x W _ ⟨_, run_beginRound hl (by rw [hrec]), ?_⟩)⟩
      obtain ⟨V2, hV2⟩ : ∃ V2, V2 = W.putObj (b + 1) (.loop { rec .ready with state := .busy }) := ⟨_, rfl⟩
      have hl2 : V2.heap[b + 1]? = some (.loop { rec .ready with state := .busy }) := by rw [hV2]; exact World.putObj_heap_same hlt
      have hk2 : V2.heap[b]? = some (.deferred (some [])) := by rw [hV2]; exact (World.putObj_heap_other (by omega)).trans hk
      have hi2 : I pre V2 := by rw [hV2]; exact hI.putObj _ hi (by omega) hl rfl
      rw [← hV2]
      refine wpIn_mono (hbody _ pre x _ hi2 hpre) ?_
      rintro e a3 W3 hp
      cases e with
      | normal =>
        obtain ⟨hk3, hc3, hi3⟩ := hp
        have hl3 := hk3.same _ _ (by omega) hl2 rfl
        have hd3 := hk3.same _ _ (by omega) hk2 rfl
        have hr := run_endRound (P := P) none hl3
        rw [hrec] at hr hl3
        refine ⟨_, _, hr, rfl, ⟨hI.putObj _ hi3 (by omega) hl3 rfl, ?_, (World.putObj_heap_other (by omega)).trans hd3⟩, fun k hkc => ?_, ?_⟩
        · rw [hrec]; exact World.putObj_heap_same (Array.getElem?_eq_some_iff.1 hl3).1
        · have := hKc k hkc
          rw [World.putObj_heap_other (by omega), hc3 k hkc, hV2, World.putObj_heap_other (by omega)]
        · refine ⟨?_, fun k o hB hko ho => ?_⟩
          · have := hk3.size
            rw [hV2] at this
            simpa using this
          · rw [hVs] at hB
            rw [World.putObj_heap_other (by omega)]
            exact hk3.same k o (by omega) (by rw [hV2, World.putObj_heap_other (by omega)]; exact hko) ho
      | ret => exact hp.elim
      | exit id => exact hp.elim
      | goto t => exact hp.elim
      | panic ch => exact hp.elim
      | outgrown => exact hp.elim
    · rintro e W2 ⟨⟨v, rfl⟩, hi, hl, hk⟩
      have := run_endLoop (P := P) hl (by rw [hrec]; simp)
      rw [hrec] at this
      exact ⟨none, _, this, hdone _ _ (by omega) (hI.putObj _ hi (by omega) hl rfl) ((World.putObj_heap_other (by omega)).trans hk)⟩
end
attribute [local go_sem] Oper.semAt_some
theorem zero_int0 : ∀ w, (zeroValue 3).run Tryz.prog w = .ok (.int .i64 0) w := fun _ => by kernel_rfl
theorem look_yes {E : List (Int × Int)} {w : World} {m cn : Nat} (h : MapIs intFam w m cn (behC E)) {v : Int} (hv : I64 v) (ho : OneIn E) (hm : v ∈ E.map Prod.snd) :
    (Instr.lookup 84 (.map (some m)) (.int .i64 v) true).run Tryz.prog w = .ok (.tuple #[.int .i64 (sg E v), .bool true]) w ∧ (Instr.lookup 84 (.map (some m)) (.int .i64 v) false).run Tryz.prog w = .ok (.int .i64 (sg E v)) w := by
  have e : behC E v = some (.int .i64 (sg E v)) := by
    unfold behC
    rw [nextB_of ho.ends (ho.sg_mem hm)]
    rfl
  have h1 := h.look 84 3 (by kernel_rfl) zero_int0 v hv true
  have h2 := h.look 84 3 (by kernel_rfl) zero_int0 v hv false
  rw [e] at h1 h2
  exact ⟨h1, h2⟩
theorem look_no {E : List (Int × Int)} {w : World} {m cn : Nat} (h : MapIs intFam w m cn (behC E)) {v : Int} (hv : I64 v) (hm : v ∉ E.map Prod.snd) :
    (Instr.lookup 84 (.map (some m)) (.int .i64 v) true).run Tryz.prog w = .ok (.tuple #[.int .i64 0, .bool false]) w := by
  have e : behC E v = none := by
    unfold behC
    rw [nextB_none.2 hm]
    rfl
  have h1 := h.look 84 3 (by kernel_rfl) zero_int0 v hv true
  rw [e] at h1
  exact h1
theorem MapIs.keeps {w w' : World} {m n B : Nat} {C : Int → Option Value} (h : MapIs intFam w m n C) (hk : KeepsFrom B w w') (hB : B ≤ m) : MapIs intFam w' m n C := by
  obtain ⟨es, clock, h1, h2⟩ := h
  exact ⟨es, clock, hk.same m _ hB h1 rfl, h2⟩
theorem cell_same {w w' : World} {k : Nat} (h : w'.heap[k]? = w.heap[k]?) (i : Nat) : w'.cell? ⟨k, i, none⟩ = w.cell? ⟨k, i, none⟩ := by simp [World.cell?, h]
theorem pre_range {f : Nat → Int} {k p : Nat} (h : k < p) : (List.range k).map f ++ [f k] <+: (List.range p).map f := by
  have e : (List.range k).map f ++ [f k] = (List.range (k + 1)).map f := by rw [List.range_succ, List.map_append]; rfl
  obtain ⟨d, rfl⟩ : ∃ d, p = k + 1 + d := ⟨p - (k + 1), by omega⟩
  rw [e, show List.range (k + 1 + d) = List.range (k + 1) ++ (List.range d).map (k + 1 + ·) from List.range_add, List.map_append]
  exact List.prefix_append _ _
set_option maxRecDepth 100000 in
set_option maxHeartbeats 2000000 in
theorem walk_any (n p : Nat) (v : Int) (w : World) :
    CallsIn Fence.wide n Tryz.prog 104 #[.pointer (some ⟨p, 0, none⟩), .int .i64 v] w fun e w' => e = .returned (.func (.func 130) #[] #[.pointer (some ⟨w.heap.size, 0, none⟩), .pointer (some ⟨w.heap.size + 1, 0, none⟩)]) ∧
      w' = (w.alloc (.cells #[.pointer (some ⟨p, 0, none⟩)] 26)).alloc (.cells #[.int .i64 v] 3) := by
  refine callsIn_of_wp Tryz.func104 rfl trivial ?_ rfl
  simp only [Tryz.ntmps104, List.size_toArray, List.length_cons, List.length_nil, Nat.reduceAdd, Nat.reduceSub, Array.replicate_succ, Array.replicate_zero, List.push_toArray, List.append_toArray, List.nil_append, List.cons_append]
  gi_wp2
  go_ret
  exact ⟨rfl, rfl⟩
set_option maxRecDepth 100000 in
set_option maxHeartbeats 2000000 in
theorem walk_seq (n : Nat) (hn : 1 ≤ n) (p : Nat) (N : Int) (T : List Tr) (hs : Surf N T) (b1 b2 : Nat) (v : Int) (hv : I64 v) (w : World) (hb1 : b1 < w.heap.size) (hb2 : b2 < w.heap.size)
    (c1 : w.cell? ⟨b1, 0, none⟩ = some (.pointer (some ⟨p, 0, none⟩))) (c2 : w.cell? ⟨b2, 0, none⟩ = some (.int .i64 v)) (h : Tab w p N T) :
    SeqM Fence.wide n Tryz.prog 130 #[.pointer (some ⟨b1, 0, none⟩), .pointer (some ⟨b2, 0, none⟩)] (fun x : Int => #[.int .i64 x]) (fun k => k = b1 ∨ k = b2) (orb (bordE T (3 * T.length)) v) w := by
  intro l J W hW hJ hY h0
  obtain ⟨E, hE⟩ : ∃ E, E = bordE T (3 * T.length) := ⟨_, rfl⟩
  have HBE := Lib.hid (behind_ok p N T W (h.mono (Nat.le_refl _) hW) hs)
  rw [← hE] at HBE hY ⊢
  have hone : OneIn E := by rw [hE]; exact hs.oneIn
  have x1 := (hW.cell (p := ⟨b1, 0, none⟩) hb1).trans c1
  have hlt1 : b1 < W.heap.size := by have := hW.size; omega
  have hlt2 : b2 < W.heap.size := by have := hW.size; omega
  have hc2W := (hW.cell (p := ⟨b2, 0, none⟩) hb2).trans c2
  have HC2 := Lib.hid (show ∀ X, Below W.heap.size W X → X.cell? ⟨b2, 0, none⟩ = some (.int .i64 v) from fun X hX => (hX.cell (p := ⟨b2, 0, none⟩) hlt2).trans hc2W)
  have HJ := Lib.hid hJ
  have HY := Lib.hid hY
  have H0 := Lib.hid h0
  have HONE := Lib.hid hone
  have HEE := Lib.hid hE
  clear hJ hY h0 h hE hone hc2W c1 c2 hb1 hb2
  refine callsIn_of_wp Tryz.func130 rfl trivial ?_ rfl
  simp only [Tryz.ntmps130, List.size_toArray, List.length_cons, List.length_nil, Nat.reduceAdd, Nat.reduceSub, Array.replicate_succ, Array.replicate_zero, List.push_toArray, List.append_toArray, List.nil_append, List.cons_append]
  by_cases hvS : v ∈ E.map Prod.snd
  case neg =>
    have HN := Lib.hid hvS
    clear hvS
    gi_wp2_with (refine ⟨trivial, ?_⟩; gi_at_call 131; refine (callsIn_wide.2 HBE.out).mono ?_; rintro e w1 ⟨m, cn, rfl, hm, hmap, hbl⟩; have y2 := HC2.out w1 hbl; have hlk := look_no hmap hv HN.out; have HEND := Lib.hid (HJ.out [] W w1 H0.out (below_grown hbl)); clear hmap hbl hm)
    refine ⟨fun _ h => (by cases h), ?_⟩
    gi_wp2
    refine bodyPost_ret (results_none rfl _ _ _) rfl ?_
    exact ⟨⟨_, rfl⟩, by rw [orb_nil HN.out]; exact HEND.out⟩
  case pos =>
  obtain ⟨q, hq⟩ := HONE.out.per hvS
  have hio : ∀ k, I64 (it E k v) := fun k => by
    have hm := HONE.out.it_in hvS k
    have h1 := hs.bord_in (u := it E k v) (by rw [← HEE.out]; exact hm)
    have h2 := hs.n1
    constructor <;> omega
  have HIO := Lib.hid hio
  have HQ := Lib.hid hq
  have HS := Lib.hid hvS
  have ho := orb_eq hvS hq
  rw [ho] at HY ⊢
  have HP := Lib.hid (show ∀ k, k < q → (List.range k).map (fun i => it E i v) ++ [it E k v] <+: (List.range q).map (fun i => it E i v) from fun k hk => pre_range hk)
  have hq1 := hq.pos
  clear hio hq hvS ho
  gi_wp2_with (refine ⟨trivial, ?_⟩; gi_at_call 131; refine (callsIn_wide.2 HBE.out).mono ?_; rintro e w1 ⟨m, cn, rfl, hm, hmap, hbl⟩; have y2 := HC2.out w1 hbl; have hlk := (look_yes hmap hv HONE.out HS.out).1; obtain ⟨fn, tmps, assign, body, hy, hR⟩ := HY.out [] v w1 (HJ.out [] W w1 H0.out (below_grown hbl)) (HP.out 0 (by omega)); dsimp only at hy; have HMP := Lib.hid hmap; have HMM := Lib.hid hm; clear hmap hbl hm)
  refine hR.mono ?_
  rintro e W3 ⟨rfl, hJ3, hK3, hKF3⟩
  have HM3 := Lib.hid (HMP.out.keeps hKF3 HMM.out)
  have HC3 := Lib.hid ((cell_same (hK3 b2 (.inr rfl)) 0).trans y2)
  have HJ3 := Lib.hid hJ3
  clear hJ3 hK3 hKF3 hy hlk y2 hR x1
  gi_wp2
  gi_loopg [5] (q - 1) (fun g u wr => ∃ k, g = q - k ∧ 1 ≤ k ∧ k ≤ q ∧ u = .int .i64 (it E k v) ∧ J ((List.range k).map fun i => it E i v) wr ∧ MapIs intFam wr m cn (behC E) ∧ wr.cell? ⟨b2, 0, none⟩ = some (.int .i64 v))
  case atStart => exact ⟨1, rfl, Nat.le_refl _, hq1, rfl, HJ3.out, HM3.out, HC3.out⟩
  case round =>
  clear HJ3 HM3 HC3
  obtain ⟨k, hg, hk1, hkq, rfl, hJk, hMk, hCk⟩ := hrel
  obtain ⟨X, rfl⟩ : ∃ X : World, X = wr := ⟨_, rfl⟩
  have HJK := Lib.hid hJk
  have HMK := Lib.hid hMk
  have HG := Lib.hid hg
  obtain ⟨u, hu⟩ : ∃ u, u = it E k v := ⟨_, rfl⟩
  rw [← hu]
  clear hJk hMk hg
  by_cases hke : k = q
  case pos =>
    have huv : u = v := by rw [hu, hke]; exact HQ.out.back
    have d0 : (u != v) = false := by simp [huv]
    have d1 : (u == v) = true := by simp [huv]
    have HEND := Lib.hid (show J ((List.range q).map fun i => it E i v) X from by have := HJK.out; rwa [hke] at this)
    clear huv hu
    gi_wp2
    go_end0
    exact ⟨⟨_, rfl⟩, HEND.out⟩
  case neg =>
  have huv : u ≠ v := by rw [hu]; exact HQ.out.least k hk1 (by omega)
  have d0 : (u != v) = true := by simp [bne, huv]
  have d1 : (u == v) = false := by simpa using huv
  obtain ⟨fn, tmps, assign, body, hy, hR⟩ := HY.out _ (it E k v) X HJK.out (HP.out k (by omega))
  try dsimp only at hy
  rw [← hu] at hy
  have HU := Lib.hid hu
  clear huv hu
  gi_wp2
  refine hR.mono ?_
  rintro e W4 ⟨rfl, hJ4, hK4, hKF4⟩
  have hM4 := HMK.out.keeps hKF4 HMM.out
  have hlk := (look_yes hM4 (HIO.out k) HONE.out (HONE.out.it_in HS.out k)).2
  rw [← HU.out] at hlk
  have HM4 := Lib.hid hM4
  have HC4 := Lib.hid ((cell_same (hK4 b2 (.inr rfl)) 0).trans hCk)
  have HJ4 := Lib.hid (show J ((List.range (k + 1)).map fun i => it E i v) W4 from by rw [List.range_succ, List.map_append]; exact hJ4)
  have HSG := Lib.hid (show sg E u = it E (k + 1) v from by rw [HU.out]; rfl)
  clear hJ4 hK4 hKF4 hy hM4 hR d0 d1
  gi_wp2
  gi_roundg (q - (k + 1))
  case rel => exact ⟨k + 1, rfl, by omega, by omega, by rw [HSG.out], HJ4.out, HM4.out, HC4.out⟩
  case measure => have := HG.out; omega
attribute [local go_sem] Oper.semAt_some
theorem pre_lt {pre : List Int} {x : Int} {xs : List Int} (h : pre ++ [x] <+: xs) : pre.length < xs.length := by
  have := h.length_le
  rw [List.length_append, List.length_singleton] at this
  omega
set_option maxRecDepth 100000 in
set_option maxHeartbeats 2000000 in
theorem append_seq (n : Nat) (hn : 3 ≤ n) (gf : Nat) (lb : Array Value) (xs : List Int) (hlen : xs.length ≤ 100000) (Kc : Nat → Prop) (w : World) (hKc : ∀ k, Kc k → k < w.heap.size) (eg : ∀ args w, (callFunc gf args).run Tryz.prog w = .ok (.enter gf args) w)
    (hseq : SeqM Fence.wide (n - 1) Tryz.prog gf lb (fun x : Int => #[.int .i64 x]) Kc xs w) :
    CallsIn Fence.wide n Tryz.prog 109 #[.slice none 0 0, .func (.func gf) #[] lb] w fun e W' => ∃ v, e = .returned v ∧ W'.ownsRow w.heap.size 3 1 v xs.length (ic xs) ∧ Below w.heap.size w W' := by
  have h1 : 1 ≤ n := by omega
  obtain ⟨i0, hi, hz0, hz1, hz2⟩ := info_parts info3
  refine callsIn_of_wp_marks Tryz.func109 rfl trivial ?_ rfl
  simp only [Tryz.ntmps109, List.size_toArray, List.length_cons, List.length_nil, Nat.reduceAdd, Nat.reduceSub, Array.replicate_succ, Array.replicate_zero, List.push_toArray, List.append_toArray, List.nil_append, List.cons_append]
  gi_wp2
  have bO := Boxed.new w 28 (.slice none 0 0)
  have hB0 : Below w.heap.size w (w.alloc (.cells #[.slice none 0 0] 28)) := (Below.refl _ w).alloc (Nat.le_refl _) _
  refine rangeFunc_M rfl h1 (gf := gf) (lb := lb) rfl trivial eg hseq hB0 (fun _ => rfl) (fun k hk => by have := hKc k hk; simp; omega)
    (fun pre W => (∃ v, Boxed W w.heap.size 28 v ∧ W.ownsRow w.heap.size 3 1 v pre.length (ic pre) ∧ True) ∧ Below w.heap.size w W)
    (OwnFrom.and (Own.from (holdsRow_own w.heap.size w.heap.size 28 3 1 (fun pre => pre.length) (fun pre => ic pre) (fun _ _ => True)) _) (ownFrom_below (Nat.le_refl _) (by simp)))
    ⟨⟨_, bO, World.ownsRow_nil _ _ _ _, trivial⟩, hB0⟩ (fun x => { tmps := #[.slice none 0 0, .func (.func gf) #[] lb, .pointer (some ⟨w.heap.size, 0, none⟩), undef, .slice none 0 0, .int .i64 x, .func (.func gf) #[] lb, .int .i64 x, undef, undef, undef, undef, undef], defers := [] }) ?assign ?body ?done
  case assign =>
    intro l x W K hK
    gi_wp2
    exact hK
  case body =>
    rintro l pre x W ⟨⟨v, hv, hrow, -⟩, hB⟩ hpre
    have hc := hv.cell
    have hpl := pre_lt hpre
    gi_wp2_with (gi_at_builtin; refine wpListIn_append_own _ rfl _ _ 28 rfl w.heap.size 3 i0 (.int .i64 0) 1 8 (by kernel_rfl) hi hz0 hz1 hz2 rfl (by decide) _ _ _ rfl (hrow.alloc _) ⟨W.heap.size, 0, none⟩ 1 1 [.int .i64 x] rfl rfl (cell_one_new _ _ _) (by simp [Value.oneCell']) (by unfold maxLen; omega) (by omega) (by have := hB.size; simp; omega) ?_; intro v' w1 hown' hgrow _; obtain ⟨g', cap', rfl⟩ := ownsRow_succ hown'; obtain ⟨hv1, hv2, hr2, hk2, hb2⟩ := hv.appended (by decide) hrow hB.size (Nat.le_refl _) hown' hgrow; have hc1 := hv1.cell; have hf1 := hv1.frozen)
    exact ⟨hk2.from _, fun k hk => hb2.block k (hKc k hk), ⟨_, hv2, by rw [ic_snoc, List.length_append]; exact hr2, trivial⟩, hB.trans hb2⟩
  case done =>
    rintro D W hD ⟨⟨v, hv, hrow, -⟩, hB⟩ hK
    have hc := hv.cell
    gi_wp2
    refine ⟨by simp, .inl ⟨_, _, rfl, run_takeDeferred hK, ?_⟩⟩
    exact ⟨_, results_tmp rfl _ _ _, v, rfl, ownsRow_putObj hrow _ hK rfl, hB.trans (belowK_b (w := w) (Nat.le_refl _) W D _ _ (by simp at hD; omega) hK rfl rfl)⟩
set_option maxRecDepth 100000 in
set_option maxHeartbeats 2000000 in
theorem collect_seq (n : Nat) (hn : 4 ≤ n) (gf : Nat) (lb : Array Value) (xs : List Int) (hlen : xs.length ≤ 100000) (Kc : Nat → Prop) (w : World) (hKc : ∀ k, Kc k → k < w.heap.size) (eg : ∀ args w, (callFunc gf args).run Tryz.prog w = .ok (.enter gf args) w)
    (hseq : SeqM Fence.wide (n - 1 - 1) Tryz.prog gf lb (fun x : Int => #[.int .i64 x]) Kc xs w) :
    CallsIn Fence.wide n Tryz.prog 91 #[.func (.func gf) #[] lb] w fun e W' => ∃ v, e = .returned v ∧ W'.ownsRow w.heap.size 3 1 v xs.length (ic xs) ∧ Below w.heap.size w W' := by
  have h1 : 1 ≤ n := by omega
  have HA := append_seq (n - 1) (by omega) gf lb xs hlen Kc w hKc eg hseq
  refine callsIn_of_wp Tryz.func91 rfl trivial ?_ rfl
  simp only [Tryz.ntmps91, List.size_toArray, List.length_cons, List.length_nil, Nat.reduceAdd, Nat.reduceSub, Array.replicate_succ, Array.replicate_zero, List.push_toArray, List.append_toArray, List.nil_append, List.cons_append]
  gi_wp2_with (refine ⟨trivial, ?_⟩; gi_at_call 109; refine HA.mono ?_; rintro e w1 ⟨v, rfl, hown, hbl⟩)
  go_ret
  exact ⟨v, rfl, hown, hbl⟩
section
variable {F : Fence} {n : Nat} {P : Program} {α : Type}
/-- An iterator hands out values, one by one, each list of them as Pre says, all of them as Fin says, to rounds that keep the blocks Kc, and what is no cells from where it began on. -/
def SeqG (F : Fence) (n : Nat) (P : Program) (g : Nat) (lb : Array Value) (encs : α → Array Value) (Kc : Nat → Prop) (Pre Fin : List α → Prop) (w : World) : Prop :=
  ∀ (l : Nat) (J : List α → World → Prop) (W : World), Below w.heap.size w W → AbidesFrom W.heap.size J →
    (∀ pre x W1, J pre W1 → Pre (pre ++ [x]) → YieldAt F (n - 1) P l (encs x) W1 fun e W' =>
      e = .returned (.bool true) ∧ J (pre ++ [x]) W' ∧ (∀ k, Kc k → W'.heap[k]? = W1.heap[k]?) ∧ KeepsFrom W.heap.size W1 W') →
    J [] W → CallsIn F n P g (#[.func (.yield l) #[] #[]] ++ lb) W fun e W' => (∃ v, e = .returned v) ∧ ∃ ss, Fin ss ∧ J ss W'
theorem rangeFunc_G {g : Operand} {ps : Array Tmp} {assign body : Code} {Q : Exit → Act → World → Prop} {a : Act} {w w0 : World} (hro : F.round = none) (h1 : 1 ≤ n) {gf : Nat} {lb : Array Value}
    (hg : a.eval g = .func (.func gf) #[] lb) (hFg : F.fn gf) (eg : ∀ args w, (callFunc gf args).run P w = .ok (.enter gf args) w) {encs : α → Array Value} {Kc : Nat → Prop} {Pre Fin : List α → Prop}
    (hseq : SeqG F (n - 1) P gf lb encs Kc Pre Fin w0) (hb0 : Below w0.heap.size w0 w) (hps : ∀ x, (encs x).size = ps.size) (hKc : ∀ k, Kc k → k < w.heap.size)
    (I : List α → World → Prop) (hI : OwnFrom w.heap.size I) (h0 : I [] w) (a₁ : α → Nat → Act) (ob : α → Obj)
    (hassign : ∀ (l : Nat) (x : α) (W : World) (K : Act → World → Prop), K (a₁ x W.heap.size) (W.alloc (ob x)) →
      assign.wpIn (F.inRound l) (n - 1 - 1) P (Exit.then K (fun _ _ _ => False)) { tmps := (ps.zip (encs x)).foldl (fun t (p, v) => t.setIfInBounds p v) a.tmps, defers := [] } W)
    (hbody : ∀ (l : Nat) (pre : List α) (x : α) (W : World), ∀ b0, I pre W → Pre (pre ++ [x]) → w.heap.size ≤ b0 → W.heap[b0]? = some (ob x) → body.wpIn (F.inRound l) (n - 1 - 1) P (roundM w.heap.size Kc I (pre ++ [x]) W) (a₁ x b0) W)
    (hdone : ∀ (D : Nat) (W : World) (ss : List α), w.heap.size ≤ D → Fin ss → I ss W → W.heap[D]? = some (.deferred (some [])) → Q .normal { a with defers := { target := .collected D, args := #[] } :: a.defers } W) :
    (Code.rangeFunc g ps assign body).wpIn F n P Q a w := by
  refine wpIn_rangeFunc fun fn hfn => ?_
  rw [hro]
  obtain ⟨b, hb⟩ : ∃ b, b = w.heap.size := ⟨_, rfl⟩
  obtain ⟨rec, hrec⟩ : ∃ rec : LoopState → Loop, rec = fun st => { state := st, pending := none, fn, tmps := a.tmps, params := ps, assign, body, defers := b } := ⟨_, rfl⟩
  obtain ⟨V, hV⟩ : ∃ V, V = (w.alloc (.deferred (some []))).alloc (.loop (rec .ready)) := ⟨_, rfl⟩
  have hVs : V.heap.size = b + 2 := by rw [hV, hb]; simp
  have hVl : V.heap[b + 1]? = some (.loop (rec .ready)) := by
    have := World.alloc_heap_new (w.alloc (.deferred (some []))) (.loop (rec .ready))
    rw [World.size_alloc] at this
    rw [hV, hb]; exact this
  have hVd : V.heap[b]? = some (.deferred (some [])) := by
    rw [hV, hb]
    exact (Below.heap_alloc _ _ _ (by simp)).trans (World.alloc_heap_new w _)
  have hIV : I [] V := by rw [hV]; exact hI.alloc _ (hI.alloc _ h0)
  have hbV : Below w0.heap.size w0 V := by
    rw [hV]; exact hb0.trans ((((Below.refl _ w).alloc (Nat.le_refl _) _).alloc (by simp) _).mono hb0.size)
  refine ⟨b + 1, [{ target := .collected b, args := #[] }], V, { target := .fn (.func gf) lb, args := #[.func (.yield (b + 1)) #[] #[]] }, V, gf, #[.func (.yield (b + 1)) #[] #[]] ++ lb, V, ?_, ?_, ?_, ?_, fun _ => h1, ?_⟩
  · rw [hV, hrec, hb]; exact run_enterLoop_outer _ _ _ _ _
  · simp only [resolve, hg]
    simp [go_sem]
  · intro f' hf'; simp [Target.leads] at hf'; subst hf'; exact hFg
  · simp [invoke, go_sem, eg]
  · refine (hseq (b + 1) (fun pre W => I pre W ∧ W.heap[b + 1]? = some (.loop (rec .ready)) ∧ W.heap[b]? = some (.deferred (some []))) V hbV
      (fun s A B row hs hgr hrow => ⟨hI s A B row hs.1 hgr (fun r e => by
          obtain ⟨q1, o, q2, q3⟩ := hrow r e
          exact ⟨by omega, o, q2, by cases o <;> first | rfl | cases q3⟩), (grownBy_keeps hgr (fun r e => (hrow r e).2) hs.2.1 rfl).trans hs.2.1, (grownBy_keeps hgr (fun r e => (hrow r e).2) hs.2.2 rfl).trans hs.2.2⟩) ?_ ⟨hIV, hVl, hVd⟩).mono ?_
    · rintro pre x W ⟨hi, hl, hk⟩ hpre
      have hlt : b + 1 < W.heap.size := (Array.getElem?_eq_some_iff.1 hl).1
      have hy := run_yield (P := P) (args := encs x) hl (by rw [hrec]; exact hps x)
      rw [hrec] at hy
      obtain ⟨Wa, hWa⟩ : ∃ Wa, Wa = W.alloc (ob x) := ⟨_, rfl⟩
      have hla : Wa.heap[b + 1]? = some (.loop (rec .ready)) := by rw [hWa]; exact (Below.heap_alloc _ _ _ hlt).trans hl
      have hka : Wa.heap[b]? = some (.deferred (some [])) := by rw [hWa]; exact (Below.heap_alloc _ _ _ (by omega)).trans hk
      have hia : I pre Wa := by rw [hWa]; exact hI.alloc _ hi
      have hna : Wa.heap[W.heap.size]? = some (ob x) := by rw [hWa]; exact World.alloc_heap_new W _
      have hza : Wa.heap.size = W.heap.size + 1 := by rw [hWa]; simp
      refine ⟨fn, _, assign, body, hy, roundIn_of_wpIn hfn (hassign _ x W _ ⟨_, run_beginRound (by rw [← hWa]; exact hla) (by rw [hrec]), ?_⟩)⟩
      rw [← hWa]
      obtain ⟨V2, hV2⟩ : ∃ V2, V2 = Wa.putObj (b + 1) (.loop { rec .ready with state := .busy }) := ⟨_, rfl⟩
      have hl2 : V2.heap[b + 1]? = some (.loop { rec .ready with state := .busy }) := by rw [hV2]; exact World.putObj_heap_same (by omega)
      have hk2 : V2.heap[b]? = some (.deferred (some [])) := by rw [hV2]; exact (World.putObj_heap_other (by omega)).trans hka
      have hi2 : I pre V2 := by rw [hV2]; exact hI.putObj _ hia (by omega) hla rfl
      have hn2 : V2.heap[W.heap.size]? = some (ob x) := by rw [hV2]; exact (World.putObj_heap_other (by omega)).trans hna
      rw [← hV2]
      refine wpIn_mono (hbody _ pre x _ _ hi2 hpre (by omega) hn2) ?_
      rintro e a3 W3 hp
      cases e with
      | normal =>
        obtain ⟨hk3, hc3, hi3⟩ := hp
        have hl3 := hk3.same _ _ (by omega) hl2 rfl
        have hd3 := hk3.same _ _ (by omega) hk2 rfl
        have hr := run_endRound (P := P) none hl3
        rw [hrec] at hr hl3
        refine ⟨_, _, hr, rfl, ⟨hI.putObj _ hi3 (by omega) hl3 rfl, ?_, (World.putObj_heap_other (by omega)).trans hd3⟩, fun k hkc => ?_, ?_⟩
        · rw [hrec]; exact World.putObj_heap_same (Array.getElem?_eq_some_iff.1 hl3).1
        · have := hKc k hkc
          rw [World.putObj_heap_other (by omega), hc3 k hkc, hV2, World.putObj_heap_other (by omega), hWa, Below.heap_alloc _ _ _ (by omega)]
        · refine ⟨?_, fun k o hB hko ho => ?_⟩
          · have := hk3.size
            rw [hV2] at this
            simp at this ⊢
            omega
          · rw [hVs] at hB
            rw [World.putObj_heap_other (by omega)]
            have hkl : k < W.heap.size := (Array.getElem?_eq_some_iff.1 hko).1
            exact hk3.same k o (by omega) (by rw [hV2, World.putObj_heap_other (by omega), hWa, Below.heap_alloc _ _ _ hkl]; exact hko) ho
      | ret => exact hp.elim
      | exit id => exact hp.elim
      | goto t => exact hp.elim
      | panic ch => exact hp.elim
      | outgrown => exact hp.elim
    · rintro e W2 ⟨⟨v, rfl⟩, ss, hf, hi, hl, hk⟩
      have := run_endLoop (P := P) hl (by rw [hrec]; simp)
      rw [hrec] at this
      exact ⟨none, _, this, hdone _ _ ss (by omega) hf (hI.putObj _ hi (by omega) hl rfl) ((World.putObj_heap_other (by omega)).trans hk)⟩
end
end Go.Proofs.YtkjamheoihlekaaGreat

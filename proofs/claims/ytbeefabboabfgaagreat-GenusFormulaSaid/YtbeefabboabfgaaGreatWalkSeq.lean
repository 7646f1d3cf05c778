/- border.Walk: a loop's vertices, one by one. -/
import Derived.RangeFuncNested
import Derived.RangeFuncBound
import Derived.RangeFuncCalls
import Derived.RangeFuncLeaves
import Derived.Shelf.Abstract
import Derived.Shelf.RegionOpen
import Derived.WalkKit
import Derived.OwnWalkIn
import Derived.TacticsInMore
import Derived.LoopNIn
import Derived.LoopIn
import Derived.Sort.LoopGhostIn
import Derived.Test.YtbeefabboabfgaaGreatRangeM
import Derived.Test.YtbeefabboabfgaaGreatBehind
namespace Go.Proofs.YtbeefabboabfgaaGreat
set_option linter.unusedVariables false
set_option linter.unusedSimpArgs false
open Go.RowKit Go.Shelf
attribute [local go_sem] Oper.semAt_some
theorem zero_int0 : ∀ w, (zeroValue 3).run Tryz.prog w = .ok (.int .i64 0) w := fun _ => by kernel_rfl
theorem look_yes {E : List (Int × Int)} {w : World} {m cn : Nat} (h : MapIs intFam w m cn (behC E)) {v : Int} (hv : I64 v) (ho : OneIn E) (hm : v ∈ E.map Prod.snd) :
    (Instr.lookup 124 (.map (some m)) (.int .i64 v) true).run Tryz.prog w = .ok (.tuple #[.int .i64 (sg E v), .bool true]) w ∧ (Instr.lookup 124 (.map (some m)) (.int .i64 v) false).run Tryz.prog w = .ok (.int .i64 (sg E v)) w := by
  have e : behC E v = some (.int .i64 (sg E v)) := by
    unfold behC
    rw [nextB_of ho.ends (ho.sg_mem hm)]
    rfl
  have h1 := h.look 124 3 (by kernel_rfl) zero_int0 v hv true
  have h2 := h.look 124 3 (by kernel_rfl) zero_int0 v hv false
  rw [e] at h1 h2
  exact ⟨h1, h2⟩
theorem look_no {E : List (Int × Int)} {w : World} {m cn : Nat} (h : MapIs intFam w m cn (behC E)) {v : Int} (hv : I64 v) (hm : v ∉ E.map Prod.snd) :
    (Instr.lookup 124 (.map (some m)) (.int .i64 v) true).run Tryz.prog w = .ok (.tuple #[.int .i64 0, .bool false]) w := by
  have e : behC E v = none := by
    unfold behC
    rw [nextB_none.2 hm]
    rfl
  have h1 := h.look 124 3 (by kernel_rfl) zero_int0 v hv true
  rw [e] at h1
  exact h1
theorem MapIs.keeps {w w' : World} {m n B : Nat} {C : Int → Option Value} (h : MapIs intFam w m n C) (hk : KeepsFrom B w w') (hB : B ≤ m) : MapIs intFam w' m n C := by
  obtain ⟨es, clock, h1, h2⟩ := h
  exact ⟨es, clock, hk.same m _ hB h1 rfl, h2⟩
theorem cell_same {w w' : World} {k : Nat} (h : w'.heap[k]? = w.heap[k]?) (i : Nat) : w'.cell? ⟨k, i, none⟩ = w.cell? ⟨k, i, none⟩ := by simp [World.cell?, h]
theorem pre_range {f : Nat → Int} {k p : Nat} (h : k < p) : (List.range k).map f ++ [f k] <+: (List.range p).map f := by
  have e : (List.range k).map f ++ [f k] = (List.range (k + 1)).map f := by rw [List.range_succ, List.map_append]; rfl
  obtain ⟨d, rfl⟩ : ∃ d, p = k + 1 + d := ⟨p - (k + 1), by omega⟩
  rw [e, show List.range (k + 1 + d) = List.range (k + 1) ++ (List.range d).map (k + 1 + ·) from List.range_add, List.map_append]
  exact List.prefix_append _ _
set_option maxRecDepth 100000 in
set_option maxHeartbeats 2000000 in
theorem walk_any (n p : Nat) (v : Int) (w : World) :
    CallsIn Fence.wide n Tryz.prog 49 #[.pointer (some ⟨p, 0, none⟩), .int .i64 v] w fun e w' => e = .returned (.func (.func 78) #[] #[.pointer (some ⟨w.heap.size, 0, none⟩), .pointer (some ⟨w.heap.size + 1, 0, none⟩)]) ∧
      w' = (w.alloc (.cells #[.pointer (some ⟨p, 0, none⟩)] 26)).alloc (.cells #[.int .i64 v] 3) := by
  refine callsIn_of_wp Tryz.func49 rfl trivial ?_ rfl
  simp only [Tryz.ntmps49, List.size_toArray, List.length_cons, List.length_nil, Nat.reduceAdd, Nat.reduceSub, Array.replicate_succ, Array.replicate_zero, List.push_toArray, List.append_toArray, List.nil_append, List.cons_append]
  gi_wp2
  go_ret
  exact ⟨rfl, rfl⟩
set_option maxRecDepth 100000 in
set_option maxHeartbeats 2000000 in
theorem walk_seq (n : Nat) (hn : 1 ≤ n) (p : Nat) (N : Int) (T : List Tr) (hs : Surf N T) (b1 b2 : Nat) (v : Int) (hv : I64 v) (w : World) (hb1 : b1 < w.heap.size) (hb2 : b2 < w.heap.size)
    (c1 : w.cell? ⟨b1, 0, none⟩ = some (.pointer (some ⟨p, 0, none⟩))) (c2 : w.cell? ⟨b2, 0, none⟩ = some (.int .i64 v)) (h : Tab w p N T) :
    SeqM Fence.wide n Tryz.prog 78 #[.pointer (some ⟨b1, 0, none⟩), .pointer (some ⟨b2, 0, none⟩)] (fun x : Int => #[.int .i64 x]) (fun k => k = b1 ∨ k = b2) (orb (bordE T (3 * T.length)) v) w := by
  intro l J W hW hJ hY h0
  obtain ⟨E, hE⟩ : ∃ E, E = bordE T (3 * T.length) := ⟨_, rfl⟩
  have HBE := Lib.hid (behind_ok p N T W (h.mono (Nat.le_refl _) hW) hs)
  rw [← hE] at HBE hY ⊢
  have hone : OneIn E := by rw [hE]; exact hs.oneIn
  have x1 := (hW.cell (p := ⟨b1, 0, none⟩) hb1).trans c1
  have hlt1 : b1 < W.heap.size := by have := hW.size; omega
  have hlt2 : b2 < W.heap.size := by have := hW.size; omega
  have hc2W := (hW.cell (p := ⟨b2, 0, none⟩) hb2).trans c2
  have HC2 := Lib.hid (show ∀ X, Below W.heap.size W X → X.cell? ⟨b2, 0, none⟩ = some (.int .i64 v) from fun X hX => (hX.cell (p := ⟨b2, 0, none⟩) hlt2).trans hc2W)
  have HJ := Lib.hid hJ
  have HY := Lib.hid hY
  have H0 := Lib.hid h0
  have HONE := Lib.hid hone
  have HEE := Lib.hid hE
  clear hJ hY h0 h hE hone hc2W c1 c2 hb1 hb2
  refine callsIn_of_wp Tryz.func78 rfl trivial ?_ rfl
  simp only [Tryz.ntmps78, List.size_toArray, List.length_cons, List.length_nil, Nat.reduceAdd, Nat.reduceSub, Array.replicate_succ, Array.replicate_zero, List.push_toArray, List.append_toArray, List.nil_append, List.cons_append]
  by_cases hvS : v ∈ E.map Prod.snd
  case neg =>
    have HN := Lib.hid hvS
    clear hvS
    gi_wp2_with (refine ⟨trivial, ?_⟩; gi_at_call 79; refine (callsIn_wide.2 HBE.out).mono ?_; rintro e w1 ⟨m, cn, rfl, hm, hmap, hbl⟩; have y2 := HC2.out w1 hbl; have hlk := look_no hmap hv HN.out; have HEND := Lib.hid (HJ.out [] W w1 H0.out (below_grown hbl)); clear hmap hbl hm)
    refine ⟨fun _ h => (by cases h), ?_⟩
    gi_wp2
    refine bodyPost_ret (results_none rfl _ _ _) rfl ?_
    exact ⟨⟨_, rfl⟩, by rw [orb_nil HN.out]; exact HEND.out⟩
  case pos =>
  obtain ⟨q, hq⟩ := HONE.out.per hvS
  have hio : ∀ k, I64 (it E k v) := fun k => by
    have hm := HONE.out.it_in hvS k
    have h1 := hs.bord_in (u := it E k v) (by rw [← HEE.out]; exact hm)
    have h2 := hs.n1
    constructor <;> omega
  have HIO := Lib.hid hio
  have HQ := Lib.hid hq
  have HS := Lib.hid hvS
  have ho := orb_eq hvS hq
  rw [ho] at HY ⊢
  have HP := Lib.hid (show ∀ k, k < q → (List.range k).map (fun i => it E i v) ++ [it E k v] <+: (List.range q).map (fun i => it E i v) from fun k hk => pre_range hk)
  have hq1 := hq.pos
  clear hio hq hvS ho
  gi_wp2_with (refine ⟨trivial, ?_⟩; gi_at_call 79; refine (callsIn_wide.2 HBE.out).mono ?_; rintro e w1 ⟨m, cn, rfl, hm, hmap, hbl⟩; have y2 := HC2.out w1 hbl; have hlk := (look_yes hmap hv HONE.out HS.out).1; obtain ⟨fn, tmps, assign, body, hy, hR⟩ := HY.out [] v w1 (HJ.out [] W w1 H0.out (below_grown hbl)) (HP.out 0 (by omega)); dsimp only at hy; have HMP := Lib.hid hmap; have HMM := Lib.hid hm; clear hmap hbl hm)
  refine hR.mono ?_
  rintro e W3 ⟨rfl, hJ3, hK3, hKF3⟩
  have HM3 := Lib.hid (HMP.out.keeps hKF3 HMM.out)
  have HC3 := Lib.hid ((cell_same (hK3 b2 (.inr rfl)) 0).trans y2)
  have HJ3 := Lib.hid hJ3
  clear hJ3 hK3 hKF3 hy hlk y2 hR x1
  gi_wp2
  gi_loopg [5] (q - 1) (fun g u wr => ∃ k, g = q - k ∧ 1 ≤ k ∧ k ≤ q ∧ u = .int .i64 (it E k v) ∧ J ((List.range k).map fun i => it E i v) wr ∧ MapIs intFam wr m cn (behC E) ∧ wr.cell? ⟨b2, 0, none⟩ = some (.int .i64 v))
  case atStart => exact ⟨1, rfl, Nat.le_refl _, hq1, rfl, HJ3.out, HM3.out, HC3.out⟩
  case round =>
  clear HJ3 HM3 HC3
  obtain ⟨k, hg, hk1, hkq, rfl, hJk, hMk, hCk⟩ := hrel
  obtain ⟨X, rfl⟩ : ∃ X : World, X = wr := ⟨_, rfl⟩
  have HJK := Lib.hid hJk
  have HMK := Lib.hid hMk
  have HG := Lib.hid hg
  obtain ⟨u, hu⟩ : ∃ u, u = it E k v := ⟨_, rfl⟩
  rw [← hu]
  clear hJk hMk hg
  by_cases hke : k = q
  case pos =>
    have huv : u = v := by rw [hu, hke]; exact HQ.out.back
    have d0 : (u != v) = false := by simp [huv]
    have d1 : (u == v) = true := by simp [huv]
    have HEND := Lib.hid (show J ((List.range q).map fun i => it E i v) X from by have := HJK.out; rwa [hke] at this)
    clear huv hu
    gi_wp2
    go_end0
    exact ⟨⟨_, rfl⟩, HEND.out⟩
  case neg =>
  have huv : u ≠ v := by rw [hu]; exact HQ.out.least k hk1 (by omega)
  have d0 : (u != v) = true := by simp [bne, huv]
  have d1 : (u == v) = false := by simpa using huv
  obtain ⟨fn, tmps, assign, body, hy, hR⟩ := HY.out _ (it E k v) X HJK.out (HP.out k (by omega))
  try dsimp only at hy
  rw [← hu] at hy
  have HU := Lib.hid hu
  clear huv hu
  gi_wp2
  refine hR.mono ?_
  rintro e W4 ⟨rfl, hJ4, hK4, hKF4⟩
  have hM4 := HMK.out.keeps hKF4 HMM.out
  have hlk := (look_yes hM4 (HIO.out k) HONE.out (HONE.out.it_in HS.out k)).2
  rw [← HU.out] at hlk
  have HM4 := Lib.hid hM4
  have HC4 := Lib.hid ((cell_same (hK4 b2 (.inr rfl)) 0).trans hCk)
  have HJ4 := Lib.hid (show J ((List.range (k + 1)).map fun i => it E i v) W4 from by rw [List.range_succ, List.map_append]; exact hJ4)
  have HSG := Lib.hid (show sg E u = it E (k + 1) v from by rw [HU.out]; rfl)
  clear hJ4 hK4 hKF4 hy hM4 hR d0 d1
  gi_wp2
  gi_roundg (q - (k + 1))
  case rel => exact ⟨k + 1, rfl, by omega, by omega, by rw [HSG.out], HJ4.out, HM4.out, HC4.out⟩
  case measure => have := HG.out; omega
end Go.Proofs.YtbeefabboabfgaaGreat

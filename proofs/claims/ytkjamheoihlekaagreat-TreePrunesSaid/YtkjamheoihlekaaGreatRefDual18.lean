/- gypsumref18.Dual: contract. -/
import Derived.Test.YtkjamheoihlekaaGreatRefTree1
import Derived.Test.YtkjamheoihlekaaGreatTreeReach
namespace Go.Proofs.YtkjamheoihlekaaGreat
set_option linter.unusedVariables false
set_option linter.unusedSimpArgs false
open Go.RowKit
set_option maxHeartbeats 1000000 in
theorem is10_in (N : Int) (ao : Option Addr) (cap len : Nat) (c : Nat) (w : World) (hl : len ≤ 10000) (hc : c < 3 * len) :
    Calls Tryz.prog 38 #[.agg #[.int .i64 N, .slice ao len cap], .int .i64 c] w fun e w' => e = .returned (.bool true) ∧ Below w.heap.size w w' := by
  have g1 : decide ((c : Int) ≥ 0) = true := by simp
  have g2 : decide ((c : Int) < 3 * (len : Int)) = true := by simp; omega
  have hw : IntKind.i64.wrap (3 * (len : Int)) = 3 * (len : Int) := IntWalk.i64_in _ (by omega)
  have hb : Below w.heap.size w (w.alloc (.cells #[.int .i64 N, .slice ao len cap] 24)) := (Below.refl _ _).alloc (Nat.le_refl _) _
  clear hc
  go_enter Tryz.func38, Tryz.ntmps38
  go_wp2
  exact bodyPost_ret (v := .bool true) (by simp [results, Tryz.results38, go_sem]) rfl ⟨rfl, hb⟩
set_option maxHeartbeats 1000000 in
theorem is10_out (N : Int) (ao : Option Addr) (cap len : Nat) (c : Int) (w : World) (hl : len ≤ 10000) (hc : c < 0 ∨ 3 * (len : Int) ≤ c) :
    Calls Tryz.prog 38 #[.agg #[.int .i64 N, .slice ao len cap], .int .i64 c] w fun e w' => e = .returned (.bool false) ∧ Below w.heap.size w w' := by
  have hb : Below w.heap.size w (w.alloc (.cells #[.int .i64 N, .slice ao len cap] 24)) := (Below.refl _ _).alloc (Nat.le_refl _) _
  by_cases h0 : c < 0
  · have g1 : decide (c ≥ 0) = false := by simpa using h0
    clear hc h0
    go_enter Tryz.func38, Tryz.ntmps38
    go_wp2
    exact bodyPost_ret (v := .bool false) (by simp [results, Tryz.results38, go_sem]) rfl ⟨rfl, hb⟩
  · have g1 : decide (c ≥ 0) = true := by simpa using h0
    have g2 : decide (c < 3 * (len : Int)) = false := by simp; omega
    have hw : IntKind.i64.wrap (3 * (len : Int)) = 3 * (len : Int) := IntWalk.i64_in _ (by omega)
    clear hc h0
    go_enter Tryz.func38, Tryz.ntmps38
    go_wp2
    exact bodyPost_ret (v := .bool false) (by simp [results, Tryz.results38, go_sem]) rfl ⟨rfl, hb⟩
set_option maxHeartbeats 400000 in
theorem next10_none (w : World) : Calls Tryz.prog 39 #[.int .i64 (-1)] w fun e w' => e = .returned (.int .i64 0) ∧ w = w' := by
  go_enter Tryz.func39, Tryz.ntmps39
  go_wp2
  go_ret
  exact ⟨rfl, rfl⟩
/-- Numbers at the head of a block that may be longer. -/
def LRow (X : World) (g : Nat) (f : Nat → Int) (n : Nat) : Prop := ∃ ys, RowIs X g 3 ys ∧ ∀ i, i < n → ys[i]? = some (.int .i64 (f i))
section
variable {X Y : World} {g n : Nat} {f : Nat → Int}
theorem LRow.lt (h : LRow X g f n) : g < X.heap.size := by obtain ⟨ys, h1, -⟩ := h; exact h1.lt
theorem LRow.cell (h : LRow X g f n) {i : Nat} (hi : i < n) : X.cell? ⟨g, i, none⟩ = some (.int .i64 (f i)) := by obtain ⟨ys, h1, h2⟩ := h; exact h1.cell (h2 i hi)
theorem LRow.free (h : LRow X g f n) (i : Nat) : X.frozen? ⟨g, i, none⟩ = false := by obtain ⟨ys, h1, h2⟩ := h; exact h1.free i
theorem LRow.after (h : LRow X g f n) (hb : Below X.heap.size X Y) : LRow Y g f n := by obtain ⟨ys, h1, h2⟩ := h; exact ⟨ys, h1.after hb, h2⟩
theorem LRow.grown (h : LRow X g f n) {row : Option Nat} (hg : X.grownBy Y row) (hne : some g ≠ row) : LRow Y g f n := by obtain ⟨ys, h1, h2⟩ := h; exact ⟨ys, h1.grown hg hne, h2⟩
theorem LRow.set (h : LRow X g f n) (x : Nat) (v : Int) : LRow (X.setCell ⟨g, x, none⟩ (.int .i64 v)) g (fun j => if j = x then v else f j) n := by
  obtain ⟨ys, h1, h2⟩ := h
  refine ⟨_, h1.set x (.int .i64 v), fun i hi => ?_⟩
  have := h2 i hi
  rw [List.getElem?_set]
  by_cases e : x = i
  · subst e
    have hl : x < ys.length := (List.getElem?_eq_some_iff.1 this).1
    simp [hl]
  · rw [if_neg e, this]
    simp only [if_neg (fun h : i = x => e h.symm)]
theorem LRow.ints (h : LRow X g f n) : IntsAt X (some ⟨g, 0, none⟩) ((List.range n).map f) := fun _ => ⟨g, 0, rfl, h.lt, fun i hi => by
  have hi' : i < n := by simpa using hi
  have e : I! ((List.range n).map f) i = f i := by simp [I!, hi']
  rw [e, Nat.zero_add]
  exact h.cell hi'⟩
theorem LRow.congr {k : Nat → Int} (h : LRow X g f n) (e : ∀ i, f i = k i) : LRow X g k n := by
  obtain rfl : f = k := funext e
  exact h
theorem rowis_ints (h : RowIs X g 3 (iv f n)) : IntsAt X (some ⟨g, 0, none⟩) ((List.range n).map f) := LRow.ints ⟨_, h, fun _ hi => iv_get f hi⟩
end
/-- What gypsumref18.Dual has laid while it fills the links. -/
structure RF1 (w X : World) (B bl : Nat) (N : Int) (ao : Option Addr) (F cap : Nat) (vl : Value) (i : Nat) : Prop where
  eB : w.heap.size = B
  low : Below B w X
  box : RowIs X B 24 [.int .i64 N, .slice ao F cap]
  th : RowIs X (bl + 1) 4 (bv (fun _ => false) F)
  l : X.ownsRow bl 3 1 vl i (iv (fun _ => -1) i)
  hbl : B < bl
  sz : bl + 2 ≤ X.heap.size
/-- While it goes. -/
structure RD2 (w X : World) (B gi : Nat) (N : Int) (ao : Option Addr) (F cap gl bo : Nat) (vo : Value) (β : Nat → Bool) (φ : Nat → Int) (O : List Nat) : Prop where
  eB : w.heap.size = B
  low : Below B w X
  box : RowIs X B 24 [.int .i64 N, .slice ao F cap]
  th : RowIs X gi 4 (bv β F)
  l : LRow X gl φ F
  o : X.ownsRow bo 3 1 vo O.length (nv O)
  h0 : B < gi
  h1 : B < gl
  h2 : gl < bo
  h3 : gi < bo
  hne : gi ≠ gl
  sz : bo ≤ X.heap.size
section
variable {w X Y : World} {B bl gi : Nat} {N : Int} {ao : Option Addr} {F cap gl bo : Nat} {vl vo : Value} {β : Nat → Bool} {φ : Nat → Int} {O : List Nat} {i : Nat}
theorem iv_snoc (f : Nat → Int) (n : Nat) : iv f (n + 1) = iv f n ++ [.int .i64 (f n)] := by simp [iv, List.range_succ]
theorem own_not18 {g : Nat} {e e' : TypeId} {sz n : Nat} {v : Value} {xs ys : List Value} (h : w.ownsRow B e sz v n xs) (k : RowIs w g e' ys) (hne : e ≠ e') : some g ≠ v.ownBlock := by
  intro e2
  rcases h.2 with ⟨q, -⟩ | ⟨g1, cap1, cur1, rfl, -, hg1, -⟩
  · rw [q] at e2; cases e2
  simp only [Value.ownBlock, Option.some.injEq] at e2
  subst e2
  unfold RowIs at k
  rw [k] at hg1
  simp only [Option.some.injEq, Obj.cells.injEq] at hg1
  exact hne hg1.2.1.symm
theorem RF1.push (h : RF1 w X B bl N ao F cap vl i) {v' : Value} (ho : Y.ownsRow bl 3 1 v' (i + 1) (iv (fun _ => -1) i ++ [.int .i64 (-1)])) (hg : (X.alloc (.cells #[.int .i64 (-1)] 3)).grownBy Y vl.ownBlock) : RF1 w Y B bl N ao F cap v' (i + 1) := by
  have hb : Below X.heap.size X (X.alloc (.cells #[.int .i64 (-1)] 3)) := (Below.refl _ _).alloc (Nat.le_refl _) _
  have hl := owns_below h.l hb
  have hsz := h.sz
  have hbl := h.hbl
  refine ⟨h.eB, ((h.low.alloc (by omega) _).grown hg (by simp; omega) (fun q hq => by have := (h.l.lt q hq).1; omega)), (h.box.after hb).grown hg (own_not18 hl (h.box.after hb) (by decide)), (h.th.after hb).grown hg (own_not18 hl (h.th.after hb) (by decide)), ?_, hbl, by have := hg.size; simp at this; omega⟩
  rw [iv_snoc]
  exact ho
theorem RD2.more (h : RD2 w X B gi N ao F cap gl bo vo β φ O) (hb : Below X.heap.size X Y) : RD2 w Y B gi N ao F cap gl bo vo β φ O :=
  ⟨h.eB, below_more h.low hb (by have := h.box.lt; omega), h.box.after hb, h.th.after hb, h.l.after hb, owns_below h.o hb, h.h0, h.h1, h.h2, h.h3, h.hne, by have := hb.size; have := h.sz; omega⟩
theorem RD2.congr {β' : Nat → Bool} {φ' : Nat → Int} (h : RD2 w X B gi N ao F cap gl bo vo β φ O) (hb : ∀ j, β j = β' j) (hf : ∀ j, φ j = φ' j) : RD2 w X B gi N ao F cap gl bo vo β' φ' O := by
  obtain rfl : β = β' := funext hb
  obtain rfl : φ = φ' := funext hf
  exact h
theorem RD2.seti (h : RD2 w X B gi N ao F cap gl bo vo β φ O) (k : Nat) (b : Bool) : RD2 w (X.setCell ⟨gi, k, none⟩ (.bool b)) B gi N ao F cap gl bo vo (fun j => if j = k then b else β j) φ O := by
  have hg := grown_set X gi k (.bool b)
  have h0 := h.h0; have h1 := h.h1; have h2 := h.h2; have h3 := h.h3; have hn := h.hne; have hs := h.sz
  refine ⟨h.eB, h.low.grown hg (by omega) (fun q hq => by cases hq; omega), h.box.grown hg (by simp; omega), ?_, h.l.grown hg (by simp; omega), h.o.kept hg (owns_off h.o (by omega)), h0, h1, h2, h3, hn, by have := hg.size; omega⟩
  rw [← bv_set18]
  exact h.th.set k (.bool b)
theorem RD2.setl (h : RD2 w X B gi N ao F cap gl bo vo β φ O) (k : Nat) (x : Int) : RD2 w (X.setCell ⟨gl, k, none⟩ (.int .i64 x)) B gi N ao F cap gl bo vo β (fun j => if j = k then x else φ j) O := by
  have hg := grown_set X gl k (.int .i64 x)
  have h0 := h.h0; have h1 := h.h1; have h2 := h.h2; have h3 := h.h3; have hn := h.hne; have hs := h.sz
  exact ⟨h.eB, h.low.grown hg (by omega) (fun q hq => by cases hq; omega), h.box.grown hg (by simp; omega), h.th.grown hg (by simp; omega), h.l.set k x, h.o.kept hg (owns_off h.o (by omega)), h0, h1, h2, h3, hn, by have := hg.size; omega⟩
theorem RD2.push (h : RD2 w X B gi N ao F cap gl bo vo β φ O) {v' : Value} {n x : Nat} (ho : Y.ownsRow bo 3 1 v' n (nv (O ++ [x]))) (hn : n = (O ++ [x]).length) (hg : X.grownBy Y vo.ownBlock) : RD2 w Y B gi N ao F cap gl bo v' β φ (O ++ [x]) := by
  have h0 := h.h0; have h1 := h.h1; have h2 := h.h2; have h3 := h.h3; have hs := h.sz
  have off : ∀ b, b < bo → some b ≠ vo.ownBlock := fun b hb q => by have := (h.o.lt b q.symm).1; omega
  refine ⟨h.eB, h.low.grown hg (by omega) (fun q hq => by have := (h.o.lt q hq).1; omega), h.box.grown hg (off _ (by omega)), h.th.grown hg (off _ (by omega)), h.l.grown hg (off _ (by omega)), ?_, h0, h1, h2, h3, h.hne, by have := hg.size; omega⟩
  rw [← hn]
  exact ho
end
/-- The state s. -/
def RDB (w X : World) (B gi : Nat) (N : Int) (ao : Option Addr) (F cap gl bo : Nat) (vo : Value) (s : BfS) : Prop := RD2 w X B gi N ao F cap gl bo vo (fun t => decide (t ∈ s.o)) s.l s.o
/-- What gypsumref18.Dual comes to. -/
def RDualP (T : List Tr) (f : Nat) (w : World) (e : Ending) (w' : World) : Prop :=
  ∃ al cl ao cap, e = .returned (.tuple #[.slice al T.length cl, .slice ao (bfs T f).o.length cap]) ∧ IntsAt w' al ((List.range T.length).map (bfs T f).l) ∧ IntsAt w' ao ((bfs T f).o.map fun (x : Nat) => (x : Int)) ∧ Below w.heap.size w w'
/-- The sides are gone over one by one. -/
theorem overs_take (T : List Tr) (s : BfS) (cs : List Nat) {k c : Nat} (hc : cs[k]? = some c) : (cs.take (k + 1)).foldl (overB T) s = overB T ((cs.take k).foldl (overB T) s) c := by
  rw [List.take_add_one, hc, List.foldl_append]
  rfl
set_option maxRecDepth 100000 in
set_option maxHeartbeats 4000000 in
theorem rdual18 (N : Int) (ao : Option Addr) (cap : Nat) (T : List Tr) (f : Nat) (w : World) (hT : TrisAt w ao T) (hs : Surf N T) (hf : f < 3 * T.length) :
    Calls Tryz.prog 13 #[.agg #[.int .i64 N, .slice ao T.length cap], .int .i64 f] w (RDualP T f w) := by
  obtain ⟨i0, hi0, hz0, hz1, hz2⟩ := info_parts info3
  obtain ⟨i1, hi1, hy0, hy1, hy2⟩ := info_parts info4
  have ht1 := hs.t1
  obtain ⟨F, hF⟩ : ∃ F, F = T.length := ⟨_, rfl⟩
  obtain ⟨B, hB⟩ : ∃ B, B = w.heap.size := ⟨_, rfl⟩
  rw [← hF] at ht1 hf ⊢
  obtain ⟨W0, hW0⟩ : ∃ W0, W0 = w.alloc (.cells #[.int .i64 N, .slice ao F cap] 24) := ⟨_, rfl⟩
  have hb0 : Below B w W0 := by rw [hW0, hB]; exact (Below.refl _ _).alloc (Nat.le_refl _) _
  have hr0 : RowIs W0 B 24 [.int .i64 N, .slice ao F cap] := by rw [hW0, hB]; exact RowIs.made w 24 [.int .i64 N, .slice ao F cap]
  have c0 := hr0.cell (i := 0) rfl
  have c1 := hr0.cell (i := 1) rfl
  have HT := Lib.hid hT
  have HS := Lib.hid hs
  have HF := Lib.hid hF
  have HBB := Lib.hid hB
  have HW0 := Lib.hid hW0
  have HB0 := Lib.hid hb0
  have HR0 := Lib.hid hr0
  have HIS := Lib.hid (is10_in N ao cap F f W0 (by omega) hf)
  have hF1 : 1 ≤ F := by omega
  clear hT hs hF hB hW0 hb0 hr0
  go_enter Tryz.func13, Tryz.ntmps13
  go_upto_region 1 with fail
  simp only [← HBB.out]
  rw [← HW0.out]
  go_wp2_with fail
  refine HIS.out.mono ?_
  rintro e w1 ⟨rfl, hb1⟩
  have hbw1 := below_more HB0.out hb1 (by have := HR0.out.lt; omega)
  have hr1 := HR0.out.after hb1
  obtain ⟨bl, hbl⟩ : ∃ b, b = w1.heap.size := ⟨_, rfl⟩
  obtain ⟨W2, hW2⟩ : ∃ W2, W2 = w1.alloc (.cells #[] 3) := ⟨_, rfl⟩
  have hb2 : Below w1.heap.size w1 W2 := by rw [hW2]; exact (Below.refl _ _).alloc (Nat.le_refl _) _
  have hlit : W2.ownsRow bl 3 1 (.slice (some ⟨bl, 0, none⟩) 0 0) 0 (iv (fun _ => -1) 0) := by
    rw [hW2, hbl]
    exact World.ownsRow_made w1 #[] 0 (Nat.le_refl _) (Nat.zero_le _) rfl
  have hr2 := hr1.after hb2
  have hbw2 := below_more hbw1 hb2 (by have := hr1.lt; omega)
  have hs2 : W2.heap.size = bl + 1 := by rw [hW2, hbl]; simp
  have x0 := hr2.cell (i := 0) rfl
  have x1 := hr2.cell (i := 1) rfl
  have HBL := Lib.hid hbl
  have HW2 := Lib.hid hW2
  have HLIT := Lib.hid hlit
  have HR2 := Lib.hid hr2
  have HBW2 := Lib.hid hbw2
  have HS2 := Lib.hid hs2
  have HBLT := Lib.hid (show B < bl from by rw [hbl]; exact hr1.lt)
  clear c0 c1 hb1 hbw1 hr1 hbl hW2 hb2 hlit hr2 hbw2 hs2 HIS
  go_upto_region 4 with fail
  simp only [← HBL.out]
  rw [← HW2.out]
  go_wp2_with (at_make; refine wpList_make_full _ rfl _ _ _ rfl W2.heap.size 4 i1 (.bool false) 1 (by kernel_rfl) hi1 hy0 hy1 _ _ _ _ F rfl rfl rfl rfl (by rw [hy2]; omega) (by unfold maxLen; omega) (Nat.le_refl _) ?_)
  intro w3 hown hgrow
  rw [madeCells_bv] at hown
  have hrow := RowIs.of_owns hown
  rw [HS2.out] at hrow
  have hb3 : Below W2.heap.size W2 w3 := (Below.refl _ _).grown hgrow (Nat.le_refl _) (by simp)
  have HR3 := Lib.hid (show RF1 w w3 B bl N ao F cap (.slice (some ⟨bl, 0, none⟩) 0 0) 0 from
    ⟨HBB.out.symm, below_more HBW2.out hb3 (by have := HR2.out.lt; omega), HR2.out.after hb3, hrow, owns_below HLIT.out hb3, HBLT.out, by have := hrow.lt; omega⟩)
  simp only [HS2.out]
  clear hown hgrow hrow hb3 x0 x1 HLIT HR2 HBW2 HS2
  go_wp2
  go_loopw [6, 8] (fun vl iv' ws => ∃ i : Nat, i ≤ F ∧ iv' = .int .i64 i ∧ RF1 w ws B bl N ao F cap vl i) (fun _ iv' _ => F - (intOf iv').toNat)
  case atStart => exact ⟨0, by omega, rfl, HR3.out⟩
  case round =>
  clear HR3
  obtain ⟨i, hi, rfl, hr⟩ := hrel
  obtain ⟨X, rfl⟩ : ∃ X : World, X = wr := ⟨_, rfl⟩
  have x0 := hr.box.cell (i := 0) rfl
  have x1 := hr.box.cell (i := 1) rfl
  obtain ⟨va, vc, rfl⟩ := owns_slice hr.l
  have HR := Lib.hid hr
  by_cases hlt : i < F
  case pos =>
    have HAL := Lib.hid (hr.l.alloc (.cells #[.int .i64 (-1)] 3))
    have HQ1 := Lib.hid (show i + 1 ≤ maxLen by unfold maxLen; omega)
    have HQ2 := Lib.hid (show (i + 1) * 8 ≤ 140737488355328 by omega)
    have HQ3 := Lib.hid (show bl ≤ (X.alloc (.cells #[.int .i64 (-1)] 3)).heap.size by have := hr.sz; simp; omega)
    clear hr
    go_wp2_with (at_builtin; refine wpList_append_lies _ rfl _ _ 28 rfl bl 3 i0 (.int .i64 0) 1 8 (by kernel_rfl) hi0 hz0 hz1 hz2 rfl (by decide) _ _ _ rfl HAL.out ⟨X.heap.size, 0, none⟩ 1 1 [.int .i64 (-1)] rfl rfl (World.news_of_block (heap_alloc_new X _)) (by intro u hu; simp at hu; subst hu; rfl) (by decide) HQ1.out HQ2.out HQ3.out _ rfl ?_)
    intro g2 cap2 X2 hown2 hgr2 hat2 hlt2
    have HN := Lib.hid (HR.out.push hown2 hgr2)
    clear hown2 hgr2 hat2 hlt2 HAL
    go_wp2
    go_roundw
    case rel => exact ⟨i + 1, by omega, by go_num, HN.out⟩
    case measure => simp [intOf]; omega
  case neg =>
  obtain rfl : F = i := by omega
  obtain ⟨gl, capl, hvl, hgl, hglt, -, -, -, -⟩ := owns_block hr.l (by omega)
  simp only [Value.slice.injEq, true_and] at hvl
  obtain ⟨rfl, rfl⟩ := hvl
  have hlr : LRow X gl (fun _ => -1) F := by
    have h1 := hr.l
    rcases h1.2 with ⟨-, h2⟩ | ⟨g', cap', cur, hv, hg, hh, hc, hm, hs', ht⟩
    · omega
    · simp only [Value.slice.injEq, Option.some.injEq, Addr.mk.injEq, and_true, true_and] at hv
      obtain ⟨rfl, rfl⟩ := hv
      refine ⟨cur.toList, by unfold RowIs; rw [hh], fun k hk => ?_⟩
      have hu := iv_get (fun _ => (-1 : Int)) hk
      rw [← ht, List.getElem?_take] at hu
      split at hu
      · exact hu
      · cases hu
  have hne : bl + 1 ≠ gl := fun e => by
    have := own_not18 hr.l hr.th (by decide)
    rw [e] at this
    exact this rfl
  obtain ⟨t0, ht0⟩ : ∃ t, t = f / 3 := ⟨_, rfl⟩
  have hf3 : t0 < F := by omega
  have hq : Int.tdiv (f : Int) 3 = (t0 : Int) := by rw [Int.tdiv_eq_ediv_of_nonneg (by omega)]; omega
  have hkw : IntKind.i64.wrap (t0 : Int) = (t0 : Int) := IntWalk.i64_in _ (by omega)
  have bk : (0 : Int) ≤ (t0 : Int) ∧ (t0 : Int) < (F : Int) := by omega
  obtain ⟨bo, hbo⟩ : ∃ b, b = X.heap.size := ⟨_, rfl⟩
  obtain ⟨X1, hX1⟩ : ∃ X1, X1 = X.alloc (.cells #[.int .i64 (t0 : Int)] 3) := ⟨_, rfl⟩
  have hb1 : Below X.heap.size X X1 := by rw [hX1]; exact (Below.refl _ _).alloc (Nat.le_refl _) _
  have ho1 : X1.ownsRow bo 3 1 (.slice (some ⟨bo, 0, none⟩) 1 1) 1 (nv [t0]) := by
    rw [hX1, hbo]
    exact RowIs.owns (size := 1) (n := 1) (base := X.heap.size) (RowIs.made X 3 [.int .i64 (t0 : Int)]) (Nat.le_refl _) (by simp) (by unfold maxLen; omega)
  have hR1 : RD2 w X1 B (bl + 1) N ao F cap gl bo (.slice (some ⟨bo, 0, none⟩) 1 1) (fun _ => false) (fun _ => -1) [t0] :=
    ⟨hr.eB, below_more hr.low hb1 (by have := hr.box.lt; omega), hr.box.after hb1, hr.th.after hb1, hlr.after hb1, ho1, by have := hr.hbl; omega, by have := hr.hbl; omega, by omega, by have := hr.sz; omega, hne, by rw [hX1, hbo]; simp⟩
  have z2 := hR1.th.cell (i := t0) (v := .bool false) (by simp [bv, hf3])
  have z3 := hR1.th.free t0
  have hR2 := hR1.seti t0 true
  obtain ⟨X2, hX2⟩ : ∃ X2, X2 = X1.setCell ⟨bl + 1, t0, none⟩ (.bool true) := ⟨_, rfl⟩
  rw [← hX2] at hR2
  have HS0 := Lib.hid (show RDB w X2 B (bl + 1) N ao F cap gl bo (.slice (some ⟨bo, 0, none⟩) 1 1) (initB f) from by
    unfold RDB
    have h := hR2
    rw [ht0] at h
    exact h.congr (fun j => by by_cases e : j = f / 3 <;> simp [e, initB]) (fun j => rfl))
  have HBI := Lib.hid (show ∀ j, BfI T f (bfsB T f j) from fun j => bfs_inv HS.out (by rw [← HF.out]; exact hf) j)
  have HBO := Lib.hid hbo
  have HX1 := Lib.hid hX1
  have HX2 := Lib.hid hX2
  have HFL := Lib.hid hf
  have HTT := Lib.hid (show ∀ X, Below B w X → TrisAt X ao T from fun X hX => HT.out.mono (B := B) (by rw [HBB.out]; exact Nat.le_refl _) hX)
  have HNF := Lib.hid (show ∀ w', Calls Tryz.prog 39 #[.int .i64 (f : Int)] w' fun e w'' => e = .returned (.int .i64 (nxn f : Nat)) ∧ w' = w'' from fun w' => next10 f w' (by omega))
  have HPF := Lib.hid (show ∀ w', Calls Tryz.prog 40 #[.int .i64 (f : Int)] w' fun e w'' => e = .returned (.int .i64 (pvn f : Nat)) ∧ w' = w'' from fun w' => prev10 f w' (by omega))
  have HOP := Lib.hid (show ∀ (w' : World) (c : Nat), TrisAt w' ao T → c < 3 * F → Calls Tryz.prog 41 #[.agg #[.int .i64 N, .slice ao F cap], .int .i64 (c : Int)] w' fun e w'' => e = .returned (.int .i64 (opp T (c : Nat))) ∧ Below w'.heap.size w' w'' from fun w' c h hc => by
    have := opp10 N ao cap T c w' h HS.out (by rw [← HF.out]; exact hc)
    rw [← HF.out] at this
    exact this)
  have HFN := Lib.hid (show ∀ i (Y : World) (o : Nat) (a : Option Addr) (c : Nat), (bfsB T f i).o.length = o → o ≤ i → RDB w Y B (bl + 1) N ao F cap gl bo (.slice a o c) (bfsB T f i) → RDualP T f w (.returned (.tuple #[.slice (some ⟨gl, 0, none⟩) F vc, .slice a o c])) Y from fun i Y o a c ho hoi h => by
    have hend : bfs T f = bfsB T f i := bfs_end HS.out (by rw [← HF.out]; exact HFL.out) (by omega)
    have ho2 := h.o
    rw [ho] at ho2
    refine ⟨some ⟨gl, 0, none⟩, vc, a, c, ?_, ?_, ?_, by rw [h.eB]; exact h.low⟩
    · rw [hend, ho, HF.out]
    · rw [hend, ← HF.out]; exact h.l.ints
    · rw [hend]
      exact owns_nl (by rw [ho]; exact ho2))
  clear hr hlr hne ht0 hbo hX1 hb1 ho1 hR1 hR2 hX2 HR hgl hglt hf
  go_upto_region 10 with fail
  simp only [← HBO.out]
  rw [← HX1.out]
  go_upto_region 11 with fail
  rw [← HX2.out]
  clear z2 z3 hq hkw bk x0 x1
  go_wp2
  go_loopw [9, 10] (fun ov iv' ws => ∃ i : Nat, iv' = .int .i64 i ∧ i ≤ (bfsB T f i).o.length ∧ RDB w ws B (bl + 1) N ao F cap gl bo ov (bfsB T f i)) (fun _ iv' _ => F - (intOf iv').toNat)
  case atStart => exact ⟨0, rfl, by omega, HS0.out⟩
  case round =>
  clear HS0
  obtain ⟨i, rfl, hio, hr⟩ := hrel
  obtain ⟨Y, rfl⟩ : ∃ Y : World, Y = wr := ⟨_, rfl⟩
  obtain ⟨vo, rfl⟩ : ∃ v, v = u9 := ⟨_, rfl⟩
  have hI := HBI.out i
  obtain ⟨on, hon⟩ : ∃ n, n = (bfsB T f i).o.length := ⟨_, rfl⟩
  have hof : on ≤ F := by rw [hon, HF.out]; exact hI.len
  obtain ⟨s, hs⟩ : ∃ s, s = bfsB T f i := ⟨_, rfl⟩
  have hr' := hr
  rw [← hs] at hI hr hio hon
  have hopos : 0 < on := by rw [hon]; exact List.length_pos_of_mem hI.hdm
  obtain ⟨g4, cap4, rfl, hg4, hg4l, -, -, hcl, -⟩ := owns_block hr.o (by omega)
  rw [← hon] at hr hr' hio ⊢
  have HR := Lib.hid hr
  have HON := Lib.hid hon
  have HSS := Lib.hid hs
  by_cases hlt : i < on
  case neg =>
    have HP := Lib.hid (HFN.out i Y on _ _ (by rw [hon, hs]) (by omega) hr')
    clear hr hr' hI hcl hon hs
    go_wp2
    exact bodyPost_ret (v := .tuple #[.slice (some ⟨gl, 0, none⟩) F vc, .slice (some ⟨g4, 0, none⟩) on cap4]) (by simp [results, Tryz.results13, go_sem]) rfl HP.out
  case pos =>
  have hmem : s.o.getD i 0 ∈ s.o := getD_mem18 (by rw [← hon]; exact hlt)
  have hgt : s.o[i]? = some (s.o.getD i 0) := by
    rw [List.getD_eq_getElem?_getD, List.getElem?_eq_getElem (by rw [← hon]; exact hlt)]
    rfl
  obtain ⟨t, ht⟩ : ∃ t, t = s.o.getD i 0 := ⟨_, rfl⟩
  rw [← ht] at hmem hgt
  have htF : t < F := by rw [HF.out]; exact hI.lt _ hmem
  have cc := hcl i _ (nv_get hgt)
  have cq := hr.l.cell (i := t) htF
  obtain ⟨lv, hlv⟩ : ∃ l, l = s.l t := ⟨_, rfl⟩
  rw [← hlv] at cq
  -- what stands at the sides
  obtain ⟨cs, hcs⟩ : ∃ cs, cs = sidesB f i s := ⟨_, rfl⟩
  have hside : ∀ c, c ∈ cs → c < 3 * F ∧ c / 3 ∈ s.o := fun c hc => by
    rw [hcs] at hc
    obtain ⟨e1, e2⟩ := hI.sides (by rw [← HF.out]; exact HFL.out) (by rw [← hon]; exact hlt) c hc
    exact ⟨by rw [HF.out]; exact e1, by rw [e2, ← ht]; exact hmem⟩
  have hstep : bfsB T f (i + 1) = cs.foldl (overB T) s := by
    show stepB T f i (bfsB T f i) = _
    rw [← hs, hcs]
    unfold stepB
    rw [if_pos (by rw [← hon]; exact hlt)]
  have hcase : ∃ (na nb : Nat) (γ : Bool), decide (lv < 0) = γ ∧ (∀ w', Calls Tryz.prog 39 #[.int .i64 lv] w' fun e w'' => e = .returned (.int .i64 (na : Int)) ∧ w' = w'') ∧ (∀ w', Calls Tryz.prog 39 #[.int .i64 (na : Int)] w' fun e w'' => e = .returned (.int .i64 (nb : Int)) ∧ w' = w'') ∧ cs = if γ then [f, nxn f, pvn f] else [na, nb] := by
    by_cases h0 : i = 0
    · have e0 : t = f / 3 := by
        rw [ht, h0, List.getD_eq_getElem?_getD, hI.hd]; rfl
      have e1 : lv = -1 := by rw [hlv, e0]; exact hI.rt
      refine ⟨0, 1, true, by rw [e1]; rfl, fun w' => by rw [e1]; exact next10_none w', fun w' => next10 0 w' (by omega), ?_⟩
      rw [hcs]; unfold sidesB; rw [if_pos h0]; rfl
    · have hnf : t ≠ f / 3 := by
        intro e
        have h0' : 0 < s.o.length := by rw [← hon]; omega
        have h00 := hI.hd
        rw [List.getElem?_eq_getElem h0'] at h00
        have hk' : i < s.o.length := by rw [← hon]; exact hlt
        rw [List.getElem?_eq_getElem hk'] at hgt
        have := nodup_get18 hI.nd hk' h0' (by rw [Option.some.inj hgt, e]; exact (Option.some.inj h00).symm)
        omega
      obtain ⟨q, hq, hq3, hqt, -⟩ := hI.lk _ hmem hnf
      have hqF : q < 3 * F := by rw [HF.out]; exact hq3
      refine ⟨nxn q, pvn q, false, by rw [hlv, hq]; simp, fun w' => by rw [hlv, hq]; exact next10 q w' (by omega), fun w' => ?_, ?_⟩
      · have := next10 (nxn q) w' (by have : nxn q < 3 * F := nxn_lt hqF; omega)
        have e : nxn (nxn q) = pvn q := by unfold nxn pvn; omega
        rw [e] at this
        exact this
      · rw [hcs]; unfold sidesB; rw [if_neg h0, ← ht, hq]; rfl
  obtain ⟨na, nb, γ, hγ, hn1, hn2, hcs2⟩ := hcase
  obtain ⟨m, hm⟩ : ∃ m, m = cs.length := ⟨_, rfl⟩
  have bi : (0 : Int) ≤ (i : Int) ∧ (i : Int) < (on : Int) := by omega
  have bt : (0 : Int) ≤ (t : Int) ∧ (t : Int) < (F : Int) := by omega
  have HI := Lib.hid hI
  have HSD := Lib.hid hside
  have HST := Lib.hid hstep
  have HN1 := Lib.hid hn1
  have HN2 := Lib.hid hn2
  have HC2 := Lib.hid hcs2
  have HM := Lib.hid hm
  have HLT := Lib.hid hlt
  have HG4 := Lib.hid (show bo ≤ g4 ∧ g4 < Y.heap.size from ⟨hg4, hg4l⟩)
  obtain ⟨sb0, hsb0⟩ : ∃ b, b = Y.heap.size := ⟨_, rfl⟩
  obtain ⟨W4, hW4⟩ : ∃ W4, W4 = Y.alloc (.cells #[.int .i64 (na : Int), .int .i64 (nb : Int)] 3) := ⟨_, rfl⟩
  have hb4 : Below Y.heap.size Y W4 := by rw [hW4]; exact (Below.refl _ _).alloc (Nat.le_refl _) _
  have HRW4 := Lib.hid (show RowIs W4 sb0 3 (nv [na, nb]) from by rw [hW4, hsb0]; exact RowIs.made Y 3 [.int .i64 (na : Int), .int .i64 (nb : Int)])
  have c4 := (hr.l.after hb4).cell (i := t) htF
  rw [← hlv] at c4
  have HB4 := Lib.hid hb4
  have HW4 := Lib.hid hW4
  have HSB0 := Lib.hid hsb0
  clear hr hr' hI hcl hon hs hmem hgt ht hlv hcs hside hstep hn1 hn2 hcs2 hm hlt hsb0 hW4 hb4 hg4l hg4
  go_wp2_with fail
  refine (HN1.out Y).mono ?_
  rintro e w' ⟨rfl, rfl⟩
  go_wp2_with fail
  refine (HN2.out Y).mono ?_
  rintro e w' ⟨rfl, rfl⟩
  go_upto_region 17 with fail
  rw [← HW4.out]
  simp only [← HSB0.out]
  go_upto_if 65 with fail
  go_cut [13, 66, 67, 68, 69, 70, 71] (fun s13 _ _ _ _ _ _ wc => ∃ sb, s13 = .slice (some ⟨sb, 0, none⟩) m m ∧ RowIs wc sb 3 (nv cs) ∧ g4 < sb ∧ Below Y.heap.size Y wc)
  case first =>
    cases γ
    case false =>
      have e : cs = [na, nb] := by rw [HC2.out]; rfl
      have em : m = 2 := by rw [HM.out, e]; rfl
      subst em
      clear c4
      go_wp2
      go_meet
      exact ⟨sb0, rfl, by rw [e]; exact HRW4.out, by rw [HSB0.out]; exact HG4.out.2, HB4.out⟩
    case true =>
      have e : cs = [f, nxn f, pvn f] := by rw [HC2.out]; rfl
      have em : m = 3 := by rw [HM.out, e]; rfl
      subst em
      clear c4
      go_wp2_with fail
      refine (HNF.out W4).mono ?_
      rintro e w' ⟨rfl, rfl⟩
      go_wp2_with fail
      refine (HPF.out W4).mono ?_
      rintro e w' ⟨rfl, rfl⟩
      go_wp2
      go_meet
      refine ⟨W4.heap.size, rfl, ?_, by have := HG4.out.2; have := HB4.out.size; omega, below_more HB4.out ((Below.refl _ _).alloc (Nat.le_refl _) _) HB4.out.size⟩
      rw [e]
      exact RowIs.made W4 3 [.int .i64 (f : Int), .int .i64 (nxn f : Nat), .int .i64 (pvn f : Nat)]
  case rest =>
  obtain ⟨Z, rfl⟩ : ∃ Z : World, Z = wc := ⟨_, rfl⟩
  obtain ⟨sb, rfl, hsr, hsb, hbZ⟩ := hcut
  have hRZ := HR.out.more hbZ
  have HRZ := Lib.hid hRZ
  have HSR := Lib.hid hsr
  have HON2 := Lib.hid (show on = s.o.length from HON.out)
  have hm3 : m ≤ 3 := by
    rw [HM.out, HC2.out]
    split <;> simp
  have HSB := Lib.hid (show ∀ q : Nat, (Value.slice (some ⟨g4, 0, none⟩) on cap4).ownBlock = some q → q ≠ sb from fun q hq => by
    simp only [Value.ownBlock, Option.some.injEq] at hq
    omega)
  have HSBO := Lib.hid (show bo < sb from by have := HG4.out.1; omega)
  clear c4 cc cq hsr hsb hbZ hRZ HRW4 HB4 HW4 HSB0 HR bi bt
  go_wp2
  go_loopw [9, 14] (fun ov kv ws => ∃ k : Nat, k ≤ m ∧ kv = .int .i64 k ∧ RDB w ws B (bl + 1) N ao F cap gl bo ov ((cs.take k).foldl (overB T) s) ∧ RowIs ws sb 3 (nv cs) ∧ ∀ q : Nat, ov.ownBlock = some q → q ≠ sb) (fun _ kv _ => m - (intOf kv).toNat)
  case atStart => exact ⟨0, by omega, rfl, by rw [HON.out] at HRZ ⊢; exact HRZ.out, HSR.out, HSB.out⟩
  case round =>
  clear HRZ HSR HSB
  obtain ⟨k, hk, rfl, hr, hsr, hsb⟩ := hrel
  obtain ⟨Z1, rfl⟩ : ∃ Z1 : World, Z1 = wr := ⟨_, rfl⟩
  obtain ⟨vo, rfl⟩ : ∃ v, v = u9 := ⟨_, rfl⟩
  obtain ⟨s2, hs2⟩ : ∃ s2, s2 = (cs.take k).foldl (overB T) s := ⟨_, rfl⟩
  rw [← hs2] at hr
  have hI2 : BfI T f s2 := by
    rw [hs2]
    exact overs_inv HS.out _ HI.out fun c hc => by
      have := HSD.out c (List.mem_of_mem_take hc)
      exact ⟨by rw [← HF.out]; exact this.1, this.2⟩
  have HR := Lib.hid hr
  have HSR := Lib.hid hsr
  have HSB := Lib.hid hsb
  have HS2 := Lib.hid hs2
  by_cases hkm : k < m
  case neg =>
    obtain rfl : m = k := by omega
    have HN := Lib.hid (show RDB w Z1 B (bl + 1) N ao F cap gl bo vo (bfsB T f (i + 1)) ∧ i + 1 ≤ (bfsB T f (i + 1)).o.length from by
      have e : cs.take m = cs := by rw [HM.out, List.take_length]
      have e2 : bfsB T f (i + 1) = s2 := by rw [HST.out, hs2, e]
      rw [e2]
      refine ⟨hr, ?_⟩
      have h1 := (bfs_ext T f (Nat.le_succ i)).o.length_le
      rw [e2, ← HSS.out, ← HON2.out] at h1
      have := HLT.out
      have h2 : i + 1 ≤ s2.o.length := by omega
      exact h2)
    have HLF := Lib.hid (show i < F from by have := HLT.out; omega)
    clear hr hsr hsb hs2 hI2
    go_wp2
    go_roundw
    case rel => exact ⟨i + 1, by go_num, HN.out.2, HN.out.1⟩
    case measure => simp [intOf]; have := HLF.out; omega
  case pos =>
  obtain ⟨c, hc⟩ : ∃ c, cs[k]? = some c := ⟨_, List.getElem?_eq_getElem (by rw [← HM.out]; exact hkm)⟩
  obtain ⟨hc3, hcm⟩ := HSD.out c (List.mem_of_getElem? hc)
  have hcm2 : c / 3 ∈ s2.o := by rw [hs2]; exact (overs_ext T _ s).o.subset hcm
  have hnx : (cs.take (k + 1)).foldl (overB T) s = overB T s2 c := by rw [hs2]; exact overs_take T s cs hc
  obtain ⟨ov, hov⟩ : ∃ x, x = opp T (c : Nat) := ⟨_, rfl⟩
  have HNX := Lib.hid hnx
  have HOV := Lib.hid hov
  have HIL := Lib.hid (show s2.o.length ≤ F from by rw [HF.out]; exact hI2.len)
  have HOC := Lib.hid (show ∀ w', Hid (Below Z1.heap.size Z1 w') → Calls Tryz.prog 41 #[.agg #[.int .i64 N, .slice ao F cap], .int .i64 (c : Int)] w' fun e w'' => e = .returned (.int .i64 ov) ∧ Hid (Below Z1.heap.size Z1 w'') from fun w' h => by
    rw [hov]
    exact (HOP.out w' c (HTT.out w' (below_more hr.low h.out (by have := hr.box.lt; omega))) hc3).mono fun e w'' h2 => ⟨h2.1, below_more h.out h2.2 h.out.size⟩)
  have HK := Lib.hid (show ∀ w', Hid (Below Z1.heap.size Z1 w') → w'.cell? ⟨B, 0, none⟩ = some (.int .i64 N) ∧ w'.cell? ⟨B, 1, none⟩ = some (.slice ao F cap) ∧ w'.cell? ⟨sb, k, none⟩ = some (.int .i64 (c : Int)) from fun w' h => ⟨(hr.box.after h.out).cell (i := 0) rfl, (hr.box.after h.out).cell (i := 1) rfl, (hsr.after h.out).cell (nv_get hc)⟩)
  have HRF := Lib.hid (Below.refl Z1.heap.size Z1)
  have HDR := Lib.hid (show Below Z1.heap.size Z1 Z1.drew from ⟨rfl, rfl, rfl, Nat.le_refl _, fun _ _ => rfl⟩)
  have bkm : (0 : Int) ≤ (k : Int) ∧ (k : Int) < (m : Int) := by omega
  have HOO := Lib.hid (show ∀ o : Nat, ov = (o : Int) → o < 3 * F from fun o ho => by
    obtain ⟨o', ho', h1, -⟩ := HS.out.opp_opp (c := c) (by rw [← HF.out]; exact hc3) (by rw [← hov, ho]; omega)
    rw [← hov, ho] at ho'
    rw [HF.out]
    omega)
  clear hr hsr hsb hs2 hI2 hc hc3 hcm hcm2 hnx hov
  go_upto_region 22 with fail
  go_region_held3 (fun w' => w'.cell? ⟨B, 0, none⟩ = some (.int .i64 N) ∧ w'.cell? ⟨B, 1, none⟩ = some (.slice ao F cap) ∧ w'.cell? ⟨sb, k, none⟩ = some (.int .i64 (c : Int)))
    (exact HK.out _ (by assumption))
    (first | (go_at_call 41; (with_reducible refine (HOC.out _ (by assumption)).mono ?_); rintro e w2 ⟨rfl, hb2⟩))
  have hR := HR.out.more hb2.out
  have HSR2 := Lib.hid (HSR.out.after hb2.out)
  by_cases h0 : 0 ≤ ov
  case neg =>
    have g1 : decide (ov ≥ 0) = false := by simpa using h0
    have HN := Lib.hid (show RDB w w2 B (bl + 1) N ao F cap gl bo vo ((cs.take (k + 1)).foldl (overB T) s) from by
      have e : overB T s2 c = s2 := by
        unfold overB
        rw [← HOV.out, if_neg (fun q => h0 q.1)]
      rw [HNX.out, e]
      exact hR)
    clear hR hb2
    go_wp2
    go_roundw
    case rel => exact ⟨k + 1, by omega, by go_num, HN.out, HSR2.out, HSB.out⟩
    case measure => simp [intOf]; omega
  case pos =>
  obtain ⟨o, rfl⟩ := Int.eq_ofNat_of_zero_le h0
  have ho3 := HOO.out o rfl
  have g1 : decide ((o : Int) ≥ 0) = true := by simp
  obtain ⟨t2, ht2⟩ : ∃ t, t = o / 3 := ⟨_, rfl⟩
  have ht2F : t2 < F := by omega
  have hq : Int.tdiv (o : Int) 3 = (t2 : Int) := by rw [Int.tdiv_eq_ediv_of_nonneg (by omega)]; omega
  have hkw : IntKind.i64.wrap (t2 : Int) = (t2 : Int) := IntWalk.i64_in _ (by omega)
  have bt2 : (0 : Int) ≤ (t2 : Int) ∧ (t2 : Int) < (F : Int) := by omega
  have z2 := hR.th.cell (i := t2) (v := .bool (decide (t2 ∈ s2.o))) (bv_get _ ht2F)
  have HT2 := Lib.hid ht2
  by_cases hm2 : t2 ∈ s2.o
  case pos =>
    rw [decide_eq_true hm2] at z2
    have HN := Lib.hid (show RDB w w2 B (bl + 1) N ao F cap gl bo vo ((cs.take (k + 1)).foldl (overB T) s) from by
      have e : overB T s2 c = s2 := by
        unfold overB
        rw [← HOV.out, if_neg (fun q => q.2 (by rw [Int.toNat_natCast, ← ht2]; exact hm2))]
      rw [HNX.out, e]
      exact hR)
    clear hR hb2 hm2 ht2
    go_wp2
    go_roundw
    case rel => exact ⟨k + 1, by omega, by go_num, HN.out, HSR2.out, HSB.out⟩
    case measure => simp [intOf]; omega
  case neg =>
  rw [decide_eq_false hm2] at z2
  have z3 := hR.th.free t2
  have hR3 := hR.seti t2 true
  obtain ⟨Z3, hZ3⟩ : ∃ Z, Z = w2.setCell ⟨bl + 1, t2, none⟩ (.bool true) := ⟨_, rfl⟩
  rw [← hZ3] at hR3
  have y2 := hR3.l.cell (i := t2) ht2F
  have y3 := hR3.l.free t2
  have hR4 := hR3.setl t2 (o : Int)
  obtain ⟨Z4, hZ4⟩ : ∃ Z, Z = Z3.setCell ⟨gl, t2, none⟩ (.int .i64 (o : Int)) := ⟨_, rfl⟩
  rw [← hZ4] at hR4
  have hg3 : w2.grownBy Z3 (some (bl + 1)) := by rw [hZ3]; exact grown_set _ _ _ _
  have hg4' : Z3.grownBy Z4 (some gl) := by rw [hZ4]; exact grown_set _ _ _ _
  obtain ⟨va, vc, rfl⟩ := owns_slice hR4.o
  obtain ⟨ol, hol⟩ : ∃ n, n = s2.o.length := ⟨_, rfl⟩
  rw [← hol] at HSB HIL ⊢
  have hba : Below Z4.heap.size Z4 (Z4.alloc (.cells #[.int .i64 (t2 : Int)] 3)) := (Below.refl _ _).alloc (Nat.le_refl _) _
  have hR5 := hR4.more hba
  have HR5 := Lib.hid hR5
  have HAL := Lib.hid (show (Z4.alloc (.cells #[.int .i64 (t2 : Int)] 3)).ownsRow bo 3 1 (.slice va ol vc) ol (nv s2.o) from by rw [hol]; exact hR5.o)
  have HQ1 := Lib.hid (show ol + 1 ≤ maxLen by have := HIL.out; unfold maxLen; omega)
  have HQ2 := Lib.hid (show (ol + 1) * 8 ≤ 140737488355328 by have := HIL.out; omega)
  have HQ3 := Lib.hid hR5.sz
  have HZ3 := Lib.hid hZ3
  have HZ4 := Lib.hid hZ4
  have HS4 := Lib.hid (show RowIs (Z4.alloc (.cells #[.int .i64 (t2 : Int)] 3)) sb 3 (nv cs) from ((HSR2.out.grown hg3 (by have := HSBO.out; have := hR.h3; simp; omega)).grown hg4' (by have := HSBO.out; have := hR.h2; simp; omega)).after hba)
  have HNO := Lib.hid (show ∀ (g cp : Nat) (Y' : World), Y'.ownsRow bo 3 1 (.slice (some ⟨g, 0, none⟩) (ol + 1) cp) (ol + 1) (nv s2.o ++ [.int .i64 (t2 : Int)]) → (Z4.alloc (.cells #[.int .i64 (t2 : Int)] 3)).grownBy Y' (Value.slice va ol vc).ownBlock → RDB w Y' B (bl + 1) N ao F cap gl bo (.slice (some ⟨g, 0, none⟩) (ol + 1) cp) ((cs.take (k + 1)).foldl (overB T) s) from fun g cp Y' ho hg => by
    have hp := HR5.out.push (x := t2) (n := ol + 1) (by rw [nv_snoc]; exact ho) (by rw [List.length_append, ← hol]; rfl) (by rw [← hol]; exact hg)
    have e : overB T s2 c = ⟨s2.o ++ [t2], fun t => if t = t2 then (o : Int) else s2.l t, fun t => if t = t2 then s2.d (c / 3) + 1 else s2.d t⟩ := by
      unfold overB
      rw [← HOV.out, Int.toNat_natCast, ← HT2.out, if_pos ⟨by omega, hm2⟩]
    rw [HNX.out, e]
    exact hp.congr (fun j => by by_cases e : j = t2 <;> simp [e]) (fun j => rfl))
  clear hR hb2 hR3 hR4 hR5 hba hZ3 hZ4 hg3 hg4' hol hm2 ht2 HR5 HR h0
  go_upto_region 25 with fail
  rw [← HZ3.out]
  go_upto_region 26 with fail
  rw [← HZ4.out]
  clear y2 y3 z2 z3
  go_wp2_with (at_builtin; refine wpList_append_lies _ rfl _ _ 28 rfl bo 3 i0 (.int .i64 0) 1 8 (by kernel_rfl) hi0 hz0 hz1 hz2 rfl (by decide) _ _ _ rfl HAL.out ⟨Z4.heap.size, 0, none⟩ 1 1 [.int .i64 (t2 : Int)] rfl rfl (World.news_of_block (heap_alloc_new Z4 _)) (by intro u hu; simp at hu; subst hu; rfl) (by decide) HQ1.out HQ2.out HQ3.out _ rfl ?_)
  intro g2 cap2 Y2 hown2 hgr2 hat2 hlt2
  have HN := Lib.hid (HNO.out g2 cap2 Y2 hown2 hgr2)
  have HSY := Lib.hid (show RowIs Y2 sb 3 (nv cs) from HS4.out.grown hgr2 fun q => HSB.out sb q.symm rfl)
  have HSN := Lib.hid (show ∀ q : Nat, (Value.slice (some ⟨g2, 0, none⟩) (ol + 1) cap2).ownBlock = some q → q ≠ sb from fun q hq => by
    simp only [Value.ownBlock, Option.some.injEq] at hq
    subst hq
    rcases hat2 with h | h
    · exact HSB.out _ h
    · have := HS4.out.lt
      simp only [World.size_alloc] at this h
      omega)
  clear hown2 hgr2 hat2 hlt2 HAL HS4 HNO HSB
  go_wp2
  go_roundw
  case rel => exact ⟨k + 1, by omega, by go_num, HN.out, HSY.out, HSN.out⟩
  case measure => simp [intOf]; omega
end Go.Proofs.YtkjamheoihlekaaGreat

/- gypsumref18.Dual: contract. gypsumref18.Less, Insert: contracts. gypsumref18.Rest: contract. -/
import Derived.Test.YtkjamheoihlekaaGreatRefTree1
import Derived.Test.YtkjamheoihlekaaGreatTreeReach
import Derived.Test.YtkjamheoihlekaaGreatInsLaw
import Derived.Test.YtkjamheoihlekaaGreatSurfDef
import Derived.Test.YtkjamheoihlekaaGreatTreeDel
import Derived.Test.YtkjamheoihlekaaGreatTreeRest
namespace Go.Proofs.YtkjamheoihlekaaGreat
set_option linter.unusedVariables false
set_option linter.unusedSimpArgs false
open Go.RowKit
set_option maxHeartbeats 1000000 in
theorem is10_in (N : Int) (ao : Option Addr) (cap len : Nat) (c : Nat) (w : World) (hl : len ≤ 10000) (hc : c < 3 * len) :
    Calls Tryz.prog 38 #[.agg #[.int .i64 N, .slice ao len cap], .int .i64 c] w fun e w' => e = .returned (.bool true) ∧ Below w.heap.size w w' := by
  have g1 : decide ((c : Int) ≥ 0) = true := by simp
  have g2 : decide ((c : Int) < 3 * (len : Int)) = true := by simp; omega
  have hw : IntKind.i64.wrap (3 * (len : Int)) = 3 * (len : Int) := IntWalk.i64_in _ (by omega)
  have hb : Below w.heap.size w (w.alloc (.cells #[.int .i64 N, .slice ao len cap] 24)) := (Below.refl _ _).alloc (Nat.le_refl _) _
  clear hc
  go_enter Tryz.func38, Tryz.ntmps38
  go_wp2
  exact bodyPost_ret (v := .bool true) (by simp [results, Tryz.results38, go_sem]) rfl ⟨rfl, hb⟩
set_option maxHeartbeats 1000000 in
theorem is10_out (N : Int) (ao : Option Addr) (cap len : Nat) (c : Int) (w : World) (hl : len ≤ 10000) (hc : c < 0 ∨ 3 * (len : Int) ≤ c) :
    Calls Tryz.prog 38 #[.agg #[.int .i64 N, .slice ao len cap], .int .i64 c] w fun e w' => e = .returned (.bool false) ∧ Below w.heap.size w w' := by
  have hb : Below w.heap.size w (w.alloc (.cells #[.int .i64 N, .slice ao len cap] 24)) := (Below.refl _ _).alloc (Nat.le_refl _) _
  by_cases h0 : c < 0
  · have g1 : decide (c ≥ 0) = false := by simpa using h0
    clear hc h0
    go_enter Tryz.func38, Tryz.ntmps38
    go_wp2
    exact bodyPost_ret (v := .bool false) (by simp [results, Tryz.results38, go_sem]) rfl ⟨rfl, hb⟩
  · have g1 : decide (c ≥ 0) = true := by simpa using h0
    have g2 : decide (c < 3 * (len : Int)) = false := by simp; omega
    have hw : IntKind.i64.wrap (3 * (len : Int)) = 3 * (len : Int) := IntWalk.i64_in _ (by omega)
    clear hc h0
    go_enter Tryz.func38, Tryz.ntmps38
    go_wp2
    exact bodyPost_ret (v := .bool false) (by simp [results, Tryz.results38, go_sem]) rfl ⟨rfl, hb⟩
set_option maxHeartbeats 400000 in
theorem next10_none (w : World) : Calls Tryz.prog 39 #[.int .i64 (-1)] w fun e w' => e = .returned (.int .i64 0) ∧ w = w' := by
  go_enter Tryz.func39, Tryz.ntmps39
  go_wp2
  go_ret
  exact ⟨rfl, rfl⟩
/-- Numbers at the head of a block that may be longer. -/
def LRow (X : World) (g : Nat) (f : Nat → Int) (n : Nat) : Prop := ∃ ys, RowIs X g 3 ys ∧ ∀ i, i < n → ys[i]? = some (.int .i64 (f i))
section
variable {X Y : World} {g n : Nat} {f : Nat → Int}
theorem LRow.lt (h : LRow X g f n) : g < X.heap.size := by obtain ⟨ys, h1, -⟩ := h; exact h1.lt
theorem LRow.cell (h : LRow X g f n) {i : Nat} (hi : i < n) : X.cell? ⟨g, i, none⟩ = some (.int .i64 (f i)) := by obtain ⟨ys, h1, h2⟩ := h; exact h1.cell (h2 i hi)
theorem LRow.free (h : LRow X g f n) (i : Nat) : X.frozen? ⟨g, i, none⟩ = false := by obtain ⟨ys, h1, h2⟩ := h; exact h1.free i
theorem LRow.after (h : LRow X g f n) (hb : Below X.heap.size X Y) : LRow Y g f n := by obtain ⟨ys, h1, h2⟩ := h; exact ⟨ys, h1.after hb, h2⟩
theorem LRow.grown (h : LRow X g f n) {row : Option Nat} (hg : X.grownBy Y row) (hne : some g ≠ row) : LRow Y g f n := by obtain ⟨ys, h1, h2⟩ := h; exact ⟨ys, h1.grown hg hne, h2⟩
theorem LRow.set (h : LRow X g f n) (x : Nat) (v : Int) : LRow (X.setCell ⟨g, x, none⟩ (.int .i64 v)) g (fun j => if j = x then v else f j) n := by
  obtain ⟨ys, h1, h2⟩ := h
  refine ⟨_, h1.set x (.int .i64 v), fun i hi => ?_⟩
  have := h2 i hi
  rw [List.getElem?_set]
  by_cases e : x = i
  · subst e
    have hl : x < ys.length := (List.getElem?_eq_some_iff.1 this).1
    simp [hl]
  · rw [if_neg e, this]
    simp only [if_neg (fun h : i = x => e h.symm)]
theorem LRow.ints (h : LRow X g f n) : IntsAt X (some ⟨g, 0, none⟩) ((List.range n).map f) := fun _ => ⟨g, 0, rfl, h.lt, fun i hi => by
  have hi' : i < n := by simpa using hi
  have e : I! ((List.range n).map f) i = f i := by simp [I!, hi']
  rw [e, Nat.zero_add]
  exact h.cell hi'⟩
theorem LRow.congr {k : Nat → Int} (h : LRow X g f n) (e : ∀ i, f i = k i) : LRow X g k n := by
  obtain rfl : f = k := funext e
  exact h
theorem rowis_ints (h : RowIs X g 3 (iv f n)) : IntsAt X (some ⟨g, 0, none⟩) ((List.range n).map f) := LRow.ints ⟨_, h, fun _ hi => iv_get f hi⟩
end
/-- What gypsumref18.Dual has laid while it fills the links. -/
structure RF1 (w X : World) (B bl : Nat) (N : Int) (ao : Option Addr) (F cap : Nat) (vl : Value) (i : Nat) : Prop where
  eB : w.heap.size = B
  low : Below B w X
  box : RowIs X B 24 [.int .i64 N, .slice ao F cap]
  th : RowIs X (bl + 1) 4 (bv (fun _ => false) F)
  l : X.ownsRow bl 3 1 vl i (iv (fun _ => -1) i)
  hbl : B < bl
  sz : bl + 2 ≤ X.heap.size
/-- While it goes. -/
structure RD2 (w X : World) (B gi : Nat) (N : Int) (ao : Option Addr) (F cap gl bo : Nat) (vo : Value) (β : Nat → Bool) (φ : Nat → Int) (O : List Nat) : Prop where
  eB : w.heap.size = B
  low : Below B w X
  box : RowIs X B 24 [.int .i64 N, .slice ao F cap]
  th : RowIs X gi 4 (bv β F)
  l : LRow X gl φ F
  o : X.ownsRow bo 3 1 vo O.length (nv O)
  h0 : B < gi
  h1 : B < gl
  h2 : gl < bo
  h3 : gi < bo
  hne : gi ≠ gl
  sz : bo ≤ X.heap.size
section
variable {w X Y : World} {B bl gi : Nat} {N : Int} {ao : Option Addr} {F cap gl bo : Nat} {vl vo : Value} {β : Nat → Bool} {φ : Nat → Int} {O : List Nat} {i : Nat}
theorem iv_snoc (f : Nat → Int) (n : Nat) : iv f (n + 1) = iv f n ++ [.int .i64 (f n)] := by simp [iv, List.range_succ]
theorem own_not18 {g : Nat} {e e' : TypeId} {sz n : Nat} {v : Value} {xs ys : List Value} (h : w.ownsRow B e sz v n xs) (k : RowIs w g e' ys) (hne : e ≠ e') : some g ≠ v.ownBlock := by
  intro e2
  rcases h.2 with ⟨q, -⟩ | ⟨g1, cap1, cur1, rfl, -, hg1, -⟩
  · rw [q] at e2; cases e2
  simp only [Value.ownBlock, Option.some.injEq] at e2
  subst e2
  unfold RowIs at k
  rw [k] at hg1
  simp only [Option.some.injEq, Obj.cells.injEq] at hg1
  exact hne hg1.2.1.symm
theorem RF1.push (h : RF1 w X B bl N ao F cap vl i) {v' : Value} (ho : Y.ownsRow bl 3 1 v' (i + 1) (iv (fun _ => -1) i ++ [.int .i64 (-1)])) (hg : (X.alloc (.cells #[.int .i64 (-1)] 3)).grownBy Y vl.ownBlock) : RF1 w Y B bl N ao F cap v' (i + 1) := by
  have hb : Below X.heap.size X (X.alloc (.cells #[.int .i64 (-1)] 3)) := (Below.refl _ _).alloc (Nat.le_refl _) _
  have hl := owns_below h.l hb
  have hsz := h.sz
  have hbl := h.hbl
  refine ⟨h.eB, ((h.low.alloc (by omega) _).grown hg (by simp; omega) (fun q hq => by have := (h.l.lt q hq).1; omega)), (h.box.after hb).grown hg (own_not18 hl (h.box.after hb) (by decide)), (h.th.after hb).grown hg (own_not18 hl (h.th.after hb) (by decide)), ?_, hbl, by have := hg.size; simp at this; omega⟩
  rw [iv_snoc]
  exact ho
theorem RD2.more (h : RD2 w X B gi N ao F cap gl bo vo β φ O) (hb : Below X.heap.size X Y) : RD2 w Y B gi N ao F cap gl bo vo β φ O :=
  ⟨h.eB, below_more h.low hb (by have := h.box.lt; omega), h.box.after hb, h.th.after hb, h.l.after hb, owns_below h.o hb, h.h0, h.h1, h.h2, h.h3, h.hne, by have := hb.size; have := h.sz; omega⟩
theorem RD2.congr {β' : Nat → Bool} {φ' : Nat → Int} (h : RD2 w X B gi N ao F cap gl bo vo β φ O) (hb : ∀ j, β j = β' j) (hf : ∀ j, φ j = φ' j) : RD2 w X B gi N ao F cap gl bo vo β' φ' O := by
  obtain rfl : β = β' := funext hb
  obtain rfl : φ = φ' := funext hf
  exact h
theorem RD2.seti (h : RD2 w X B gi N ao F cap gl bo vo β φ O) (k : Nat) (b : Bool) : RD2 w (X.setCell ⟨gi, k, none⟩ (.bool b)) B gi N ao F cap gl bo vo (fun j => if j = k then b else β j) φ O := by
  have hg := grown_set X gi k (.bool b)
  have h0 := h.h0; have h1 := h.h1; have h2 := h.h2; have h3 := h.h3; have hn := h.hne; have hs := h.sz
  refine ⟨h.eB, h.low.grown hg (by omega) (fun q hq => by cases hq; omega), h.box.grown hg (by simp; omega), ?_, h.l.grown hg (by simp; omega), h.o.kept hg (owns_off h.o (by omega)), h0, h1, h2, h3, hn, by have := hg.size; omega⟩
  rw [← bv_set18]
  exact h.th.set k (.bool b)
theorem RD2.setl (h : RD2 w X B gi N ao F cap gl bo vo β φ O) (k : Nat) (x : Int) : RD2 w (X.setCell ⟨gl, k, none⟩ (.int .i64 x)) B gi N ao F cap gl bo vo β (fun j => if j = k then x else φ j) O := by
  have hg := grown_set X gl k (.int .i64 x)
  have h0 := h.h0; have h1 := h.h1; have h2 := h.h2; have h3 := h.h3; have hn := h.hne; have hs := h.sz
  exact ⟨h.eB, h.low.grown hg (by omega) (fun q hq => by cases hq; omega), h.box.grown hg (by simp; omega), h.th.grown hg (by simp; omega), h.l.set k x, h.o.kept hg (owns_off h.o (by omega)), h0, h1, h2, h3, hn, by have := hg.size; omega⟩
theorem RD2.push (h : RD2 w X B gi N ao F cap gl bo vo β φ O) {v' : Value} {n x : Nat} (ho : Y.ownsRow bo 3 1 v' n (nv (O ++ [x]))) (hn : n = (O ++ [x]).length) (hg : X.grownBy Y vo.ownBlock) : RD2 w Y B gi N ao F cap gl bo v' β φ (O ++ [x]) := by
  have h0 := h.h0; have h1 := h.h1; have h2 := h.h2; have h3 := h.h3; have hs := h.sz
  have off : ∀ b, b < bo → some b ≠ vo.ownBlock := fun b hb q => by have := (h.o.lt b q.symm).1; omega
  refine ⟨h.eB, h.low.grown hg (by omega) (fun q hq => by have := (h.o.lt q hq).1; omega), h.box.grown hg (off _ (by omega)), h.th.grown hg (off _ (by omega)), h.l.grown hg (off _ (by omega)), ?_, h0, h1, h2, h3, h.hne, by have := hg.size; omega⟩
  rw [← hn]
  exact ho
end
/-- The state s. -/
def RDB (w X : World) (B gi : Nat) (N : Int) (ao : Option Addr) (F cap gl bo : Nat) (vo : Value) (s : BfS) : Prop := RD2 w X B gi N ao F cap gl bo vo (fun t => decide (t ∈ s.o)) s.l s.o
/-- What gypsumref18.Dual comes to. -/
def RDualP (T : List Tr) (f : Nat) (w : World) (e : Ending) (w' : World) : Prop :=
  ∃ al cl ao cap, e = .returned (.tuple #[.slice al T.length cl, .slice ao (bfs T f).o.length cap]) ∧ IntsAt w' al ((List.range T.length).map (bfs T f).l) ∧ IntsAt w' ao ((bfs T f).o.map fun (x : Nat) => (x : Int)) ∧ Below w.heap.size w w'
/-- The sides are gone over one by one. -/
theorem overs_take (T : List Tr) (s : BfS) (cs : List Nat) {k c : Nat} (hc : cs[k]? = some c) : (cs.take (k + 1)).foldl (overB T) s = overB T ((cs.take k).foldl (overB T) s) c := by
  rw [List.take_add_one, hc, List.foldl_append]
  rfl
set_option maxRecDepth 100000 in
set_option maxHeartbeats 4000000 in
theorem rdual18 (N : Int) (ao : Option Addr) (cap : Nat) (T : List Tr) (f : Nat) (w : World) (hT : TrisAt w ao T) (hs : Surf N T) (hf : f < 3 * T.length) :
    Calls Tryz.prog 13 #[.agg #[.int .i64 N, .slice ao T.length cap], .int .i64 f] w (RDualP T f w) := by
  obtain ⟨i0, hi0, hz0, hz1, hz2⟩ := info_parts info3
  obtain ⟨i1, hi1, hy0, hy1, hy2⟩ := info_parts info4
  have ht1 := hs.t1
  obtain ⟨F, hF⟩ : ∃ F, F = T.length := ⟨_, rfl⟩
  obtain ⟨B, hB⟩ : ∃ B, B = w.heap.size := ⟨_, rfl⟩
  rw [← hF] at ht1 hf ⊢
  obtain ⟨W0, hW0⟩ : ∃ W0, W0 = w.alloc (.cells #[.int .i64 N, .slice ao F cap] 24) := ⟨_, rfl⟩
  have hb0 : Below B w W0 := by rw [hW0, hB]; exact (Below.refl _ _).alloc (Nat.le_refl _) _
  have hr0 : RowIs W0 B 24 [.int .i64 N, .slice ao F cap] := by rw [hW0, hB]; exact RowIs.made w 24 [.int .i64 N, .slice ao F cap]
  have c0 := hr0.cell (i := 0) rfl
  have c1 := hr0.cell (i := 1) rfl
  have HT := Lib.hid hT
  have HS := Lib.hid hs
  have HF := Lib.hid hF
  have HBB := Lib.hid hB
  have HW0 := Lib.hid hW0
  have HB0 := Lib.hid hb0
  have HR0 := Lib.hid hr0
  have HIS := Lib.hid (is10_in N ao cap F f W0 (by omega) hf)
  have hF1 : 1 ≤ F := by omega
  clear hT hs hF hB hW0 hb0 hr0
  go_enter Tryz.func13, Tryz.ntmps13
  go_upto_region 1 with fail
  simp only [← HBB.out]
  rw [← HW0.out]
  go_wp2_with fail
  refine HIS.out.mono ?_
  rintro e w1 ⟨rfl, hb1⟩
  have hbw1 := below_more HB0.out hb1 (by have := HR0.out.lt; omega)
  have hr1 := HR0.out.after hb1
  obtain ⟨bl, hbl⟩ : ∃ b, b = w1.heap.size := ⟨_, rfl⟩
  obtain ⟨W2, hW2⟩ : ∃ W2, W2 = w1.alloc (.cells #[] 3) := ⟨_, rfl⟩
  have hb2 : Below w1.heap.size w1 W2 := by rw [hW2]; exact (Below.refl _ _).alloc (Nat.le_refl _) _
  have hlit : W2.ownsRow bl 3 1 (.slice (some ⟨bl, 0, none⟩) 0 0) 0 (iv (fun _ => -1) 0) := by
    rw [hW2, hbl]
    exact World.ownsRow_made w1 #[] 0 (Nat.le_refl _) (Nat.zero_le _) rfl
  have hr2 := hr1.after hb2
  have hbw2 := below_more hbw1 hb2 (by have := hr1.lt; omega)
  have hs2 : W2.heap.size = bl + 1 := by rw [hW2, hbl]; simp
  have x0 := hr2.cell (i := 0) rfl
  have x1 := hr2.cell (i := 1) rfl
  have HBL := Lib.hid hbl
  have HW2 := Lib.hid hW2
  have HLIT := Lib.hid hlit
  have HR2 := Lib.hid hr2
  have HBW2 := Lib.hid hbw2
  have HS2 := Lib.hid hs2
  have HBLT := Lib.hid (show B < bl from by rw [hbl]; exact hr1.lt)
  clear c0 c1 hb1 hbw1 hr1 hbl hW2 hb2 hlit hr2 hbw2 hs2 HIS
  go_upto_region 4 with fail
  simp only [← HBL.out]
  rw [← HW2.out]
  go_wp2_with (at_make; refine wpList_make_full _ rfl _ _ _ rfl W2.heap.size 4 i1 (.bool false) 1 (by kernel_rfl) hi1 hy0 hy1 _ _ _ _ F rfl rfl rfl rfl (by rw [hy2]; omega) (by unfold maxLen; omega) (Nat.le_refl _) ?_)
  intro w3 hown hgrow
  rw [madeCells_bv] at hown
  have hrow := RowIs.of_owns hown
  rw [HS2.out] at hrow
  have hb3 : Below W2.heap.size W2 w3 := (Below.refl _ _).grown hgrow (Nat.le_refl _) (by simp)
  have HR3 := Lib.hid (show RF1 w w3 B bl N ao F cap (.slice (some ⟨bl, 0, none⟩) 0 0) 0 from
    ⟨HBB.out.symm, below_more HBW2.out hb3 (by have := HR2.out.lt; omega), HR2.out.after hb3, hrow, owns_below HLIT.out hb3, HBLT.out, by have := hrow.lt; omega⟩)
  simp only [HS2.out]
  clear hown hgrow hrow hb3 x0 x1 HLIT HR2 HBW2 HS2
  go_wp2
  go_loopw [6, 8] (fun vl iv' ws => ∃ i : Nat, i ≤ F ∧ iv' = .int .i64 i ∧ RF1 w ws B bl N ao F cap vl i) (fun _ iv' _ => F - (intOf iv').toNat)
  case atStart => exact ⟨0, by omega, rfl, HR3.out⟩
  case round =>
  clear HR3
  obtain ⟨i, hi, rfl, hr⟩ := hrel
  obtain ⟨X, rfl⟩ : ∃ X : World, X = wr := ⟨_, rfl⟩
  have x0 := hr.box.cell (i := 0) rfl
  have x1 := hr.box.cell (i := 1) rfl
  obtain ⟨va, vc, rfl⟩ := owns_slice hr.l
  have HR := Lib.hid hr
  by_cases hlt : i < F
  case pos =>
    have HAL := Lib.hid (hr.l.alloc (.cells #[.int .i64 (-1)] 3))
    have HQ1 := Lib.hid (show i + 1 ≤ maxLen by unfold maxLen; omega)
    have HQ2 := Lib.hid (show (i + 1) * 8 ≤ 140737488355328 by omega)
    have HQ3 := Lib.hid (show bl ≤ (X.alloc (.cells #[.int .i64 (-1)] 3)).heap.size by have := hr.sz; simp; omega)
    clear hr
    go_wp2_with (at_builtin; refine wpList_append_lies _ rfl _ _ 28 rfl bl 3 i0 (.int .i64 0) 1 8 (by kernel_rfl) hi0 hz0 hz1 hz2 rfl (by decide) _ _ _ rfl HAL.out ⟨X.heap.size, 0, none⟩ 1 1 [.int .i64 (-1)] rfl rfl (World.news_of_block (heap_alloc_new X _)) (by intro u hu; simp at hu; subst hu; rfl) (by decide) HQ1.out HQ2.out HQ3.out _ rfl ?_)
    intro g2 cap2 X2 hown2 hgr2 hat2 hlt2
    have HN := Lib.hid (HR.out.push hown2 hgr2)
    clear hown2 hgr2 hat2 hlt2 HAL
    go_wp2
    go_roundw
    case rel => exact ⟨i + 1, by omega, by go_num, HN.out⟩
    case measure => simp [intOf]; omega
  case neg =>
  obtain rfl : F = i := by omega
  obtain ⟨gl, capl, hvl, hgl, hglt, -, -, -, -⟩ := owns_block hr.l (by omega)
  simp only [Value.slice.injEq, true_and] at hvl
  obtain ⟨rfl, rfl⟩ := hvl
  have hlr : LRow X gl (fun _ => -1) F := by
    have h1 := hr.l
    rcases h1.2 with ⟨-, h2⟩ | ⟨g', cap', cur, hv, hg, hh, hc, hm, hs', ht⟩
    · omega
    · simp only [Value.slice.injEq, Option.some.injEq, Addr.mk.injEq, and_true, true_and] at hv
      obtain ⟨rfl, rfl⟩ := hv
      refine ⟨cur.toList, by unfold RowIs; rw [hh], fun k hk => ?_⟩
      have hu := iv_get (fun _ => (-1 : Int)) hk
      rw [← ht, List.getElem?_take] at hu
      split at hu
      · exact hu
      · cases hu
  have hne : bl + 1 ≠ gl := fun e => by
    have := own_not18 hr.l hr.th (by decide)
    rw [e] at this
    exact this rfl
  obtain ⟨t0, ht0⟩ : ∃ t, t = f / 3 := ⟨_, rfl⟩
  have hf3 : t0 < F := by omega
  have hq : Int.tdiv (f : Int) 3 = (t0 : Int) := by rw [Int.tdiv_eq_ediv_of_nonneg (by omega)]; omega
  have hkw : IntKind.i64.wrap (t0 : Int) = (t0 : Int) := IntWalk.i64_in _ (by omega)
  have bk : (0 : Int) ≤ (t0 : Int) ∧ (t0 : Int) < (F : Int) := by omega
  obtain ⟨bo, hbo⟩ : ∃ b, b = X.heap.size := ⟨_, rfl⟩
  obtain ⟨X1, hX1⟩ : ∃ X1, X1 = X.alloc (.cells #[.int .i64 (t0 : Int)] 3) := ⟨_, rfl⟩
  have hb1 : Below X.heap.size X X1 := by rw [hX1]; exact (Below.refl _ _).alloc (Nat.le_refl _) _
  have ho1 : X1.ownsRow bo 3 1 (.slice (some ⟨bo, 0, none⟩) 1 1) 1 (nv [t0]) := by
    rw [hX1, hbo]
    exact RowIs.owns (size := 1) (n := 1) (base := X.heap.size) (RowIs.made X 3 [.int .i64 (t0 : Int)]) (Nat.le_refl _) (by simp) (by unfold maxLen; omega)
  have hR1 : RD2 w X1 B (bl + 1) N ao F cap gl bo (.slice (some ⟨bo, 0, none⟩) 1 1) (fun _ => false) (fun _ => -1) [t0] :=
    ⟨hr.eB, below_more hr.low hb1 (by have := hr.box.lt; omega), hr.box.after hb1, hr.th.after hb1, hlr.after hb1, ho1, by have := hr.hbl; omega, by have := hr.hbl; omega, by omega, by have := hr.sz; omega, hne, by rw [hX1, hbo]; simp⟩
  have z2 := hR1.th.cell (i := t0) (v := .bool false) (by simp [bv, hf3])
  have z3 := hR1.th.free t0
  have hR2 := hR1.seti t0 true
  obtain ⟨X2, hX2⟩ : ∃ X2, X2 = X1.setCell ⟨bl + 1, t0, none⟩ (.bool true) := ⟨_, rfl⟩
  rw [← hX2] at hR2
  have HS0 := Lib.hid (show RDB w X2 B (bl + 1) N ao F cap gl bo (.slice (some ⟨bo, 0, none⟩) 1 1) (initB f) from by
    unfold RDB
    have h := hR2
    rw [ht0] at h
    exact h.congr (fun j => by by_cases e : j = f / 3 <;> simp [e, initB]) (fun j => rfl))
  have HBI := Lib.hid (show ∀ j, BfI T f (bfsB T f j) from fun j => bfs_inv HS.out (by rw [← HF.out]; exact hf) j)
  have HBO := Lib.hid hbo
  have HX1 := Lib.hid hX1
  have HX2 := Lib.hid hX2
  have HFL := Lib.hid hf
  have HTT := Lib.hid (show ∀ X, Below B w X → TrisAt X ao T from fun X hX => HT.out.mono (B := B) (by rw [HBB.out]; exact Nat.le_refl _) hX)
  have HNF := Lib.hid (show ∀ w', Calls Tryz.prog 39 #[.int .i64 (f : Int)] w' fun e w'' => e = .returned (.int .i64 (nxn f : Nat)) ∧ w' = w'' from fun w' => next10 f w' (by omega))
  have HPF := Lib.hid (show ∀ w', Calls Tryz.prog 40 #[.int .i64 (f : Int)] w' fun e w'' => e = .returned (.int .i64 (pvn f : Nat)) ∧ w' = w'' from fun w' => prev10 f w' (by omega))
  have HOP := Lib.hid (show ∀ (w' : World) (c : Nat), TrisAt w' ao T → c < 3 * F → Calls Tryz.prog 41 #[.agg #[.int .i64 N, .slice ao F cap], .int .i64 (c : Int)] w' fun e w'' => e = .returned (.int .i64 (opp T (c : Nat))) ∧ Below w'.heap.size w' w'' from fun w' c h hc => by
    have := opp10 N ao cap T c w' h HS.out (by rw [← HF.out]; exact hc)
    rw [← HF.out] at this
    exact this)
  have HFN := Lib.hid (show ∀ i (Y : World) (o : Nat) (a : Option Addr) (c : Nat), (bfsB T f i).o.length = o → o ≤ i → RDB w Y B (bl + 1) N ao F cap gl bo (.slice a o c) (bfsB T f i) → RDualP T f w (.returned (.tuple #[.slice (some ⟨gl, 0, none⟩) F vc, .slice a o c])) Y from fun i Y o a c ho hoi h => by
    have hend : bfs T f = bfsB T f i := bfs_end HS.out (by rw [← HF.out]; exact HFL.out) (by omega)
    have ho2 := h.o
    rw [ho] at ho2
    refine ⟨some ⟨gl, 0, none⟩, vc, a, c, ?_, ?_, ?_, by rw [h.eB]; exact h.low⟩
    · rw [hend, ho, HF.out]
    · rw [hend, ← HF.out]; exact h.l.ints
    · rw [hend]
      exact owns_nl (by rw [ho]; exact ho2))
  clear hr hlr hne ht0 hbo hX1 hb1 ho1 hR1 hR2 hX2 HR hgl hglt hf
  go_upto_region 10 with fail
  simp only [← HBO.out]
  rw [← HX1.out]
  go_upto_region 11 with fail
  rw [← HX2.out]
  clear z2 z3 hq hkw bk x0 x1
  go_wp2
  go_loopw [9, 10] (fun ov iv' ws => ∃ i : Nat, iv' = .int .i64 i ∧ i ≤ (bfsB T f i).o.length ∧ RDB w ws B (bl + 1) N ao F cap gl bo ov (bfsB T f i)) (fun _ iv' _ => F - (intOf iv').toNat)
  case atStart => exact ⟨0, rfl, by omega, HS0.out⟩
  case round =>
  clear HS0
  obtain ⟨i, rfl, hio, hr⟩ := hrel
  obtain ⟨Y, rfl⟩ : ∃ Y : World, Y = wr := ⟨_, rfl⟩
  obtain ⟨vo, rfl⟩ : ∃ v, v = u9 := ⟨_, rfl⟩
  have hI := HBI.out i
  obtain ⟨on, hon⟩ : ∃ n, n = (bfsB T f i).o.length := ⟨_, rfl⟩
  have hof : on ≤ F := by rw [hon, HF.out]; exact hI.len
  obtain ⟨s, hs⟩ : ∃ s, s = bfsB T f i := ⟨_, rfl⟩
  have hr' := hr
  rw [← hs] at hI hr hio hon
  have hopos : 0 < on := by rw [hon]; exact List.length_pos_of_mem hI.hdm
  obtain ⟨g4, cap4, rfl, hg4, hg4l, -, -, hcl, -⟩ := owns_block hr.o (by omega)
  rw [← hon] at hr hr' hio ⊢
  have HR := Lib.hid hr
  have HON := Lib.hid hon
  have HSS := Lib.hid hs
  by_cases hlt : i < on
  case neg =>
    have HP := Lib.hid (HFN.out i Y on _ _ (by rw [hon, hs]) (by omega) hr')
    clear hr hr' hI hcl hon hs
    go_wp2
    exact bodyPost_ret (v := .tuple #[.slice (some ⟨gl, 0, none⟩) F vc, .slice (some ⟨g4, 0, none⟩) on cap4]) (by simp [results, Tryz.results13, go_sem]) rfl HP.out
  case pos =>
  have hmem : s.o.getD i 0 ∈ s.o := getD_mem18 (by rw [← hon]; exact hlt)
  have hgt : s.o[i]? = some (s.o.getD i 0) := by
    rw [List.getD_eq_getElem?_getD, List.getElem?_eq_getElem (by rw [← hon]; exact hlt)]
    rfl
  obtain ⟨t, ht⟩ : ∃ t, t = s.o.getD i 0 := ⟨_, rfl⟩
  rw [← ht] at hmem hgt
  have htF : t < F := by rw [HF.out]; exact hI.lt _ hmem
  have cc := hcl i _ (nv_get hgt)
  have cq := hr.l.cell (i := t) htF
  obtain ⟨lv, hlv⟩ : ∃ l, l = s.l t := ⟨_, rfl⟩
  rw [← hlv] at cq
  -- what stands at the sides
  obtain ⟨cs, hcs⟩ : ∃ cs, cs = sidesB f i s := ⟨_, rfl⟩
  have hside : ∀ c, c ∈ cs → c < 3 * F ∧ c / 3 ∈ s.o := fun c hc => by
    rw [hcs] at hc
    obtain ⟨e1, e2⟩ := hI.sides (by rw [← HF.out]; exact HFL.out) (by rw [← hon]; exact hlt) c hc
    exact ⟨by rw [HF.out]; exact e1, by rw [e2, ← ht]; exact hmem⟩
  have hstep : bfsB T f (i + 1) = cs.foldl (overB T) s := by
    show stepB T f i (bfsB T f i) = _
    rw [← hs, hcs]
    unfold stepB
    rw [if_pos (by rw [← hon]; exact hlt)]
  have hcase : ∃ (na nb : Nat) (γ : Bool), decide (lv < 0) = γ ∧ (∀ w', Calls Tryz.prog 39 #[.int .i64 lv] w' fun e w'' => e = .returned (.int .i64 (na : Int)) ∧ w' = w'') ∧ (∀ w', Calls Tryz.prog 39 #[.int .i64 (na : Int)] w' fun e w'' => e = .returned (.int .i64 (nb : Int)) ∧ w' = w'') ∧ cs = if γ then [f, nxn f, pvn f] else [na, nb] := by
    by_cases h0 : i = 0
    · have e0 : t = f / 3 := by
        rw [ht, h0, List.getD_eq_getElem?_getD, hI.hd]; rfl
      have e1 : lv = -1 := by rw [hlv, e0]; exact hI.rt
      refine ⟨0, 1, true, by rw [e1]; rfl, fun w' => by rw [e1]; exact next10_none w', fun w' => next10 0 w' (by omega), ?_⟩
      rw [hcs]; unfold sidesB; rw [if_pos h0]; rfl
    · have hnf : t ≠ f / 3 := by
        intro e
        have h0' : 0 < s.o.length := by rw [← hon]; omega
        have h00 := hI.hd
        rw [List.getElem?_eq_getElem h0'] at h00
        have hk' : i < s.o.length := by rw [← hon]; exact hlt
        rw [List.getElem?_eq_getElem hk'] at hgt
        have := nodup_get18 hI.nd hk' h0' (by rw [Option.some.inj hgt, e]; exact (Option.some.inj h00).symm)
        omega
      obtain ⟨q, hq, hq3, hqt, -⟩ := hI.lk _ hmem hnf
      have hqF : q < 3 * F := by rw [HF.out]; exact hq3
      refine ⟨nxn q, pvn q, false, by rw [hlv, hq]; simp, fun w' => by rw [hlv, hq]; exact next10 q w' (by omega), fun w' => ?_, ?_⟩
      · have := next10 (nxn q) w' (by have : nxn q < 3 * F := nxn_lt hqF; omega)
        have e : nxn (nxn q) = pvn q := by unfold nxn pvn; omega
        rw [e] at this
        exact this
      · rw [hcs]; unfold sidesB; rw [if_neg h0, ← ht, hq]; rfl
  obtain ⟨na, nb, γ, hγ, hn1, hn2, hcs2⟩ := hcase
  obtain ⟨m, hm⟩ : ∃ m, m = cs.length := ⟨_, rfl⟩
  have bi : (0 : Int) ≤ (i : Int) ∧ (i : Int) < (on : Int) := by omega
  have bt : (0 : Int) ≤ (t : Int) ∧ (t : Int) < (F : Int) := by omega
  have HI := Lib.hid hI
  have HSD := Lib.hid hside
  have HST := Lib.hid hstep
  have HN1 := Lib.hid hn1
  have HN2 := Lib.hid hn2
  have HC2 := Lib.hid hcs2
  have HM := Lib.hid hm
  have HLT := Lib.hid hlt
  have HG4 := Lib.hid (show bo ≤ g4 ∧ g4 < Y.heap.size from ⟨hg4, hg4l⟩)
  obtain ⟨sb0, hsb0⟩ : ∃ b, b = Y.heap.size := ⟨_, rfl⟩
  obtain ⟨W4, hW4⟩ : ∃ W4, W4 = Y.alloc (.cells #[.int .i64 (na : Int), .int .i64 (nb : Int)] 3) := ⟨_, rfl⟩
  have hb4 : Below Y.heap.size Y W4 := by rw [hW4]; exact (Below.refl _ _).alloc (Nat.le_refl _) _
  have HRW4 := Lib.hid (show RowIs W4 sb0 3 (nv [na, nb]) from by rw [hW4, hsb0]; exact RowIs.made Y 3 [.int .i64 (na : Int), .int .i64 (nb : Int)])
  have c4 := (hr.l.after hb4).cell (i := t) htF
  rw [← hlv] at c4
  have HB4 := Lib.hid hb4
  have HW4 := Lib.hid hW4
  have HSB0 := Lib.hid hsb0
  clear hr hr' hI hcl hon hs hmem hgt ht hlv hcs hside hstep hn1 hn2 hcs2 hm hlt hsb0 hW4 hb4 hg4l hg4
  go_wp2_with fail
  refine (HN1.out Y).mono ?_
  rintro e w' ⟨rfl, rfl⟩
  go_wp2_with fail
  refine (HN2.out Y).mono ?_
  rintro e w' ⟨rfl, rfl⟩
  go_upto_region 17 with fail
  rw [← HW4.out]
  simp only [← HSB0.out]
  go_upto_if 65 with fail
  go_cut [13, 66, 67, 68, 69, 70, 71] (fun s13 _ _ _ _ _ _ wc => ∃ sb, s13 = .slice (some ⟨sb, 0, none⟩) m m ∧ RowIs wc sb 3 (nv cs) ∧ g4 < sb ∧ Below Y.heap.size Y wc)
  case first =>
    cases γ
    case false =>
      have e : cs = [na, nb] := by rw [HC2.out]; rfl
      have em : m = 2 := by rw [HM.out, e]; rfl
      subst em
      clear c4
      go_wp2
      go_meet
      exact ⟨sb0, rfl, by rw [e]; exact HRW4.out, by rw [HSB0.out]; exact HG4.out.2, HB4.out⟩
    case true =>
      have e : cs = [f, nxn f, pvn f] := by rw [HC2.out]; rfl
      have em : m = 3 := by rw [HM.out, e]; rfl
      subst em
      clear c4
      go_wp2_with fail
      refine (HNF.out W4).mono ?_
      rintro e w' ⟨rfl, rfl⟩
      go_wp2_with fail
      refine (HPF.out W4).mono ?_
      rintro e w' ⟨rfl, rfl⟩
      go_wp2
      go_meet
      refine ⟨W4.heap.size, rfl, ?_, by have := HG4.out.2; have := HB4.out.size; omega, below_more HB4.out ((Below.refl _ _).alloc (Nat.le_refl _) _) HB4.out.size⟩
      rw [e]
      exact RowIs.made W4 3 [.int .i64 (f : Int), .int .i64 (nxn f : Nat), .int .i64 (pvn f : Nat)]
  case rest =>
  obtain ⟨Z, rfl⟩ : ∃ Z : World, Z = wc := ⟨_, rfl⟩
  obtain ⟨sb, rfl, hsr, hsb, hbZ⟩ := hcut
  have hRZ := HR.out.more hbZ
  have HRZ := Lib.hid hRZ
  have HSR := Lib.hid hsr
  have HON2 := Lib.hid (show on = s.o.length from HON.out)
  have hm3 : m ≤ 3 := by
    rw [HM.out, HC2.out]
    split <;> simp
  have HSB := Lib.hid (show ∀ q : Nat, (Value.slice (some ⟨g4, 0, none⟩) on cap4).ownBlock = some q → q ≠ sb from fun q hq => by
    simp only [Value.ownBlock, Option.some.injEq] at hq
    omega)
  have HSBO := Lib.hid (show bo < sb from by have := HG4.out.1; omega)
  clear c4 cc cq hsr hsb hbZ hRZ HRW4 HB4 HW4 HSB0 HR bi bt
  go_wp2
  go_loopw [9, 14] (fun ov kv ws => ∃ k : Nat, k ≤ m ∧ kv = .int .i64 k ∧ RDB w ws B (bl + 1) N ao F cap gl bo ov ((cs.take k).foldl (overB T) s) ∧ RowIs ws sb 3 (nv cs) ∧ ∀ q : Nat, ov.ownBlock = some q → q ≠ sb) (fun _ kv _ => m - (intOf kv).toNat)
  case atStart => exact ⟨0, by omega, rfl, by rw [HON.out] at HRZ ⊢; exact HRZ.out, HSR.out, HSB.out⟩
  case round =>
  clear HRZ HSR HSB
  obtain ⟨k, hk, rfl, hr, hsr, hsb⟩ := hrel
  obtain ⟨Z1, rfl⟩ : ∃ Z1 : World, Z1 = wr := ⟨_, rfl⟩
  obtain ⟨vo, rfl⟩ : ∃ v, v = u9 := ⟨_, rfl⟩
  obtain ⟨s2, hs2⟩ : ∃ s2, s2 = (cs.take k).foldl (overB T) s := ⟨_, rfl⟩
  rw [← hs2] at hr
  have hI2 : BfI T f s2 := by
    rw [hs2]
    exact overs_inv HS.out _ HI.out fun c hc => by
      have := HSD.out c (List.mem_of_mem_take hc)
      exact ⟨by rw [← HF.out]; exact this.1, this.2⟩
  have HR := Lib.hid hr
  have HSR := Lib.hid hsr
  have HSB := Lib.hid hsb
  have HS2 := Lib.hid hs2
  by_cases hkm : k < m
  case neg =>
    obtain rfl : m = k := by omega
    have HN := Lib.hid (show RDB w Z1 B (bl + 1) N ao F cap gl bo vo (bfsB T f (i + 1)) ∧ i + 1 ≤ (bfsB T f (i + 1)).o.length from by
      have e : cs.take m = cs := by rw [HM.out, List.take_length]
      have e2 : bfsB T f (i + 1) = s2 := by rw [HST.out, hs2, e]
      rw [e2]
      refine ⟨hr, ?_⟩
      have h1 := (bfs_ext T f (Nat.le_succ i)).o.length_le
      rw [e2, ← HSS.out, ← HON2.out] at h1
      have := HLT.out
      have h2 : i + 1 ≤ s2.o.length := by omega
      exact h2)
    have HLF := Lib.hid (show i < F from by have := HLT.out; omega)
    clear hr hsr hsb hs2 hI2
    go_wp2
    go_roundw
    case rel => exact ⟨i + 1, by go_num, HN.out.2, HN.out.1⟩
    case measure => simp [intOf]; have := HLF.out; omega
  case pos =>
  obtain ⟨c, hc⟩ : ∃ c, cs[k]? = some c := ⟨_, List.getElem?_eq_getElem (by rw [← HM.out]; exact hkm)⟩
  obtain ⟨hc3, hcm⟩ := HSD.out c (List.mem_of_getElem? hc)
  have hcm2 : c / 3 ∈ s2.o := by rw [hs2]; exact (overs_ext T _ s).o.subset hcm
  have hnx : (cs.take (k + 1)).foldl (overB T) s = overB T s2 c := by rw [hs2]; exact overs_take T s cs hc
  obtain ⟨ov, hov⟩ : ∃ x, x = opp T (c : Nat) := ⟨_, rfl⟩
  have HNX := Lib.hid hnx
  have HOV := Lib.hid hov
  have HIL := Lib.hid (show s2.o.length ≤ F from by rw [HF.out]; exact hI2.len)
  have HOC := Lib.hid (show ∀ w', Hid (Below Z1.heap.size Z1 w') → Calls Tryz.prog 41 #[.agg #[.int .i64 N, .slice ao F cap], .int .i64 (c : Int)] w' fun e w'' => e = .returned (.int .i64 ov) ∧ Hid (Below Z1.heap.size Z1 w'') from fun w' h => by
    rw [hov]
    exact (HOP.out w' c (HTT.out w' (below_more hr.low h.out (by have := hr.box.lt; omega))) hc3).mono fun e w'' h2 => ⟨h2.1, below_more h.out h2.2 h.out.size⟩)
  have HK := Lib.hid (show ∀ w', Hid (Below Z1.heap.size Z1 w') → w'.cell? ⟨B, 0, none⟩ = some (.int .i64 N) ∧ w'.cell? ⟨B, 1, none⟩ = some (.slice ao F cap) ∧ w'.cell? ⟨sb, k, none⟩ = some (.int .i64 (c : Int)) from fun w' h => ⟨(hr.box.after h.out).cell (i := 0) rfl, (hr.box.after h.out).cell (i := 1) rfl, (hsr.after h.out).cell (nv_get hc)⟩)
  have HRF := Lib.hid (Below.refl Z1.heap.size Z1)
  have HDR := Lib.hid (show Below Z1.heap.size Z1 Z1.drew from ⟨rfl, rfl, rfl, Nat.le_refl _, fun _ _ => rfl⟩)
  have bkm : (0 : Int) ≤ (k : Int) ∧ (k : Int) < (m : Int) := by omega
  have HOO := Lib.hid (show ∀ o : Nat, ov = (o : Int) → o < 3 * F from fun o ho => by
    obtain ⟨o', ho', h1, -⟩ := HS.out.opp_opp (c := c) (by rw [← HF.out]; exact hc3) (by rw [← hov, ho]; omega)
    rw [← hov, ho] at ho'
    rw [HF.out]
    omega)
  clear hr hsr hsb hs2 hI2 hc hc3 hcm hcm2 hnx hov
  go_upto_region 22 with fail
  go_region_held3 (fun w' => w'.cell? ⟨B, 0, none⟩ = some (.int .i64 N) ∧ w'.cell? ⟨B, 1, none⟩ = some (.slice ao F cap) ∧ w'.cell? ⟨sb, k, none⟩ = some (.int .i64 (c : Int)))
    (exact HK.out _ (by assumption))
    (first | (go_at_call 41; (with_reducible refine (HOC.out _ (by assumption)).mono ?_); rintro e w2 ⟨rfl, hb2⟩))
  have hR := HR.out.more hb2.out
  have HSR2 := Lib.hid (HSR.out.after hb2.out)
  by_cases h0 : 0 ≤ ov
  case neg =>
    have g1 : decide (ov ≥ 0) = false := by simpa using h0
    have HN := Lib.hid (show RDB w w2 B (bl + 1) N ao F cap gl bo vo ((cs.take (k + 1)).foldl (overB T) s) from by
      have e : overB T s2 c = s2 := by
        unfold overB
        rw [← HOV.out, if_neg (fun q => h0 q.1)]
      rw [HNX.out, e]
      exact hR)
    clear hR hb2
    go_wp2
    go_roundw
    case rel => exact ⟨k + 1, by omega, by go_num, HN.out, HSR2.out, HSB.out⟩
    case measure => simp [intOf]; omega
  case pos =>
  obtain ⟨o, rfl⟩ := Int.eq_ofNat_of_zero_le h0
  have ho3 := HOO.out o rfl
  have g1 : decide ((o : Int) ≥ 0) = true := by simp
  obtain ⟨t2, ht2⟩ : ∃ t, t = o / 3 := ⟨_, rfl⟩
  have ht2F : t2 < F := by omega
  have hq : Int.tdiv (o : Int) 3 = (t2 : Int) := by rw [Int.tdiv_eq_ediv_of_nonneg (by omega)]; omega
  have hkw : IntKind.i64.wrap (t2 : Int) = (t2 : Int) := IntWalk.i64_in _ (by omega)
  have bt2 : (0 : Int) ≤ (t2 : Int) ∧ (t2 : Int) < (F : Int) := by omega
  have z2 := hR.th.cell (i := t2) (v := .bool (decide (t2 ∈ s2.o))) (bv_get _ ht2F)
  have HT2 := Lib.hid ht2
  by_cases hm2 : t2 ∈ s2.o
  case pos =>
    rw [decide_eq_true hm2] at z2
    have HN := Lib.hid (show RDB w w2 B (bl + 1) N ao F cap gl bo vo ((cs.take (k + 1)).foldl (overB T) s) from by
      have e : overB T s2 c = s2 := by
        unfold overB
        rw [← HOV.out, if_neg (fun q => q.2 (by rw [Int.toNat_natCast, ← ht2]; exact hm2))]
      rw [HNX.out, e]
      exact hR)
    clear hR hb2 hm2 ht2
    go_wp2
    go_roundw
    case rel => exact ⟨k + 1, by omega, by go_num, HN.out, HSR2.out, HSB.out⟩
    case measure => simp [intOf]; omega
  case neg =>
  rw [decide_eq_false hm2] at z2
  have z3 := hR.th.free t2
  have hR3 := hR.seti t2 true
  obtain ⟨Z3, hZ3⟩ : ∃ Z, Z = w2.setCell ⟨bl + 1, t2, none⟩ (.bool true) := ⟨_, rfl⟩
  rw [← hZ3] at hR3
  have y2 := hR3.l.cell (i := t2) ht2F
  have y3 := hR3.l.free t2
  have hR4 := hR3.setl t2 (o : Int)
  obtain ⟨Z4, hZ4⟩ : ∃ Z, Z = Z3.setCell ⟨gl, t2, none⟩ (.int .i64 (o : Int)) := ⟨_, rfl⟩
  rw [← hZ4] at hR4
  have hg3 : w2.grownBy Z3 (some (bl + 1)) := by rw [hZ3]; exact grown_set _ _ _ _
  have hg4' : Z3.grownBy Z4 (some gl) := by rw [hZ4]; exact grown_set _ _ _ _
  obtain ⟨va, vc, rfl⟩ := owns_slice hR4.o
  obtain ⟨ol, hol⟩ : ∃ n, n = s2.o.length := ⟨_, rfl⟩
  rw [← hol] at HSB HIL ⊢
  have hba : Below Z4.heap.size Z4 (Z4.alloc (.cells #[.int .i64 (t2 : Int)] 3)) := (Below.refl _ _).alloc (Nat.le_refl _) _
  have hR5 := hR4.more hba
  have HR5 := Lib.hid hR5
  have HAL := Lib.hid (show (Z4.alloc (.cells #[.int .i64 (t2 : Int)] 3)).ownsRow bo 3 1 (.slice va ol vc) ol (nv s2.o) from by rw [hol]; exact hR5.o)
  have HQ1 := Lib.hid (show ol + 1 ≤ maxLen by have := HIL.out; unfold maxLen; omega)
  have HQ2 := Lib.hid (show (ol + 1) * 8 ≤ 140737488355328 by have := HIL.out; omega)
  have HQ3 := Lib.hid hR5.sz
  have HZ3 := Lib.hid hZ3
  have HZ4 := Lib.hid hZ4
  have HS4 := Lib.hid (show RowIs (Z4.alloc (.cells #[.int .i64 (t2 : Int)] 3)) sb 3 (nv cs) from ((HSR2.out.grown hg3 (by have := HSBO.out; have := hR.h3; simp; omega)).grown hg4' (by have := HSBO.out; have := hR.h2; simp; omega)).after hba)
  have HNO := Lib.hid (show ∀ (g cp : Nat) (Y' : World), Y'.ownsRow bo 3 1 (.slice (some ⟨g, 0, none⟩) (ol + 1) cp) (ol + 1) (nv s2.o ++ [.int .i64 (t2 : Int)]) → (Z4.alloc (.cells #[.int .i64 (t2 : Int)] 3)).grownBy Y' (Value.slice va ol vc).ownBlock → RDB w Y' B (bl + 1) N ao F cap gl bo (.slice (some ⟨g, 0, none⟩) (ol + 1) cp) ((cs.take (k + 1)).foldl (overB T) s) from fun g cp Y' ho hg => by
    have hp := HR5.out.push (x := t2) (n := ol + 1) (by rw [nv_snoc]; exact ho) (by rw [List.length_append, ← hol]; rfl) (by rw [← hol]; exact hg)
    have e : overB T s2 c = ⟨s2.o ++ [t2], fun t => if t = t2 then (o : Int) else s2.l t, fun t => if t = t2 then s2.d (c / 3) + 1 else s2.d t⟩ := by
      unfold overB
      rw [← HOV.out, Int.toNat_natCast, ← HT2.out, if_pos ⟨by omega, hm2⟩]
    rw [HNX.out, e]
    exact hp.congr (fun j => by by_cases e : j = t2 <;> simp [e]) (fun j => rfl))
  clear hR hb2 hR3 hR4 hR5 hba hZ3 hZ4 hg3 hg4' hol hm2 ht2 HR5 HR h0
  go_upto_region 25 with fail
  rw [← HZ3.out]
  go_upto_region 26 with fail
  rw [← HZ4.out]
  clear y2 y3 z2 z3
  go_wp2_with (at_builtin; refine wpList_append_lies _ rfl _ _ 28 rfl bo 3 i0 (.int .i64 0) 1 8 (by kernel_rfl) hi0 hz0 hz1 hz2 rfl (by decide) _ _ _ rfl HAL.out ⟨Z4.heap.size, 0, none⟩ 1 1 [.int .i64 (t2 : Int)] rfl rfl (World.news_of_block (heap_alloc_new Z4 _)) (by intro u hu; simp at hu; subst hu; rfl) (by decide) HQ1.out HQ2.out HQ3.out _ rfl ?_)
  intro g2 cap2 Y2 hown2 hgr2 hat2 hlt2
  have HN := Lib.hid (HNO.out g2 cap2 Y2 hown2 hgr2)
  have HSY := Lib.hid (show RowIs Y2 sb 3 (nv cs) from HS4.out.grown hgr2 fun q => HSB.out sb q.symm rfl)
  have HSN := Lib.hid (show ∀ q : Nat, (Value.slice (some ⟨g2, 0, none⟩) (ol + 1) cap2).ownBlock = some q → q ≠ sb from fun q hq => by
    simp only [Value.ownBlock, Option.some.injEq] at hq
    subst hq
    rcases hat2 with h | h
    · exact HSB.out _ h
    · have := HS4.out.lt
      simp only [World.size_alloc] at this h
      omega)
  clear hown2 hgr2 hat2 hlt2 HAL HS4 HNO HSB
  go_wp2
  go_roundw
  case rel => exact ⟨k + 1, by omega, by go_num, HN.out, HSY.out, HSN.out⟩
  case measure => simp [intOf]; omega
set_option maxRecDepth 100000 in
set_option maxHeartbeats 2000000 in
theorem less18 (a0 a1 b0 b1 : Int) (w : World) :
    Calls Tryz.prog 89 #[.agg #[.int .i64 a0, .int .i64 a1], .agg #[.int .i64 b0, .int .i64 b1]] w fun e w' => ∃ r : Bool, e = .returned (.bool r) ∧ (r = true ↔ ltE (a0, a1) (b0, b1)) ∧ Below w.heap.size w w' := by
  have hb : Below w.heap.size w ((w.alloc (.cells #[.int .i64 a0, .int .i64 a1] 40)).alloc (.cells #[.int .i64 b0, .int .i64 b1] 40)) := ((Below.refl _ _).alloc (Nat.le_refl _) _).alloc (by simp) _
  by_cases h1 : a0 < b0
  · have g1 : decide (a0 < b0) = true := by simpa using h1
    have HF := Lib.hid (show ltE (a0, a1) (b0, b1) from .inl h1)
    clear h1
    go_enter Tryz.func89, Tryz.ntmps89
    go_wp2
    exact bodyPost_ret (v := .bool true) (by simp [results, Tryz.results89, go_sem]) rfl ⟨true, rfl, ⟨fun _ => HF.out, fun _ => rfl⟩, hb⟩
  · have g1 : decide (a0 < b0) = false := by simpa using h1
    by_cases h2 : a0 = b0
    · have g2 : (a0 == b0) = true := by simpa using h2
      obtain ⟨r, hr⟩ : ∃ r, decide (a1 < b1) = r := ⟨_, rfl⟩
      have HF := Lib.hid (show r = true ↔ ltE (a0, a1) (b0, b1) from by
        rw [← hr]; unfold ltE; simp only [decide_eq_true_eq]; omega)
      clear h1 h2
      go_enter Tryz.func89, Tryz.ntmps89
      go_wp2
      exact bodyPost_ret (v := .bool r) (by simp [results, Tryz.results89, go_sem]) rfl ⟨r, rfl, HF.out, hb⟩
    · have g2 : (a0 == b0) = false := by simpa using h2
      have HF := Lib.hid (show ¬ ltE (a0, a1) (b0, b1) from by unfold ltE; simp only; omega)
      clear h1 h2
      go_enter Tryz.func89, Tryz.ntmps89
      go_wp2
      exact bodyPost_ret (v := .bool false) (by simp [results, Tryz.results89, go_sem]) rfl ⟨false, rfl, ⟨fun h => (by cases h), fun h => absurd h HF.out⟩, hb⟩
theorem ecells_append (A B : List (Int × Int)) : ecells (A ++ B) = ecells A ++ ecells B := by simp [ecells]
theorem etake_cells {E : List (Int × Int)} {a j : Nat} {u : Value} (h : (ecells (E.take a))[j]? = some u) : (ecells E)[j]? = some u := by
  have e : ecells E = ecells (E.take a) ++ ecells (E.drop a) := by rw [← ecells_append, List.take_append_drop]
  rw [e, List.getElem?_append_left (List.getElem?_eq_some_iff.1 h).1]
  exact h
theorem edrop_cells {E : List (Int × Int)} {a j : Nat} {u : Value} (h : (ecells (E.drop a))[j]? = some u) (ha : a ≤ E.length) : (ecells E)[a * 2 + j]? = some u := by
  have e : ecells E = ecells (E.take a) ++ ecells (E.drop a) := by rw [← ecells_append, List.take_append_drop]
  have hl : (ecells (E.take a)).length = a * 2 := by rw [ecells_length, List.length_take]; congr 1; omega
  rw [e, List.getElem?_append_right (by omega), hl]
  rw [show a * 2 + j - a * 2 = j by omega]
  exact h
theorem esliceAt_hi (b off len cap h : Nat) (hh : h ≤ cap) (w : World) : (Instr.sliceAt 34 (.slice (some ⟨b, off, none⟩) len cap) none (some (.int .i64 (h : Int))) none).run Tryz.prog w = .ok (.slice (some ⟨b, off, none⟩) h cap) w := by
  have hu : Tryz.prog.underlying 34 = some (.slice 40) := by kernel_rfl
  obtain ⟨i0, hi, -, hz1, -⟩ := info_parts infoEdge
  unfold Instr.sliceAt
  simp only [Sem.run_bind, run_underlying hu, Result.andThen_ok]
  unfold Instr.slice Instr.sliceBounds Instr.sliceBound
  simp only [Sem.run_bind, run_underlying hu, Result.andThen_ok, run_sizeOf w hi, Sem.run_pure]
  simp [go_sem, hh, hz1]
theorem esliceAt_lo (b off len cap l : Nat) (hl : l ≤ len) (w : World) : (Instr.sliceAt 34 (.slice (some ⟨b, off, none⟩) len cap) (some (.int .i64 (l : Int))) none none).run Tryz.prog w = .ok (.slice (some (if cap = l then ⟨b, off, none⟩ else ⟨b, off + l * 2, none⟩)) (len - l) (cap - l)) w := by
  have hu : Tryz.prog.underlying 34 = some (.slice 40) := by kernel_rfl
  obtain ⟨i0, hi, -, hz1, -⟩ := info_parts infoEdge
  unfold Instr.sliceAt
  simp only [Sem.run_bind, run_underlying hu, Result.andThen_ok]
  unfold Instr.slice Instr.sliceBounds Instr.sliceBound
  simp only [Sem.run_bind, run_underlying hu, Result.andThen_ok, run_sizeOf w hi, Sem.run_pure]
  by_cases e : cap = l <;> simp [go_sem, hl, hz1, e]
theorem news18 {w : World} {g : Nat} {e : TypeId} {xs : List Value} (h : RowIs w g e xs) : ∀ j u, xs[j]? = some u → w.cell? ((⟨g, 0, none⟩ : Addr).add j) = some u := fun j u hj => by
  have := h.cell hj
  simpa [Addr.add_lit] using this
/-- Edges and room behind them. -/
def RestAt (w : World) (v : Value) (R : List (Int × Int)) : Prop := ∃ b off cap, v = .slice (some ⟨b, off, none⟩) R.length cap ∧ R.length ≤ cap ∧ b < w.heap.size ∧ EdgesAt w (some ⟨b, off, none⟩) R
theorem RestAt.more {w w' : World} {v : Value} {R : List (Int × Int)} (h : RestAt w v R) (hb : Below w.heap.size w w') : RestAt w' v R := by
  obtain ⟨b, off, cap, h1, h2, h3, h4⟩ := h
  exact ⟨b, off, cap, h1, h2, by have := hb.size; omega, h4.mono (Nat.le_refl _) hb⟩
theorem owns_restAt {w : World} {base e n : Nat} {v : Value} {R : List (Int × Int)} (h : w.ownsRow base e 2 v n (ecells R)) (hn : n = R.length) (h0 : 0 < n) : RestAt w v R := by
  subst hn
  obtain ⟨g, cap, rfl, -, hg, hc, -⟩ := owns_block h h0
  obtain ⟨ao, cap', e, hE⟩ := owns_edges h
  cases e
  exact ⟨g, 0, cap, rfl, hc, hg, hE⟩
theorem insG_new {α : Type} {lt : α → α → Prop} {E : List α} {x : α} {k n l2 : Nat} (hn : n = E.length) (hk : k ≤ n) (hl : l2 = n - k) (h1 : ∀ i y, i < k → E[i]? = some y → lt y x) (h2 : ∀ y, E[k]? = some y → ¬ lt y x ∧ y ≠ x) : InsG lt E x (E.take k ++ x :: E.drop k) ∧ k + 1 + l2 = (E.take k ++ x :: E.drop k).length := by
  refine ⟨⟨k, by omega, h1, fun y hy => (h2 y hy).1, .inr ⟨fun e => (h2 x e).2 rfl, rfl⟩⟩, ?_⟩
  simp only [List.length_append, List.length_take, List.length_cons, List.length_drop]
  omega
/-- What gypsumref18.Insert comes to. -/
def InsertP (E : List (Int × Int)) (x : Int × Int) (w : World) (e : Ending) (w' : World) : Prop :=
  ∃ v R, e = .returned v ∧ RestAt w' v R ∧ InsG ltE E x R ∧ Below w.heap.size w w'
theorem insertP_new {E : List (Int × Int)} {x y : Int} {w W' : World} {base k n l2 : Nat} {v : Value} {xs : List Value} (ho : W'.ownsRow base 40 2 v (k + 1 + l2) xs) (hx : xs = ecells (E.take k) ++ [.int .i64 x, .int .i64 y] ++ ecells (E.drop k)) (hn : n = E.length) (hk : k ≤ n) (hl : l2 = n - k) (h1 : ∀ i e, i < k → E[i]? = some e → ltE e (x, y)) (h2 : ∀ e, E[k]? = some e → ¬ ltE e (x, y) ∧ e ≠ (x, y)) (hb : Below w.heap.size w W') : InsertP E (x, y) w (.returned v) W' := by
  obtain ⟨hi, hlen⟩ := insG_new hn hk hl h1 h2
  refine ⟨v, _, rfl, owns_restAt (by
    rw [show ecells (E.take k ++ (x, y) :: E.drop k) = xs from by rw [hx]; simp [ecells]]
    exact ho) hlen (by omega), hi, hb⟩
theorem E!_get? {E : List (Int × Int)} {i : Nat} {e : Int × Int} (h : E[i]? = some e) : E! E i = e := by simp [E!, List.getD_eq_getElem?_getD, h]
set_option maxRecDepth 100000 in
set_option maxHeartbeats 4000000 in
theorem insert18 (E : List (Int × Int)) (lb off cap : Nat) (x y : Int) (w : World) (hE : EdgesAt w (some ⟨lb, off, none⟩) E) (hc : E.length ≤ cap) (hl : E.length ≤ 100000) (hlb : lb < w.heap.size) :
    Calls Tryz.prog 49 #[.slice (some ⟨lb, off, none⟩) E.length cap, .agg #[.int .i64 x, .int .i64 y]] w (InsertP E (x, y) w) := by
  obtain ⟨i0, hi0, hz0, hz1, hz2⟩ := info_parts infoEdge
  obtain ⟨n, hn⟩ : ∃ n, n = E.length := ⟨_, rfl⟩
  obtain ⟨xb, hxb⟩ : ∃ b, b = w.heap.size := ⟨_, rfl⟩
  obtain ⟨W0, hW0⟩ : ∃ W0, W0 = w.alloc (.cells #[.int .i64 x, .int .i64 y] 40) := ⟨_, rfl⟩
  have hb0 : Below xb w W0 := by rw [hW0, hxb]; exact (Below.refl _ _).alloc (Nat.le_refl _) _
  have hr0 : RowIs W0 xb 40 [.int .i64 x, .int .i64 y] := by rw [hW0, hxb]; exact RowIs.made w 40 [.int .i64 x, .int .i64 y]
  have HE := Lib.hid (hE.mono (B := xb) (by rw [hxb]; exact Nat.le_refl _) hb0)
  have HN := Lib.hid hn
  have HXB := Lib.hid hxb
  have HW0 := Lib.hid hW0
  have HR0 := Lib.hid hr0
  have HB0 := Lib.hid hb0
  have HLB := Lib.hid (show ∀ X, Below W0.heap.size W0 X → lb < X.heap.size from fun X h => by
    have := h.size
    rw [hW0] at this
    simp at this
    omega)
  rw [← hn] at hl hc ⊢
  clear hE hn hxb hW0 hr0 hb0 hlb
  go_enter Tryz.func49, Tryz.ntmps49
  go_upto_region 1 with fail
  simp only [← HXB.out]
  rw [← HW0.out]
  go_wp2
  go_loopw [5] (fun i ws => ∃ k : Nat, k ≤ n ∧ i = .int .i64 k ∧ Hid (∀ i e, i < k → E[i]? = some e → ltE e (x, y)) ∧ Below W0.heap.size W0 ws) (fun i _ => n - (intOf i).toNat)
  case atStart => exact ⟨0, by omega, rfl, Lib.hid fun j e hj => by omega, Below.refl _ _⟩
  case round =>
  obtain ⟨k, hk, rfl, HLT, hb⟩ := hrel
  obtain ⟨X, rfl⟩ : ∃ X : World, X = wr := ⟨_, rfl⟩
  have hr := HR0.out.after hb
  have d1 := hr.cell (i := 0) rfl
  have d2 := hr.cell (i := 1) rfl
  have HBX := Lib.hid hb
  have HBF := Lib.hid (show ∀ Y, Below W0.heap.size W0 Y → Below w.heap.size w Y from fun Y h => by
    rw [← HXB.out]
    exact HB0.out.trans (h.mono (by have := HR0.out.lt; omega)))
  by_cases hlt : k < n
  case neg =>
    obtain rfl : n = k := by omega
    have HGE := Lib.hid (show ∀ e, E[n]? = some e → ¬ ltE e (x, y) ∧ e ≠ (x, y) from fun e h => by
      have := (List.getElem?_eq_some_iff.1 h).1
      have := HN.out
      omega)
    have HQN := Lib.hid (show ∀ q, Below W0.heap.size W0 (X.drewN q) from fun q => below_drewN hb q)
    clear hr d1 d2 hb
    go_wp2
    go_quiet (fail)
    rename_i nq
    have hVb := HQN.out nq
    obtain ⟨V0, hV0⟩ : ∃ V, V = X.drewN nq := ⟨_, rfl⟩
    rw [← hV0] at hVb ⊢
    have HVB0 := Lib.hid hVb
    have HQV := Lib.hid (show ∀ q, Below W0.heap.size W0 (V0.drewN q) from fun q => below_drewN hVb q)
    clear hVb hV0
    go_wp2
    go_quiet (fail)
    have hVb := HQV.out nq
    obtain ⟨V, hV⟩ : ∃ V, V = V0.drewN nq := ⟨_, rfl⟩
    rw [← hV] at hVb ⊢
    have HVB := Lib.hid hVb
    have HC1 := Lib.hid (show ∀ X, Below V.heap.size V X → ∀ j u, (ecells (E.take n))[j]? = some u → X.cell? ((⟨lb, off, none⟩ : Addr).add j) = some u from fun X h j u hj => by
      rw [Addr.add_lit]
      exact EdgesAt.cells (HE.out.mono (Nat.le_refl _) (below_more HVB.out h HVB.out.size)) j u (etake_cells hj))
    have HL1 := Lib.hid (show (ecells (E.take n)).length = n * 2 from by rw [ecells_length, List.length_take]; congr 1; have := HN.out; omega)
    obtain ⟨l2, hl2⟩ : ∃ l2, l2 = n - n := ⟨_, rfl⟩
    have HL2 := Lib.hid hl2
    have HL3 := Lib.hid (show (ecells (E.drop n)).length = l2 * 2 from by rw [ecells_length, List.length_drop]; congr 1; have := HN.out; omega)
    obtain ⟨AD, hAD⟩ : ∃ AD : Addr, AD = if cap = n then ⟨lb, off, none⟩ else ⟨lb, off + n * 2, none⟩ := ⟨_, rfl⟩
    have HCA := Lib.hid (show ∀ X, Below V.heap.size V X → ∀ j u, (ecells (E.drop n))[j]? = some u → X.cell? (AD.add j) = some u from fun X h j u hj => by
      rw [hAD]
      by_cases e : cap = n
      · have h1 := (List.getElem?_eq_some_iff.1 hj).1
        rw [HL3.out] at h1
        omega
      · rw [if_neg e, Addr.add_lit, Nat.add_assoc]
        exact EdgesAt.cells (HE.out.mono (Nat.le_refl _) (below_more HVB.out h HVB.out.size)) _ u (edrop_cells hj (by have := HN.out; omega)))
    have hs1 : ∀ w, (Instr.sliceAt 34 (.slice (some ⟨lb, off, none⟩) n cap) none (some (.int .i64 (n : Int))) none).run Tryz.prog w = .ok (.slice (some ⟨lb, off, none⟩) n cap) w := fun w => esliceAt_hi lb off n cap n (by omega) w
    have hs2 : ∀ w, (Instr.sliceAt 34 (.slice (some ⟨lb, off, none⟩) n cap) (some (.int .i64 (n : Int))) none none).run Tryz.prog w = .ok (.slice (some AD) l2 (cap - n)) w := fun w => by
      rw [esliceAt_lo lb off n cap n (by omega) w, ← hl2, hAD]
    have HO1 := Lib.hid (ecells_one (E.take n))
    have HO2 := Lib.hid (show ∀ u ∈ [Value.int .i64 x, Value.int .i64 y], u.oneCell' = true from by intro u hu; simp at hu; rcases hu with rfl | rfl <;> rfl)
    have HO3 := Lib.hid (ecells_one (E.drop n))
    have HM1 := Lib.hid (show n ≤ maxLen by unfold maxLen; omega)
    have HM2 := Lib.hid (show n * 16 ≤ 140737488355328 by omega)
    have HM3 := Lib.hid (show n + 1 ≤ maxLen by unfold maxLen; omega)
    have HM4 := Lib.hid (show (n + 1) * 16 ≤ 140737488355328 by omega)
    have HM5 := Lib.hid (show n + 1 + l2 ≤ maxLen by unfold maxLen; omega)
    have HM6 := Lib.hid (show (n + 1 + l2) * 16 ≤ 140737488355328 by omega)
    have HKB := Lib.hid (show ∀ w', Below V.heap.size V w' → w'.cell? ⟨xb, 0, none⟩ = some (.int .i64 x) ∧ w'.cell? ⟨xb, 1, none⟩ = some (.int .i64 y) from fun w' h => ⟨(HR0.out.after (below_more HVB.out h HVB.out.size)).cell (i := 0) rfl, (HR0.out.after (below_more HVB.out h HVB.out.size)).cell (i := 1) rfl⟩)
    have HFN := Lib.hid (show ∀ (W' : World) (v : Value) (xs : List Value), W'.ownsRow V.heap.size 40 2 v (n + 1 + l2) xs → xs = ecells (E.take n) ++ [.int .i64 x, .int .i64 y] ++ ecells (E.drop n) → Below V.heap.size V W' → InsertP E (x, y) w (.returned v) W' from fun W' v xs ho hx hb' => insertP_new ho hx HN.out (by omega) HL2.out HLT.out HGE.out (HBF.out _ (below_more HVB.out hb' HVB.out.size)))
    clear hV hVb hl2 hAD
    go_upto_region 6 with fail
    refine wp_region_held_drew (S := (fun w' => w'.cell? ⟨xb, 0, none⟩ = some (.int .i64 x) ∧ w'.cell? ⟨xb, 1, none⟩ = some (.int .i64 y))) (by kernel_rfl) ?_ (fun hHeld0 => ?_)
    · ((try dsimp only); exact HKB.out _ (by repeat (first | assumption | with_reducible exact Below.refl _ _ | with_reducible apply below_drew | with_reducible apply below_alloc)))
    refine wpAnyH_take (i := 1) (v := ?_) rfl (by kernel_rfl) (by kernel_rfl) (by kernel_rfl) (fun _ _ _ h => h) (Or.inl ⟨by rfl, ?_⟩) (by assumption) ?_
    rotate_left
    · (intro w hSw; (try dsimp only at hSw); go_simp; try with_reducible rfl)
    try simp only [List.getElem_toArray, List.getElem_cons_succ, List.getElem_cons_zero, Act.put, List.setIfInBounds_toArray, List.set_cons_zero, List.set_cons_succ]
    refine wpAnyH_take (i := 2) (v := ?_) rfl (by kernel_rfl) (by kernel_rfl) (by kernel_rfl) (fun _ _ _ h => h) (Or.inl ⟨by rfl, ?_⟩) (by assumption) ?_
    rotate_left
    · (intro w hSw; (try dsimp only at hSw); go_simp; try with_reducible rfl)
    try simp only [List.getElem_toArray, List.getElem_cons_succ, List.getElem_cons_zero, Act.put, List.setIfInBounds_toArray, List.set_cons_zero, List.set_cons_succ]
    refine wpAnyH_take (i := 3) (v := (.slice (some ⟨lb, off, none⟩) n cap)) rfl (by kernel_rfl) (by kernel_rfl) (by kernel_rfl) (fun _ _ _ h => h) (Or.inl ⟨by rfl, ?_⟩) (by assumption) ?_
    · (intro w hSw; (try dsimp only at hSw); go_simp; try with_reducible rfl)
    try simp only [List.getElem_toArray, List.getElem_cons_succ, List.getElem_cons_zero, Act.put, List.setIfInBounds_toArray, List.set_cons_zero, List.set_cons_succ]
    refine wpAnyH_take (i := 5) (v := ?_) rfl (by kernel_rfl) (by kernel_rfl) (by kernel_rfl) (fun _ _ _ h => h) (Or.inl ⟨by rfl, ?_⟩) (by assumption) ?_
    rotate_left
    · (intro w hSw; (try dsimp only at hSw); go_simp; try with_reducible rfl)
    try simp only [List.getElem_toArray, List.getElem_cons_succ, List.getElem_cons_zero, Act.put, List.setIfInBounds_toArray, List.set_cons_zero, List.set_cons_succ]
    refine wpAnyH_take (i := 8) (v := ?_) rfl (by kernel_rfl) (by kernel_rfl) (by kernel_rfl) (fun _ _ _ h => h) (Or.inl ⟨by rfl, ?_⟩) (by assumption) ?_
    rotate_left
    · (intro w hSw; (try dsimp only at hSw); go_simp; try with_reducible rfl)
    try simp only [List.getElem_toArray, List.getElem_cons_succ, List.getElem_cons_zero, Act.put, List.setIfInBounds_toArray, List.set_cons_zero, List.set_cons_succ]
    refine wpAnyH_take (i := 9) (v := ?_) rfl (by kernel_rfl) (by kernel_rfl) (by kernel_rfl) (fun _ _ _ h => h) (Or.inl ⟨by rfl, ?_⟩) (by assumption) ?_
    rotate_left
    · (intro w hSw; (try dsimp only at hSw); go_simp; try with_reducible rfl)
    try simp only [List.getElem_toArray, List.getElem_cons_succ, List.getElem_cons_zero, Act.put, List.setIfInBounds_toArray, List.set_cons_zero, List.set_cons_succ]
    refine wpAnyH_take (i := 10) (v := (.slice (some AD) l2 (cap - n))) rfl (by kernel_rfl) (by kernel_rfl) (by kernel_rfl) (fun _ _ _ h => h) (Or.inl ⟨by rfl, ?_⟩) (by assumption) ?_
    · (intro w hSw; (try dsimp only at hSw); go_simp; try with_reducible rfl)
    try simp only [List.getElem_toArray, List.getElem_cons_succ, List.getElem_cons_zero, Act.put, List.setIfInBounds_toArray, List.set_cons_zero, List.set_cons_succ]
    refine wpAnyH_ready (rs := [0, 6]) (by kernel_rfl) (by simp) ?_
    refine AllReadyH.cons rfl (fun K hK => ?_) (AllReadyH.cons rfl (fun K hK => ?_) AllReadyH.nil)
    · skip
      go_simp
      refine hK.out _ _ ?_ (fun hHeld1 => ?_)
      · ((try dsimp only); exact HKB.out _ (by repeat (first | assumption | with_reducible exact Below.refl _ _ | with_reducible apply below_drew | with_reducible apply below_alloc)))
      clear hK K hHeld0
      refine wpAnyH_ready (rs := [4, 6]) (by kernel_rfl) (by simp) ?_
      refine AllReadyH.cons rfl (fun K hK => ?_) (AllReadyH.cons rfl (fun K hK => ?_) AllReadyH.nil)
      · skip
        refine step_append_first (by rfl) _ _ _ (by rfl) V.heap.size 40 i0 (.agg #[.int .i64 0, .int .i64 0]) 2 16 (by kernel_rfl) hi0 hz0 hz1 hz2 rfl (by decide) (.slice (some ⟨V.heap.size, 0, none⟩) 0 0) (by rfl) (by first | exact (World.ownsRow_made V #[] 0 (Nat.le_refl _) (Nat.zero_le _) rfl) | exact (World.ownsRow_made V #[] 0 (Nat.le_refl _) (Nat.zero_le _) rfl).drew | exact (World.ownsRow_made V #[] 0 (Nat.le_refl _) (Nat.zero_le _) rfl).alloc _ | exact ((World.ownsRow_made V #[] 0 (Nat.le_refl _) (Nat.zero_le _) rfl).alloc _).drew) ⟨lb, off, none⟩ n _ (ecells (E.take n)) (by rfl) HL1.out (HC1.out _ (by repeat (first | assumption | with_reducible exact Below.refl _ _ | with_reducible apply below_drew | with_reducible apply below_alloc))) HO1.out HM1.out HM2.out (by first | exact Nat.le_refl _ | (simp; done) | (simp; omega)) ?_
        intro a1 c1 Y1 hown4 hbel4 hgr4
        have hb4 := hbel4 V.heap.size V (Nat.le_refl _) (by repeat (first | assumption | with_reducible exact Below.refl _ _ | with_reducible apply below_drew | with_reducible apply below_alloc))
        refine hK.out _ _ ?_ (fun hHeld2 => ?_)
        · ((try dsimp only); exact HKB.out _ (by repeat (first | assumption | with_reducible exact Below.refl _ _ | with_reducible apply below_drew | with_reducible apply below_alloc)))
        clear hK K hHeld1
        refine wpAnyH_ready (rs := [6]) (by kernel_rfl) (by simp) ?_
        refine AllReadyH.cons rfl (fun K hK => ?_) AllReadyH.nil
        go_simp
        refine hK.out _ _ ?_ (fun hHeld3 => ?_)
        · ((try dsimp only); exact HKB.out _ (by repeat (first | assumption | with_reducible exact Below.refl _ _ | with_reducible apply below_drew | with_reducible apply below_alloc)))
        clear hK K hHeld2
        refine wpAnyH_ready (rs := [7]) (by kernel_rfl) (by simp) ?_
        refine AllReadyH.cons rfl (fun K hK => ?_) AllReadyH.nil
        refine step_append_any (by rfl) _ _ _ (by rfl) V.heap.size 40 i0 (.agg #[.int .i64 0, .int .i64 0]) 2 16 (by kernel_rfl) hi0 hz0 hz1 hz2 rfl (by decide) _ _ _ (by rfl) (by first | exact hown4 | exact hown4.alloc _ | exact hown4.drew | exact (hown4.alloc _).drew) ⟨Y1.heap.size, 0, none⟩ 1 1 [.int .i64 x, .int .i64 y] (by rfl) rfl (by first | exact news18 (RowIs.made Y1 40 [.int .i64 x, .int .i64 y]) | exact news18 (RowIs.made Y1 40 [.int .i64 x, .int .i64 y]).drew1) HO2.out HM3.out HM4.out (by first | exact hb4.size | exact (below_alloc hb4 _).size) ?_
        intro a2 c2 Y2 hown7 hbel7 hgr7
        have hb7 := hbel7 V.heap.size V (Nat.le_refl _) (by repeat (first | assumption | with_reducible exact Below.refl _ _ | with_reducible apply below_drew | with_reducible apply below_alloc))
        refine hK.out _ _ ?_ (fun hHeld4 => ?_)
        · ((try dsimp only); exact HKB.out _ (by repeat (first | assumption | with_reducible exact Below.refl _ _ | with_reducible apply below_drew | with_reducible apply below_alloc)))
        clear hK K hHeld3
        refine wpAnyH_ready (rs := [11]) (by kernel_rfl) (by simp) ?_
        refine AllReadyH.cons rfl (fun K hK => ?_) AllReadyH.nil
        refine step_append_any (by rfl) _ _ _ (by rfl) V.heap.size 40 i0 (.agg #[.int .i64 0, .int .i64 0]) 2 16 (by kernel_rfl) hi0 hz0 hz1 hz2 rfl (by decide) _ _ _ (by rfl) hown7 AD l2 _ (ecells (E.drop n)) (by rfl) HL3.out (HCA.out _ hb7) HO3.out HM5.out HM6.out hb7.size ?_
        intro a3 c3 Y3 hown11 hbel11 hgr11
        have hb11 := hbel11 V.heap.size V (Nat.le_refl _) (by repeat (first | assumption | with_reducible exact Below.refl _ _ | with_reducible apply below_drew | with_reducible apply below_alloc))
        refine hK.out _ _ ?_ (fun hHeld5 => ?_)
        · ((try dsimp only); exact HKB.out _ (by repeat (first | assumption | with_reducible exact Below.refl _ _ | with_reducible apply below_drew | with_reducible apply below_alloc)))
        clear hK K hHeld4
        refine wpAnyH_ready (rs := [12]) (by kernel_rfl) (by simp) ?_
        refine AllReadyH.cons rfl (fun K hK => ?_) AllReadyH.nil
        go_simp
        refine hK.out _ _ ?_ (fun hHeld6 => ?_)
        · ((try dsimp only); exact HKB.out _ (by repeat (first | assumption | with_reducible exact Below.refl _ _ | with_reducible apply below_drew | with_reducible apply below_alloc)))
        clear hK K hHeld5
        refine wpAnyH_done (by kernel_rfl) ?_ _
        clear hHeld6
        have HR := Lib.hid (HFN.out _ _ _ hown11 rfl hb11)
        clear hown4 hbel4 hgr4 hown7 hbel7 hgr7 hown11 hbel11 hgr11 hb4 hb7 hb11
        go_wp2
        exact bodyPost_ret (v := .slice a3 (n + 1 + l2) c3) (by simp [results, Tryz.results49, go_sem]) rfl HR.out
      · skip
        go_simp
        refine hK.out _ _ ?_ (fun hHeld7 => ?_)
        · ((try dsimp only); exact HKB.out _ (by repeat (first | assumption | with_reducible exact Below.refl _ _ | with_reducible apply below_drew | with_reducible apply below_alloc)))
        clear hK K hHeld1
        refine wpAnyH_ready (rs := [4]) (by kernel_rfl) (by simp) ?_
        refine AllReadyH.cons rfl (fun K hK => ?_) AllReadyH.nil
        refine step_append_first (by rfl) _ _ _ (by rfl) V.heap.size 40 i0 (.agg #[.int .i64 0, .int .i64 0]) 2 16 (by kernel_rfl) hi0 hz0 hz1 hz2 rfl (by decide) (.slice (some ⟨V.heap.size, 0, none⟩) 0 0) (by rfl) (by first | exact (World.ownsRow_made V #[] 0 (Nat.le_refl _) (Nat.zero_le _) rfl) | exact (World.ownsRow_made V #[] 0 (Nat.le_refl _) (Nat.zero_le _) rfl).drew | exact (World.ownsRow_made V #[] 0 (Nat.le_refl _) (Nat.zero_le _) rfl).alloc _ | exact ((World.ownsRow_made V #[] 0 (Nat.le_refl _) (Nat.zero_le _) rfl).alloc _).drew) ⟨lb, off, none⟩ n _ (ecells (E.take n)) (by rfl) HL1.out (HC1.out _ (by repeat (first | assumption | with_reducible exact Below.refl _ _ | with_reducible apply below_drew | with_reducible apply below_alloc))) HO1.out HM1.out HM2.out (by first | exact Nat.le_refl _ | (simp; done) | (simp; omega)) ?_
        intro a1 c1 Y1 hown4 hbel4 hgr4
        have hb4 := hbel4 V.heap.size V (Nat.le_refl _) (by repeat (first | assumption | with_reducible exact Below.refl _ _ | with_reducible apply below_drew | with_reducible apply below_alloc))
        refine hK.out _ _ ?_ (fun hHeld8 => ?_)
        · ((try dsimp only); exact HKB.out _ (by repeat (first | assumption | with_reducible exact Below.refl _ _ | with_reducible apply below_drew | with_reducible apply below_alloc)))
        clear hK K hHeld7
        refine wpAnyH_ready (rs := [7]) (by kernel_rfl) (by simp) ?_
        refine AllReadyH.cons rfl (fun K hK => ?_) AllReadyH.nil
        refine step_append_any (by rfl) _ _ _ (by rfl) V.heap.size 40 i0 (.agg #[.int .i64 0, .int .i64 0]) 2 16 (by kernel_rfl) hi0 hz0 hz1 hz2 rfl (by decide) _ _ _ (by rfl) (by first | exact hown4 | exact hown4.alloc _ | exact hown4.drew | exact (hown4.alloc _).drew) ⟨V.heap.size + 1, 0, none⟩ 1 1 [.int .i64 x, .int .i64 y] (by rfl) rfl (by first | exact news18 ((RowIs.made' (V.alloc (.cells #[] 40)) 40 [.int .i64 x, .int .i64 y] (V.heap.size + 1) (by simp)).grown hgr4 (by simp [Value.ownBlock])) | exact news18 ((RowIs.made' (V.alloc (.cells #[] 40)) 40 [.int .i64 x, .int .i64 y] (V.heap.size + 1) (by simp)).drew1.grown hgr4 (by simp [Value.ownBlock]))) HO2.out HM3.out HM4.out (by first | exact hb4.size | exact (below_alloc hb4 _).size) ?_
        intro a2 c2 Y2 hown7 hbel7 hgr7
        have hb7 := hbel7 V.heap.size V (Nat.le_refl _) (by repeat (first | assumption | with_reducible exact Below.refl _ _ | with_reducible apply below_drew | with_reducible apply below_alloc))
        refine hK.out _ _ ?_ (fun hHeld9 => ?_)
        · ((try dsimp only); exact HKB.out _ (by repeat (first | assumption | with_reducible exact Below.refl _ _ | with_reducible apply below_drew | with_reducible apply below_alloc)))
        clear hK K hHeld8
        refine wpAnyH_ready (rs := [11]) (by kernel_rfl) (by simp) ?_
        refine AllReadyH.cons rfl (fun K hK => ?_) AllReadyH.nil
        refine step_append_any (by rfl) _ _ _ (by rfl) V.heap.size 40 i0 (.agg #[.int .i64 0, .int .i64 0]) 2 16 (by kernel_rfl) hi0 hz0 hz1 hz2 rfl (by decide) _ _ _ (by rfl) hown7 AD l2 _ (ecells (E.drop n)) (by rfl) HL3.out (HCA.out _ hb7) HO3.out HM5.out HM6.out hb7.size ?_
        intro a3 c3 Y3 hown11 hbel11 hgr11
        have hb11 := hbel11 V.heap.size V (Nat.le_refl _) (by repeat (first | assumption | with_reducible exact Below.refl _ _ | with_reducible apply below_drew | with_reducible apply below_alloc))
        refine hK.out _ _ ?_ (fun hHeld10 => ?_)
        · ((try dsimp only); exact HKB.out _ (by repeat (first | assumption | with_reducible exact Below.refl _ _ | with_reducible apply below_drew | with_reducible apply below_alloc)))
        clear hK K hHeld9
        refine wpAnyH_ready (rs := [12]) (by kernel_rfl) (by simp) ?_
        refine AllReadyH.cons rfl (fun K hK => ?_) AllReadyH.nil
        go_simp
        refine hK.out _ _ ?_ (fun hHeld11 => ?_)
        · ((try dsimp only); exact HKB.out _ (by repeat (first | assumption | with_reducible exact Below.refl _ _ | with_reducible apply below_drew | with_reducible apply below_alloc)))
        clear hK K hHeld10
        refine wpAnyH_done (by kernel_rfl) ?_ _
        clear hHeld11
        have HR := Lib.hid (HFN.out _ _ _ hown11 rfl hb11)
        clear hown4 hbel4 hgr4 hown7 hbel7 hgr7 hown11 hbel11 hgr11 hb4 hb7 hb11
        go_wp2
        exact bodyPost_ret (v := .slice a3 (n + 1 + l2) c3) (by simp [results, Tryz.results49, go_sem]) rfl HR.out
    · skip
      go_simp
      refine hK.out _ _ ?_ (fun hHeld12 => ?_)
      · ((try dsimp only); exact HKB.out _ (by repeat (first | assumption | with_reducible exact Below.refl _ _ | with_reducible apply below_drew | with_reducible apply below_alloc)))
      clear hK K hHeld0
      refine wpAnyH_ready (rs := [0]) (by kernel_rfl) (by simp) ?_
      refine AllReadyH.cons rfl (fun K hK => ?_) AllReadyH.nil
      go_simp
      refine hK.out _ _ ?_ (fun hHeld13 => ?_)
      · ((try dsimp only); exact HKB.out _ (by repeat (first | assumption | with_reducible exact Below.refl _ _ | with_reducible apply below_drew | with_reducible apply below_alloc)))
      clear hK K hHeld12
      refine wpAnyH_ready (rs := [4]) (by kernel_rfl) (by simp) ?_
      refine AllReadyH.cons rfl (fun K hK => ?_) AllReadyH.nil
      refine step_append_first (by rfl) _ _ _ (by rfl) V.heap.size 40 i0 (.agg #[.int .i64 0, .int .i64 0]) 2 16 (by kernel_rfl) hi0 hz0 hz1 hz2 rfl (by decide) (.slice (some ⟨V.heap.size + 1, 0, none⟩) 0 0) (by rfl) (by have h := World.ownsRow_made (V.alloc (.cells #[.int .i64 x, .int .i64 y] 40)) #[] 0 (e := 40) (size := 2) (Nat.le_refl _) (Nat.zero_le _) rfl; simp only [World.size_alloc] at h; first | exact owns_base h (by omega) | exact (owns_base h (by omega)).drew) ⟨lb, off, none⟩ n _ (ecells (E.take n)) (by rfl) HL1.out (HC1.out _ (by repeat (first | assumption | with_reducible exact Below.refl _ _ | with_reducible apply below_drew | with_reducible apply below_alloc))) HO1.out HM1.out HM2.out (by first | exact Nat.le_refl _ | (simp; done) | (simp; omega)) ?_
      intro a1 c1 Y1 hown4 hbel4 hgr4
      have hb4 := hbel4 V.heap.size V (Nat.le_refl _) (by repeat (first | assumption | with_reducible exact Below.refl _ _ | with_reducible apply below_drew | with_reducible apply below_alloc))
      refine hK.out _ _ ?_ (fun hHeld14 => ?_)
      · ((try dsimp only); exact HKB.out _ (by repeat (first | assumption | with_reducible exact Below.refl _ _ | with_reducible apply below_drew | with_reducible apply below_alloc)))
      clear hK K hHeld13
      refine wpAnyH_ready (rs := [7]) (by kernel_rfl) (by simp) ?_
      refine AllReadyH.cons rfl (fun K hK => ?_) AllReadyH.nil
      refine step_append_any (by rfl) _ _ _ (by rfl) V.heap.size 40 i0 (.agg #[.int .i64 0, .int .i64 0]) 2 16 (by kernel_rfl) hi0 hz0 hz1 hz2 rfl (by decide) _ _ _ (by rfl) (by first | exact hown4 | exact hown4.alloc _ | exact hown4.drew | exact (hown4.alloc _).drew) ⟨V.heap.size, 0, none⟩ 1 1 [.int .i64 x, .int .i64 y] (by rfl) rfl (by first | exact news18 (((RowIs.made V 40 [.int .i64 x, .int .i64 y]).alloc (.cells #[] 40)).grown hgr4 (by simp [Value.ownBlock])) | exact news18 (((RowIs.made V 40 [.int .i64 x, .int .i64 y]).alloc (.cells #[] 40)).drew1.grown hgr4 (by simp [Value.ownBlock]))) HO2.out HM3.out HM4.out (by first | exact hb4.size | exact (below_alloc hb4 _).size) ?_
      intro a2 c2 Y2 hown7 hbel7 hgr7
      have hb7 := hbel7 V.heap.size V (Nat.le_refl _) (by repeat (first | assumption | with_reducible exact Below.refl _ _ | with_reducible apply below_drew | with_reducible apply below_alloc))
      refine hK.out _ _ ?_ (fun hHeld15 => ?_)
      · ((try dsimp only); exact HKB.out _ (by repeat (first | assumption | with_reducible exact Below.refl _ _ | with_reducible apply below_drew | with_reducible apply below_alloc)))
      clear hK K hHeld14
      refine wpAnyH_ready (rs := [11]) (by kernel_rfl) (by simp) ?_
      refine AllReadyH.cons rfl (fun K hK => ?_) AllReadyH.nil
      refine step_append_any (by rfl) _ _ _ (by rfl) V.heap.size 40 i0 (.agg #[.int .i64 0, .int .i64 0]) 2 16 (by kernel_rfl) hi0 hz0 hz1 hz2 rfl (by decide) _ _ _ (by rfl) hown7 AD l2 _ (ecells (E.drop n)) (by rfl) HL3.out (HCA.out _ hb7) HO3.out HM5.out HM6.out hb7.size ?_
      intro a3 c3 Y3 hown11 hbel11 hgr11
      have hb11 := hbel11 V.heap.size V (Nat.le_refl _) (by repeat (first | assumption | with_reducible exact Below.refl _ _ | with_reducible apply below_drew | with_reducible apply below_alloc))
      refine hK.out _ _ ?_ (fun hHeld16 => ?_)
      · ((try dsimp only); exact HKB.out _ (by repeat (first | assumption | with_reducible exact Below.refl _ _ | with_reducible apply below_drew | with_reducible apply below_alloc)))
      clear hK K hHeld15
      refine wpAnyH_ready (rs := [12]) (by kernel_rfl) (by simp) ?_
      refine AllReadyH.cons rfl (fun K hK => ?_) AllReadyH.nil
      go_simp
      refine hK.out _ _ ?_ (fun hHeld17 => ?_)
      · ((try dsimp only); exact HKB.out _ (by repeat (first | assumption | with_reducible exact Below.refl _ _ | with_reducible apply below_drew | with_reducible apply below_alloc)))
      clear hK K hHeld16
      refine wpAnyH_done (by kernel_rfl) ?_ _
      clear hHeld17
      have HR := Lib.hid (HFN.out _ _ _ hown11 rfl hb11)
      clear hown4 hbel4 hgr4 hown7 hbel7 hgr7 hown11 hbel11 hgr11 hb4 hb7 hb11
      go_wp2
      exact bodyPost_ret (v := .slice a3 (n + 1 + l2) c3) (by simp [results, Tryz.results49, go_sem]) rfl HR.out
  case pos =>
  obtain ⟨⟨a, b⟩, hab⟩ : ∃ e, e = E! E k := ⟨_, rfl⟩
  have hEk : E[k]? = some (a, b) := by
    have hk' : k < E.length := by rw [← HN.out]; exact hlt
    rw [List.getElem?_eq_getElem hk', hab]
    simp [E!, hk']
  obtain ⟨lt, hlt'⟩ : ∃ lt : Bool, lt = @decide (ltE (a, b) (x, y)) (Classical.propDecidable _) := ⟨_, rfl⟩
  have HLTB := Lib.hid (show lt = true ↔ ltE (a, b) (x, y) from by rw [hlt']; exact @decide_eq_true_iff _ (Classical.propDecidable _))
  have HEK := Lib.hid hEk
  have HLS := Lib.hid (show ∀ w', Hid (Below X.heap.size X w') → Calls Tryz.prog 89 #[.agg #[.int .i64 a, .int .i64 b], .agg #[.int .i64 x, .int .i64 y]] w' fun e w'' => e = .returned (.bool lt) ∧ Hid (Below X.heap.size X w'') from fun w' h =>
    (less18 a b x y w').mono fun e w'' ⟨r, he, hr', hb'⟩ => ⟨by rw [he, show r = lt from Bool.eq_iff_iff.2 (hr'.trans HLTB.out.symm)], below_more h.out hb' h.out.size⟩)
  have HK := Lib.hid (show ∀ w', Hid (Below X.heap.size X w') → w'.cell? ⟨lb, off + k * 2, none⟩ = some (.int .i64 a) ∧ w'.cell? ⟨lb, off + k * 2 + 1, none⟩ = some (.int .i64 b) ∧ w'.cell? ⟨xb, 0, none⟩ = some (.int .i64 x) ∧ w'.cell? ⟨xb, 1, none⟩ = some (.int .i64 y) from fun w' h => by
    have hb2 := below_more hb h.out hb.size
    obtain ⟨lb', off', e, -, hcc⟩ := HE.out.mono (Nat.le_refl _) hb2 (by intro e; have := HN.out; rw [e] at this; simp at this; omega)
    cases e
    obtain ⟨c1, c2⟩ := hcc k (by rw [← HN.out]; exact hlt)
    rw [← hab] at c1 c2
    exact ⟨c1, c2, (HR0.out.after hb2).cell (i := 0) rfl, (HR0.out.after hb2).cell (i := 1) rfl⟩)
  have HRF := Lib.hid (Below.refl X.heap.size X)
  have HDR := Lib.hid (show Below X.heap.size X X.drew from ⟨rfl, rfl, rfl, Nat.le_refl _, fun _ _ => rfl⟩)
  have bk : (0 : Int) ≤ (k : Int) ∧ (k : Int) < (n : Int) := by omega
  clear hr d1 d2 hb hab hEk hlt'
  go_upto_region 2 with fail
  go_region_held3 (fun w' => w'.cell? ⟨lb, off + k * 2, none⟩ = some (.int .i64 a) ∧ w'.cell? ⟨lb, off + k * 2 + 1, none⟩ = some (.int .i64 b) ∧ w'.cell? ⟨xb, 0, none⟩ = some (.int .i64 x) ∧ w'.cell? ⟨xb, 1, none⟩ = some (.int .i64 y))
    (exact HK.out _ (by assumption))
    (first | (go_at_call 89; (with_reducible refine (HLS.out _ (by assumption)).mono ?_); rintro e w2 ⟨rfl, hb2⟩))
  have HB2 := Lib.hid (below_more HBX.out hb2.out HBX.out.size)
  cases lt
  case' true =>
    have HNX := Lib.hid (show ∀ i e, i < k + 1 → E[i]? = some e → ltE e (x, y) from fun i e hi he => by
      by_cases q : i = k
      · subst q
        rw [HEK.out] at he
        cases he
        exact HLTB.out.1 rfl
      · exact HLT.out i e (by omega) he)
    clear hb2
    go_wp2
    go_roundw
    case rel => exact ⟨k + 1, by omega, by go_num, HNX, HB2.out⟩
    case measure => simp [intOf]; omega
  case' false =>
  obtain ⟨d0, d1, d2, d3⟩ := HK.out w2 hb2
  obtain ⟨t, ht⟩ : ∃ t, t = (a == x && b == y) := ⟨_, rfl⟩
  have hte : ∀ w, (Op.equalIn 10000 40 (.agg #[.int .i64 a, .int .i64 b]) (.agg #[.int .i64 x, .int .i64 y])).run Tryz.prog w = .ok t w := fun w => by rw [ht]; exact edge_equal a b x y w
  have HTT := Lib.hid (show t = true ↔ (a, b) = (x, y) from by rw [ht]; simp)
  have HQN := Lib.hid (show ∀ q, Below W0.heap.size W0 (w2.drewN q) from fun q => below_drewN HB2.out q)
  have HNL := Lib.hid (show ¬ ltE (a, b) (x, y) from fun h => by have := HLTB.out.2 h; cases this)
  clear hb2 ht
  cases t
  case' true =>
    have HTE := Lib.hid (HTT.out.1 rfl)
    go_wp2
    go_quiet (fail)
    rename_i nq
    have HFIN := Lib.hid (show InsertP E (x, y) w (.returned (.slice (some ⟨lb, off, none⟩) n cap)) (w2.drewN nq) from by
      have hb5 := HQN.out nq
      refine ⟨_, E, rfl, ⟨lb, off, cap, by rw [HN.out], by rw [← HN.out]; exact hc, HLB.out _ hb5, HE.out.mono (Nat.le_refl _) hb5⟩, ⟨k, by rw [← HN.out]; exact hk, HLT.out, fun e he => ?_, .inl ⟨?_, rfl⟩⟩, HBF.out _ hb5⟩
      · rw [HEK.out] at he; cases he; exact HNL.out
      · rw [HEK.out, HTE.out])
    go_wp2
    exact bodyPost_ret (v := .slice (some ⟨lb, off, none⟩) n cap) (by simp [results, Tryz.results49, go_sem]) rfl HFIN.out
  case' false =>
  have HGE := Lib.hid (show ∀ e, E[k]? = some e → ¬ ltE e (x, y) ∧ e ≠ (x, y) from fun e he => by
    rw [HEK.out] at he
    cases he
    exact ⟨HNL.out, fun q => by have := HTT.out.2 q; cases this⟩)
  go_wp2
  go_quiet (fail)
  rename_i nq
  have hVb := HQN.out nq
  obtain ⟨V, hV⟩ : ∃ V, V = w2.drewN nq := ⟨_, rfl⟩
  rw [← hV] at hVb ⊢
  have HVB := Lib.hid hVb
  have HC1 := Lib.hid (show ∀ X, Below V.heap.size V X → ∀ j u, (ecells (E.take k))[j]? = some u → X.cell? ((⟨lb, off, none⟩ : Addr).add j) = some u from fun X h j u hj => by
    rw [Addr.add_lit]
    exact EdgesAt.cells (HE.out.mono (Nat.le_refl _) (below_more HVB.out h HVB.out.size)) j u (etake_cells hj))
  have HL1 := Lib.hid (show (ecells (E.take k)).length = k * 2 from by rw [ecells_length, List.length_take]; congr 1; have := HN.out; omega)
  obtain ⟨l2, hl2⟩ : ∃ l2, l2 = n - k := ⟨_, rfl⟩
  have HL2 := Lib.hid hl2
  have HL3 := Lib.hid (show (ecells (E.drop k)).length = l2 * 2 from by rw [ecells_length, List.length_drop]; congr 1; have := HN.out; omega)
  obtain ⟨AD, hAD⟩ : ∃ AD : Addr, AD = if cap = k then ⟨lb, off, none⟩ else ⟨lb, off + k * 2, none⟩ := ⟨_, rfl⟩
  have HCA := Lib.hid (show ∀ X, Below V.heap.size V X → ∀ j u, (ecells (E.drop k))[j]? = some u → X.cell? (AD.add j) = some u from fun X h j u hj => by
    rw [hAD]
    by_cases e : cap = k
    · have h1 := (List.getElem?_eq_some_iff.1 hj).1
      rw [HL3.out] at h1
      omega
    · rw [if_neg e, Addr.add_lit, Nat.add_assoc]
      exact EdgesAt.cells (HE.out.mono (Nat.le_refl _) (below_more HVB.out h HVB.out.size)) _ u (edrop_cells hj (by have := HN.out; omega)))
  have hs1 : ∀ w, (Instr.sliceAt 34 (.slice (some ⟨lb, off, none⟩) n cap) none (some (.int .i64 (k : Int))) none).run Tryz.prog w = .ok (.slice (some ⟨lb, off, none⟩) k cap) w := fun w => esliceAt_hi lb off n cap k (by omega) w
  have hs2 : ∀ w, (Instr.sliceAt 34 (.slice (some ⟨lb, off, none⟩) n cap) (some (.int .i64 (k : Int))) none none).run Tryz.prog w = .ok (.slice (some AD) l2 (cap - k)) w := fun w => by
    rw [esliceAt_lo lb off n cap k (by omega) w, ← hl2, hAD]
  have HO1 := Lib.hid (ecells_one (E.take k))
  have HO2 := Lib.hid (show ∀ u ∈ [Value.int .i64 x, Value.int .i64 y], u.oneCell' = true from by intro u hu; simp at hu; rcases hu with rfl | rfl <;> rfl)
  have HO3 := Lib.hid (ecells_one (E.drop k))
  have HM1 := Lib.hid (show k ≤ maxLen by unfold maxLen; omega)
  have HM2 := Lib.hid (show k * 16 ≤ 140737488355328 by omega)
  have HM3 := Lib.hid (show k + 1 ≤ maxLen by unfold maxLen; omega)
  have HM4 := Lib.hid (show (k + 1) * 16 ≤ 140737488355328 by omega)
  have HM5 := Lib.hid (show k + 1 + l2 ≤ maxLen by unfold maxLen; omega)
  have HM6 := Lib.hid (show (k + 1 + l2) * 16 ≤ 140737488355328 by omega)
  have HKB := Lib.hid (show ∀ w', Below V.heap.size V w' → w'.cell? ⟨xb, 0, none⟩ = some (.int .i64 x) ∧ w'.cell? ⟨xb, 1, none⟩ = some (.int .i64 y) from fun w' h => ⟨(HR0.out.after (below_more HVB.out h HVB.out.size)).cell (i := 0) rfl, (HR0.out.after (below_more HVB.out h HVB.out.size)).cell (i := 1) rfl⟩)
  have HFN := Lib.hid (show ∀ (W' : World) (v : Value) (xs : List Value), W'.ownsRow V.heap.size 40 2 v (k + 1 + l2) xs → xs = ecells (E.take k) ++ [.int .i64 x, .int .i64 y] ++ ecells (E.drop k) → Below V.heap.size V W' → InsertP E (x, y) w (.returned v) W' from fun W' v xs ho hx hb' => insertP_new ho hx HN.out (by omega) HL2.out HLT.out HGE.out (HBF.out _ (below_more HVB.out hb' HVB.out.size)))
  clear hV hVb hl2 hAD
  go_upto_region 6 with fail
  refine wp_region_held_drew (S := (fun w' => w'.cell? ⟨xb, 0, none⟩ = some (.int .i64 x) ∧ w'.cell? ⟨xb, 1, none⟩ = some (.int .i64 y))) (by kernel_rfl) ?_ (fun hHeld0 => ?_)
  · ((try dsimp only); exact HKB.out _ (by repeat (first | assumption | with_reducible exact Below.refl _ _ | with_reducible apply below_drew | with_reducible apply below_alloc)))
  refine wpAnyH_take (i := 1) (v := ?_) rfl (by kernel_rfl) (by kernel_rfl) (by kernel_rfl) (fun _ _ _ h => h) (Or.inl ⟨by rfl, ?_⟩) (by assumption) ?_
  rotate_left
  · (intro w hSw; (try dsimp only at hSw); go_simp; try with_reducible rfl)
  try simp only [List.getElem_toArray, List.getElem_cons_succ, List.getElem_cons_zero, Act.put, List.setIfInBounds_toArray, List.set_cons_zero, List.set_cons_succ]
  refine wpAnyH_take (i := 2) (v := ?_) rfl (by kernel_rfl) (by kernel_rfl) (by kernel_rfl) (fun _ _ _ h => h) (Or.inl ⟨by rfl, ?_⟩) (by assumption) ?_
  rotate_left
  · (intro w hSw; (try dsimp only at hSw); go_simp; try with_reducible rfl)
  try simp only [List.getElem_toArray, List.getElem_cons_succ, List.getElem_cons_zero, Act.put, List.setIfInBounds_toArray, List.set_cons_zero, List.set_cons_succ]
  refine wpAnyH_take (i := 3) (v := (.slice (some ⟨lb, off, none⟩) k cap)) rfl (by kernel_rfl) (by kernel_rfl) (by kernel_rfl) (fun _ _ _ h => h) (Or.inl ⟨by rfl, ?_⟩) (by assumption) ?_
  · (intro w hSw; (try dsimp only at hSw); go_simp; try with_reducible rfl)
  try simp only [List.getElem_toArray, List.getElem_cons_succ, List.getElem_cons_zero, Act.put, List.setIfInBounds_toArray, List.set_cons_zero, List.set_cons_succ]
  refine wpAnyH_take (i := 5) (v := ?_) rfl (by kernel_rfl) (by kernel_rfl) (by kernel_rfl) (fun _ _ _ h => h) (Or.inl ⟨by rfl, ?_⟩) (by assumption) ?_
  rotate_left
  · (intro w hSw; (try dsimp only at hSw); go_simp; try with_reducible rfl)
  try simp only [List.getElem_toArray, List.getElem_cons_succ, List.getElem_cons_zero, Act.put, List.setIfInBounds_toArray, List.set_cons_zero, List.set_cons_succ]
  refine wpAnyH_take (i := 8) (v := ?_) rfl (by kernel_rfl) (by kernel_rfl) (by kernel_rfl) (fun _ _ _ h => h) (Or.inl ⟨by rfl, ?_⟩) (by assumption) ?_
  rotate_left
  · (intro w hSw; (try dsimp only at hSw); go_simp; try with_reducible rfl)
  try simp only [List.getElem_toArray, List.getElem_cons_succ, List.getElem_cons_zero, Act.put, List.setIfInBounds_toArray, List.set_cons_zero, List.set_cons_succ]
  refine wpAnyH_take (i := 9) (v := ?_) rfl (by kernel_rfl) (by kernel_rfl) (by kernel_rfl) (fun _ _ _ h => h) (Or.inl ⟨by rfl, ?_⟩) (by assumption) ?_
  rotate_left
  · (intro w hSw; (try dsimp only at hSw); go_simp; try with_reducible rfl)
  try simp only [List.getElem_toArray, List.getElem_cons_succ, List.getElem_cons_zero, Act.put, List.setIfInBounds_toArray, List.set_cons_zero, List.set_cons_succ]
  refine wpAnyH_take (i := 10) (v := (.slice (some AD) l2 (cap - k))) rfl (by kernel_rfl) (by kernel_rfl) (by kernel_rfl) (fun _ _ _ h => h) (Or.inl ⟨by rfl, ?_⟩) (by assumption) ?_
  · (intro w hSw; (try dsimp only at hSw); go_simp; try with_reducible rfl)
  try simp only [List.getElem_toArray, List.getElem_cons_succ, List.getElem_cons_zero, Act.put, List.setIfInBounds_toArray, List.set_cons_zero, List.set_cons_succ]
  refine wpAnyH_ready (rs := [0, 6]) (by kernel_rfl) (by simp) ?_
  refine AllReadyH.cons rfl (fun K hK => ?_) (AllReadyH.cons rfl (fun K hK => ?_) AllReadyH.nil)
  · skip
    go_simp
    refine hK.out _ _ ?_ (fun hHeld1 => ?_)
    · ((try dsimp only); exact HKB.out _ (by repeat (first | assumption | with_reducible exact Below.refl _ _ | with_reducible apply below_drew | with_reducible apply below_alloc)))
    clear hK K hHeld0
    refine wpAnyH_ready (rs := [4, 6]) (by kernel_rfl) (by simp) ?_
    refine AllReadyH.cons rfl (fun K hK => ?_) (AllReadyH.cons rfl (fun K hK => ?_) AllReadyH.nil)
    · skip
      refine step_append_first (by rfl) _ _ _ (by rfl) V.heap.size 40 i0 (.agg #[.int .i64 0, .int .i64 0]) 2 16 (by kernel_rfl) hi0 hz0 hz1 hz2 rfl (by decide) (.slice (some ⟨V.heap.size, 0, none⟩) 0 0) (by rfl) (by first | exact (World.ownsRow_made V #[] 0 (Nat.le_refl _) (Nat.zero_le _) rfl) | exact (World.ownsRow_made V #[] 0 (Nat.le_refl _) (Nat.zero_le _) rfl).drew | exact (World.ownsRow_made V #[] 0 (Nat.le_refl _) (Nat.zero_le _) rfl).alloc _ | exact ((World.ownsRow_made V #[] 0 (Nat.le_refl _) (Nat.zero_le _) rfl).alloc _).drew) ⟨lb, off, none⟩ k _ (ecells (E.take k)) (by rfl) HL1.out (HC1.out _ (by repeat (first | assumption | with_reducible exact Below.refl _ _ | with_reducible apply below_drew | with_reducible apply below_alloc))) HO1.out HM1.out HM2.out (by first | exact Nat.le_refl _ | (simp; done) | (simp; omega)) ?_
      intro a1 c1 Y1 hown4 hbel4 hgr4
      have hb4 := hbel4 V.heap.size V (Nat.le_refl _) (by repeat (first | assumption | with_reducible exact Below.refl _ _ | with_reducible apply below_drew | with_reducible apply below_alloc))
      refine hK.out _ _ ?_ (fun hHeld2 => ?_)
      · ((try dsimp only); exact HKB.out _ (by repeat (first | assumption | with_reducible exact Below.refl _ _ | with_reducible apply below_drew | with_reducible apply below_alloc)))
      clear hK K hHeld1
      refine wpAnyH_ready (rs := [6]) (by kernel_rfl) (by simp) ?_
      refine AllReadyH.cons rfl (fun K hK => ?_) AllReadyH.nil
      go_simp
      refine hK.out _ _ ?_ (fun hHeld3 => ?_)
      · ((try dsimp only); exact HKB.out _ (by repeat (first | assumption | with_reducible exact Below.refl _ _ | with_reducible apply below_drew | with_reducible apply below_alloc)))
      clear hK K hHeld2
      refine wpAnyH_ready (rs := [7]) (by kernel_rfl) (by simp) ?_
      refine AllReadyH.cons rfl (fun K hK => ?_) AllReadyH.nil
      refine step_append_any (by rfl) _ _ _ (by rfl) V.heap.size 40 i0 (.agg #[.int .i64 0, .int .i64 0]) 2 16 (by kernel_rfl) hi0 hz0 hz1 hz2 rfl (by decide) _ _ _ (by rfl) (by first | exact hown4 | exact hown4.alloc _ | exact hown4.drew | exact (hown4.alloc _).drew) ⟨Y1.heap.size, 0, none⟩ 1 1 [.int .i64 x, .int .i64 y] (by rfl) rfl (by first | exact news18 (RowIs.made Y1 40 [.int .i64 x, .int .i64 y]) | exact news18 (RowIs.made Y1 40 [.int .i64 x, .int .i64 y]).drew1) HO2.out HM3.out HM4.out (by first | exact hb4.size | exact (below_alloc hb4 _).size) ?_
      intro a2 c2 Y2 hown7 hbel7 hgr7
      have hb7 := hbel7 V.heap.size V (Nat.le_refl _) (by repeat (first | assumption | with_reducible exact Below.refl _ _ | with_reducible apply below_drew | with_reducible apply below_alloc))
      refine hK.out _ _ ?_ (fun hHeld4 => ?_)
      · ((try dsimp only); exact HKB.out _ (by repeat (first | assumption | with_reducible exact Below.refl _ _ | with_reducible apply below_drew | with_reducible apply below_alloc)))
      clear hK K hHeld3
      refine wpAnyH_ready (rs := [11]) (by kernel_rfl) (by simp) ?_
      refine AllReadyH.cons rfl (fun K hK => ?_) AllReadyH.nil
      refine step_append_any (by rfl) _ _ _ (by rfl) V.heap.size 40 i0 (.agg #[.int .i64 0, .int .i64 0]) 2 16 (by kernel_rfl) hi0 hz0 hz1 hz2 rfl (by decide) _ _ _ (by rfl) hown7 AD l2 _ (ecells (E.drop k)) (by rfl) HL3.out (HCA.out _ hb7) HO3.out HM5.out HM6.out hb7.size ?_
      intro a3 c3 Y3 hown11 hbel11 hgr11
      have hb11 := hbel11 V.heap.size V (Nat.le_refl _) (by repeat (first | assumption | with_reducible exact Below.refl _ _ | with_reducible apply below_drew | with_reducible apply below_alloc))
      refine hK.out _ _ ?_ (fun hHeld5 => ?_)
      · ((try dsimp only); exact HKB.out _ (by repeat (first | assumption | with_reducible exact Below.refl _ _ | with_reducible apply below_drew | with_reducible apply below_alloc)))
      clear hK K hHeld4
      refine wpAnyH_ready (rs := [12]) (by kernel_rfl) (by simp) ?_
      refine AllReadyH.cons rfl (fun K hK => ?_) AllReadyH.nil
      go_simp
      refine hK.out _ _ ?_ (fun hHeld6 => ?_)
      · ((try dsimp only); exact HKB.out _ (by repeat (first | assumption | with_reducible exact Below.refl _ _ | with_reducible apply below_drew | with_reducible apply below_alloc)))
      clear hK K hHeld5
      refine wpAnyH_done (by kernel_rfl) ?_ _
      clear hHeld6
      have HR := Lib.hid (HFN.out _ _ _ hown11 rfl hb11)
      clear hown4 hbel4 hgr4 hown7 hbel7 hgr7 hown11 hbel11 hgr11 hb4 hb7 hb11
      go_wp2
      exact bodyPost_ret (v := .slice a3 (k + 1 + l2) c3) (by simp [results, Tryz.results49, go_sem]) rfl HR.out
    · skip
      go_simp
      refine hK.out _ _ ?_ (fun hHeld7 => ?_)
      · ((try dsimp only); exact HKB.out _ (by repeat (first | assumption | with_reducible exact Below.refl _ _ | with_reducible apply below_drew | with_reducible apply below_alloc)))
      clear hK K hHeld1
      refine wpAnyH_ready (rs := [4]) (by kernel_rfl) (by simp) ?_
      refine AllReadyH.cons rfl (fun K hK => ?_) AllReadyH.nil
      refine step_append_first (by rfl) _ _ _ (by rfl) V.heap.size 40 i0 (.agg #[.int .i64 0, .int .i64 0]) 2 16 (by kernel_rfl) hi0 hz0 hz1 hz2 rfl (by decide) (.slice (some ⟨V.heap.size, 0, none⟩) 0 0) (by rfl) (by first | exact (World.ownsRow_made V #[] 0 (Nat.le_refl _) (Nat.zero_le _) rfl) | exact (World.ownsRow_made V #[] 0 (Nat.le_refl _) (Nat.zero_le _) rfl).drew | exact (World.ownsRow_made V #[] 0 (Nat.le_refl _) (Nat.zero_le _) rfl).alloc _ | exact ((World.ownsRow_made V #[] 0 (Nat.le_refl _) (Nat.zero_le _) rfl).alloc _).drew) ⟨lb, off, none⟩ k _ (ecells (E.take k)) (by rfl) HL1.out (HC1.out _ (by repeat (first | assumption | with_reducible exact Below.refl _ _ | with_reducible apply below_drew | with_reducible apply below_alloc))) HO1.out HM1.out HM2.out (by first | exact Nat.le_refl _ | (simp; done) | (simp; omega)) ?_
      intro a1 c1 Y1 hown4 hbel4 hgr4
      have hb4 := hbel4 V.heap.size V (Nat.le_refl _) (by repeat (first | assumption | with_reducible exact Below.refl _ _ | with_reducible apply below_drew | with_reducible apply below_alloc))
      refine hK.out _ _ ?_ (fun hHeld8 => ?_)
      · ((try dsimp only); exact HKB.out _ (by repeat (first | assumption | with_reducible exact Below.refl _ _ | with_reducible apply below_drew | with_reducible apply below_alloc)))
      clear hK K hHeld7
      refine wpAnyH_ready (rs := [7]) (by kernel_rfl) (by simp) ?_
      refine AllReadyH.cons rfl (fun K hK => ?_) AllReadyH.nil
      refine step_append_any (by rfl) _ _ _ (by rfl) V.heap.size 40 i0 (.agg #[.int .i64 0, .int .i64 0]) 2 16 (by kernel_rfl) hi0 hz0 hz1 hz2 rfl (by decide) _ _ _ (by rfl) (by first | exact hown4 | exact hown4.alloc _ | exact hown4.drew | exact (hown4.alloc _).drew) ⟨V.heap.size + 1, 0, none⟩ 1 1 [.int .i64 x, .int .i64 y] (by rfl) rfl (by first | exact news18 ((RowIs.made' (V.alloc (.cells #[] 40)) 40 [.int .i64 x, .int .i64 y] (V.heap.size + 1) (by simp)).grown hgr4 (by simp [Value.ownBlock])) | exact news18 ((RowIs.made' (V.alloc (.cells #[] 40)) 40 [.int .i64 x, .int .i64 y] (V.heap.size + 1) (by simp)).drew1.grown hgr4 (by simp [Value.ownBlock]))) HO2.out HM3.out HM4.out (by first | exact hb4.size | exact (below_alloc hb4 _).size) ?_
      intro a2 c2 Y2 hown7 hbel7 hgr7
      have hb7 := hbel7 V.heap.size V (Nat.le_refl _) (by repeat (first | assumption | with_reducible exact Below.refl _ _ | with_reducible apply below_drew | with_reducible apply below_alloc))
      refine hK.out _ _ ?_ (fun hHeld9 => ?_)
      · ((try dsimp only); exact HKB.out _ (by repeat (first | assumption | with_reducible exact Below.refl _ _ | with_reducible apply below_drew | with_reducible apply below_alloc)))
      clear hK K hHeld8
      refine wpAnyH_ready (rs := [11]) (by kernel_rfl) (by simp) ?_
      refine AllReadyH.cons rfl (fun K hK => ?_) AllReadyH.nil
      refine step_append_any (by rfl) _ _ _ (by rfl) V.heap.size 40 i0 (.agg #[.int .i64 0, .int .i64 0]) 2 16 (by kernel_rfl) hi0 hz0 hz1 hz2 rfl (by decide) _ _ _ (by rfl) hown7 AD l2 _ (ecells (E.drop k)) (by rfl) HL3.out (HCA.out _ hb7) HO3.out HM5.out HM6.out hb7.size ?_
      intro a3 c3 Y3 hown11 hbel11 hgr11
      have hb11 := hbel11 V.heap.size V (Nat.le_refl _) (by repeat (first | assumption | with_reducible exact Below.refl _ _ | with_reducible apply below_drew | with_reducible apply below_alloc))
      refine hK.out _ _ ?_ (fun hHeld10 => ?_)
      · ((try dsimp only); exact HKB.out _ (by repeat (first | assumption | with_reducible exact Below.refl _ _ | with_reducible apply below_drew | with_reducible apply below_alloc)))
      clear hK K hHeld9
      refine wpAnyH_ready (rs := [12]) (by kernel_rfl) (by simp) ?_
      refine AllReadyH.cons rfl (fun K hK => ?_) AllReadyH.nil
      go_simp
      refine hK.out _ _ ?_ (fun hHeld11 => ?_)
      · ((try dsimp only); exact HKB.out _ (by repeat (first | assumption | with_reducible exact Below.refl _ _ | with_reducible apply below_drew | with_reducible apply below_alloc)))
      clear hK K hHeld10
      refine wpAnyH_done (by kernel_rfl) ?_ _
      clear hHeld11
      have HR := Lib.hid (HFN.out _ _ _ hown11 rfl hb11)
      clear hown4 hbel4 hgr4 hown7 hbel7 hgr7 hown11 hbel11 hgr11 hb4 hb7 hb11
      go_wp2
      exact bodyPost_ret (v := .slice a3 (k + 1 + l2) c3) (by simp [results, Tryz.results49, go_sem]) rfl HR.out
  · skip
    go_simp
    refine hK.out _ _ ?_ (fun hHeld12 => ?_)
    · ((try dsimp only); exact HKB.out _ (by repeat (first | assumption | with_reducible exact Below.refl _ _ | with_reducible apply below_drew | with_reducible apply below_alloc)))
    clear hK K hHeld0
    refine wpAnyH_ready (rs := [0]) (by kernel_rfl) (by simp) ?_
    refine AllReadyH.cons rfl (fun K hK => ?_) AllReadyH.nil
    go_simp
    refine hK.out _ _ ?_ (fun hHeld13 => ?_)
    · ((try dsimp only); exact HKB.out _ (by repeat (first | assumption | with_reducible exact Below.refl _ _ | with_reducible apply below_drew | with_reducible apply below_alloc)))
    clear hK K hHeld12
    refine wpAnyH_ready (rs := [4]) (by kernel_rfl) (by simp) ?_
    refine AllReadyH.cons rfl (fun K hK => ?_) AllReadyH.nil
    refine step_append_first (by rfl) _ _ _ (by rfl) V.heap.size 40 i0 (.agg #[.int .i64 0, .int .i64 0]) 2 16 (by kernel_rfl) hi0 hz0 hz1 hz2 rfl (by decide) (.slice (some ⟨V.heap.size + 1, 0, none⟩) 0 0) (by rfl) (by have h := World.ownsRow_made (V.alloc (.cells #[.int .i64 x, .int .i64 y] 40)) #[] 0 (e := 40) (size := 2) (Nat.le_refl _) (Nat.zero_le _) rfl; simp only [World.size_alloc] at h; first | exact owns_base h (by omega) | exact (owns_base h (by omega)).drew) ⟨lb, off, none⟩ k _ (ecells (E.take k)) (by rfl) HL1.out (HC1.out _ (by repeat (first | assumption | with_reducible exact Below.refl _ _ | with_reducible apply below_drew | with_reducible apply below_alloc))) HO1.out HM1.out HM2.out (by first | exact Nat.le_refl _ | (simp; done) | (simp; omega)) ?_
    intro a1 c1 Y1 hown4 hbel4 hgr4
    have hb4 := hbel4 V.heap.size V (Nat.le_refl _) (by repeat (first | assumption | with_reducible exact Below.refl _ _ | with_reducible apply below_drew | with_reducible apply below_alloc))
    refine hK.out _ _ ?_ (fun hHeld14 => ?_)
    · ((try dsimp only); exact HKB.out _ (by repeat (first | assumption | with_reducible exact Below.refl _ _ | with_reducible apply below_drew | with_reducible apply below_alloc)))
    clear hK K hHeld13
    refine wpAnyH_ready (rs := [7]) (by kernel_rfl) (by simp) ?_
    refine AllReadyH.cons rfl (fun K hK => ?_) AllReadyH.nil
    refine step_append_any (by rfl) _ _ _ (by rfl) V.heap.size 40 i0 (.agg #[.int .i64 0, .int .i64 0]) 2 16 (by kernel_rfl) hi0 hz0 hz1 hz2 rfl (by decide) _ _ _ (by rfl) (by first | exact hown4 | exact hown4.alloc _ | exact hown4.drew | exact (hown4.alloc _).drew) ⟨V.heap.size, 0, none⟩ 1 1 [.int .i64 x, .int .i64 y] (by rfl) rfl (by first | exact news18 (((RowIs.made V 40 [.int .i64 x, .int .i64 y]).alloc (.cells #[] 40)).grown hgr4 (by simp [Value.ownBlock])) | exact news18 (((RowIs.made V 40 [.int .i64 x, .int .i64 y]).alloc (.cells #[] 40)).drew1.grown hgr4 (by simp [Value.ownBlock]))) HO2.out HM3.out HM4.out (by first | exact hb4.size | exact (below_alloc hb4 _).size) ?_
    intro a2 c2 Y2 hown7 hbel7 hgr7
    have hb7 := hbel7 V.heap.size V (Nat.le_refl _) (by repeat (first | assumption | with_reducible exact Below.refl _ _ | with_reducible apply below_drew | with_reducible apply below_alloc))
    refine hK.out _ _ ?_ (fun hHeld15 => ?_)
    · ((try dsimp only); exact HKB.out _ (by repeat (first | assumption | with_reducible exact Below.refl _ _ | with_reducible apply below_drew | with_reducible apply below_alloc)))
    clear hK K hHeld14
    refine wpAnyH_ready (rs := [11]) (by kernel_rfl) (by simp) ?_
    refine AllReadyH.cons rfl (fun K hK => ?_) AllReadyH.nil
    refine step_append_any (by rfl) _ _ _ (by rfl) V.heap.size 40 i0 (.agg #[.int .i64 0, .int .i64 0]) 2 16 (by kernel_rfl) hi0 hz0 hz1 hz2 rfl (by decide) _ _ _ (by rfl) hown7 AD l2 _ (ecells (E.drop k)) (by rfl) HL3.out (HCA.out _ hb7) HO3.out HM5.out HM6.out hb7.size ?_
    intro a3 c3 Y3 hown11 hbel11 hgr11
    have hb11 := hbel11 V.heap.size V (Nat.le_refl _) (by repeat (first | assumption | with_reducible exact Below.refl _ _ | with_reducible apply below_drew | with_reducible apply below_alloc))
    refine hK.out _ _ ?_ (fun hHeld16 => ?_)
    · ((try dsimp only); exact HKB.out _ (by repeat (first | assumption | with_reducible exact Below.refl _ _ | with_reducible apply below_drew | with_reducible apply below_alloc)))
    clear hK K hHeld15
    refine wpAnyH_ready (rs := [12]) (by kernel_rfl) (by simp) ?_
    refine AllReadyH.cons rfl (fun K hK => ?_) AllReadyH.nil
    go_simp
    refine hK.out _ _ ?_ (fun hHeld17 => ?_)
    · ((try dsimp only); exact HKB.out _ (by repeat (first | assumption | with_reducible exact Below.refl _ _ | with_reducible apply below_drew | with_reducible apply below_alloc)))
    clear hK K hHeld16
    refine wpAnyH_done (by kernel_rfl) ?_ _
    clear hHeld17
    have HR := Lib.hid (HFN.out _ _ _ hown11 rfl hb11)
    clear hown4 hbel4 hgr4 hown7 hbel7 hgr7 hown11 hbel11 hgr11 hb4 hb7 hb11
    go_wp2
    exact bodyPost_ret (v := .slice a3 (k + 1 + l2) c3) (by simp [results, Tryz.results49, go_sem]) rfl HR.out
/-- The edges that the first links face. -/
def facedN (T : List Tr) (s : BfS) (i : Nat) : List (Int × Int) := (List.range i).flatMap fun t => if 0 ≤ s.l t then [ukey T (s.l t).toNat] else []
theorem facedN_no {T : List Tr} {s : BfS} {i : Nat} (h : s.l i < 0) : facedN T s (i + 1) = facedN T s i := by
  have : ¬ 0 ≤ s.l i := by omega
  simp [facedN, List.range_succ, this]
theorem facedN_yes {T : List Tr} {s : BfS} {i c : Nat} (h : s.l i = (c : Int)) : facedN T s (i + 1) = facedN T s i ++ [ukey T c] := by
  have h0 : 0 ≤ s.l i := by omega
  have h1 : (s.l i).toNat = c := by omega
  simp [facedN, List.range_succ, h0, h1]
theorem facedN_le (T : List Tr) (s : BfS) : ∀ i, (facedN T s i).length ≤ i
  | 0 => by simp [facedN]
  | i + 1 => by
    have ih := facedN_le T s i
    by_cases h : s.l i < 0
    · rw [facedN_no h]; omega
    · obtain ⟨c, hc⟩ := Int.eq_ofNat_of_zero_le (show 0 ≤ s.l i by omega)
      rw [facedN_yes hc, List.length_append]
      simp; omega
theorem facedN_mem {T : List Tr} {s : BfS} {i : Nat} {e : Int × Int} : e ∈ facedN T s i ↔ ∃ t c : Nat, t < i ∧ s.l t = (c : Int) ∧ e = ukey T c := by
  simp only [facedN, List.mem_flatMap, List.mem_range]
  constructor
  · rintro ⟨t, ht, h⟩
    by_cases h0 : 0 ≤ s.l t
    · rw [if_pos h0] at h
      simp at h
      exact ⟨t, (s.l t).toNat, ht, by omega, h⟩
    · rw [if_neg h0] at h; cases h
  · rintro ⟨t, c, ht, hc, rfl⟩
    refine ⟨t, ht, ?_⟩
    rw [if_pos (by omega), hc]
    simp
/-- What is put together of the edges that no link faces. -/
structure OutR (T : List Tr) (s : BfS) (i j : Nat) (R : List (Int × Int)) : Prop where
  st : R.Pairwise ltE
  mem : ∀ e, e ∈ R ↔ PF T s.o i j e ∧ e ∉ facedN T s T.length
theorem OutR.init (T : List Tr) (s : BfS) : OutR T s 0 0 [] := ⟨List.Pairwise.nil, fun e => ⟨fun h => (by cases h), fun h => ((PF_zero T s.o e).1 h.1).elim⟩⟩
theorem OutR.next {T : List Tr} {s : BfS} {i : Nat} {R : List (Int × Int)} (h : OutR T s i 3 R) : OutR T s (i + 1) 0 R := ⟨h.st, fun e => by rw [h.mem, PF_next]⟩
theorem OutR.skip {T : List Tr} {s : BfS} {i j : Nat} {R : List (Int × Int)} (h : OutR T s i j R) (hf : ukey T (3 * s.o.getD i 0 + j) ∈ facedN T s T.length) : OutR T s i (j + 1) R := ⟨h.st, fun e => by
  rw [h.mem, PF_succ]
  constructor
  · exact fun q => ⟨.inl q.1, q.2⟩
  · rintro ⟨q | q, q2⟩
    · exact ⟨q, q2⟩
    · rw [q] at q2; exact absurd hf q2⟩
theorem OutR.put {T : List Tr} {s : BfS} {i j : Nat} {R R' : List (Int × Int)} (h : OutR T s i j R) (hf : ukey T (3 * s.o.getD i 0 + j) ∉ facedN T s T.length) (hi : InsG ltE R (ukey T (3 * s.o.getD i 0 + j)) R') : OutR T s i (j + 1) R' := by
  obtain ⟨h1, h2⟩ := hi.edges h.st
  refine ⟨h1, fun e => ?_⟩
  rw [h2, h.mem, PF_succ]
  constructor
  · rintro (q | q)
    · exact ⟨.inr q, by rw [q]; exact hf⟩
    · exact ⟨.inl q.1, q.2⟩
  · rintro ⟨q | q, q2⟩
    · exact .inr ⟨q, q2⟩
    · exact .inl q
theorem OutR.fin {T : List Tr} {f : Nat} {s : BfS} (hI : BfI T f s) {R : List (Int × Int)} (h : OutR T s s.o.length 0 R) : R.Pairwise ltE ∧ ∀ e, e ∈ R ↔ restB T s e := by
  refine ⟨h.st, fun e => ?_⟩
  rw [h.mem, ← PD_all hI]
  unfold PD
  rw [facedN_mem]
/-- What gypsumref18.Rest comes to. -/
def RRestP (T : List Tr) (f : Nat) (w : World) (e : Ending) (w' : World) : Prop :=
  ∃ v R, e = .returned v ∧ RestAt w' v R ∧ R.Pairwise ltE ∧ (∀ a, a ∈ R ↔ restB T (bfs T f) a) ∧ Below w.heap.size w w'
theorem ukey_flat (T : List Tr) (c : Nat) : ukey T c = flatE (vt T (nxn c : Nat)) (vt T (pvn c : Nat)) := rfl
set_option maxRecDepth 100000 in
set_option maxHeartbeats 4000000 in
theorem rrest18 (N : Int) (ao : Option Addr) (cap : Nat) (T : List Tr) (f : Nat) (w : World) (hT : TrisAt w ao T) (hs : Surf N T) (hf : f < 3 * T.length) :
    Calls Tryz.prog 18 #[.agg #[.int .i64 N, .slice ao T.length cap], .int .i64 f] w (RRestP T f w) := by
  obtain ⟨i0, hi0, hz0, hz1, hz2⟩ := info_parts infoEdge
  have ht1 := hs.t1
  have hI := bfs_inv hs hf T.length
  obtain ⟨s, hse⟩ : ∃ s, s = bfs T f := ⟨_, rfl⟩
  have hI : BfI T f s := by rw [hse]; exact hI
  obtain ⟨F, hF⟩ : ∃ F, F = T.length := ⟨_, rfl⟩
  obtain ⟨B, hB⟩ : ∃ B, B = w.heap.size := ⟨_, rfl⟩
  rw [← hF] at ht1 hf ⊢
  obtain ⟨W0, hW0⟩ : ∃ W0, W0 = w.alloc (.cells #[.int .i64 N, .slice ao F cap] 24) := ⟨_, rfl⟩
  have hb0 : Below B w W0 := by rw [hW0, hB]; exact (Below.refl _ _).alloc (Nat.le_refl _) _
  have hr0 : RowIs W0 B 24 [.int .i64 N, .slice ao F cap] := by rw [hW0, hB]; exact RowIs.made w 24 [.int .i64 N, .slice ao F cap]
  have c0 := hr0.cell (i := 0) rfl
  have c1 := hr0.cell (i := 1) rfl
  have HRD := Lib.hid (rdual18 N ao cap T f W0 (hT.mono (B := B) (by rw [hB]; exact Nat.le_refl _) hb0) hs (by rw [← hF]; exact hf))
  rw [← hF] at HRD
  have HT := Lib.hid hT
  have HS := Lib.hid hs
  have HF := Lib.hid hF
  have HBB := Lib.hid hB
  have HW0 := Lib.hid hW0
  have HB0 := Lib.hid hb0
  have HR0 := Lib.hid hr0
  have HSE := Lib.hid hse
  have HI := Lib.hid hI
  have HRX := Lib.hid (show ∀ X, Below B w X → TrisAt X ao T from fun X hX => hT.mono (B := B) (by rw [hB]; exact Nat.le_refl _) hX)
  have HEC := Lib.hid (show ∀ (w' : World) (c : Nat), Below B w w' → c < 3 * F → Calls Tryz.prog 48 #[.agg #[.int .i64 N, .slice ao F cap], .int .i64 (c : Int)] w' fun e w'' => e = .returned (.agg #[.int .i64 (vt T (nxn c : Nat)), .int .i64 (vt T (pvn c : Nat))]) ∧ Below w'.heap.size w' w'' from fun w' c h hc => by
    have := edge10 N ao cap T c w' (hT.mono (B := B) (by rw [hB]; exact Nat.le_refl _) h) (by rw [← hF]; omega) (by rw [← hF]; exact hc)
    rw [← hF] at this
    exact this)
  clear hT hs hF hB hW0 hb0 hr0 hI hse
  go_enter Tryz.func18, Tryz.ntmps18
  go_upto_region 1 with fail
  simp only [← HBB.out]
  rw [← HW0.out]
  go_wp2_with fail
  refine HRD.out.mono ?_
  rintro e w1 ⟨al, cl, oa, oc, rfl, hal, hoa, hb1⟩
  rw [← HF.out, ← HSE.out] at hal ⊢
  rw [← HSE.out] at hoa
  obtain ⟨on, hon⟩ : ∃ n, n = s.o.length := ⟨_, rfl⟩
  have hof : on ≤ F := by rw [hon, HF.out]; exact HI.out.len
  rw [← hon]
  have hr1 := HR0.out.after hb1
  have hbw1 : Below B w w1 := below_more HB0.out hb1 (by have := HR0.out.lt; omega)
  obtain ⟨bf, hbf⟩ : ∃ b, b = w1.heap.size := ⟨_, rfl⟩
  obtain ⟨W2, hW2⟩ : ∃ W2, W2 = w1.alloc (.cells #[] 40) := ⟨_, rfl⟩
  have hb2 : Below w1.heap.size w1 W2 := by rw [hW2]; exact (Below.refl _ _).alloc (Nat.le_refl _) _
  have HO2 := Lib.hid (show W2.ownsRow bf 40 2 (.slice (some ⟨bf, 0, none⟩) 0 0) 0 (ecells (facedN T s 0)) from by
    rw [hW2, hbf]
    exact World.ownsRow_made w1 #[] 0 (Nat.le_refl _) (Nat.zero_le _) rfl)
  have HB2 := Lib.hid (show Below bf w1 W2 ∧ bf ≤ W2.heap.size from ⟨by rw [hbf]; exact hb2, by rw [hbf]; exact hb2.size⟩)
  have HBW1 := Lib.hid hbw1
  have HR1 := Lib.hid hr1
  have HAL := Lib.hid hal
  have HOA := Lib.hid hoa
  have HON := Lib.hid hon
  have HBF := Lib.hid hbf
  have HW2 := Lib.hid hW2
  have HRY := Lib.hid (show ∀ Y, Below bf w1 Y → RowIs Y B 24 [.int .i64 N, .slice ao F cap] ∧ IntsAt Y al ((List.range F).map s.l) ∧ IntsAt Y oa (s.o.map fun (x : Nat) => (x : Int)) ∧ Below B w Y from fun Y hY => by
    rw [hbf] at hY
    exact ⟨hr1.after hY, hal.mono (Nat.le_refl _) hY, hoa.mono (Nat.le_refl _) hY, below_more hbw1 hY (by have := hr1.lt; omega)⟩)
  clear hal hoa hb1 hr1 hbw1 hb2 hbf hW2 hon c0 c1 HRD
  go_wp2
  simp only [← HBF.out]
  rw [← HW2.out]
  go_loopw [7, 8] (fun fv iv' ws => ∃ (i m : Nat), i ≤ F ∧ iv' = .int .i64 i ∧ Hid (m = (facedN T s i).length) ∧ ws.ownsRow bf 40 2 fv m (ecells (facedN T s i)) ∧ Below bf w1 ws ∧ bf ≤ ws.heap.size) (fun _ iv' _ => F - (intOf iv').toNat)
  case atStart => exact ⟨0, 0, by omega, rfl, Lib.hid rfl, HO2.out, HB2.out.1, HB2.out.2⟩
  case round =>
  clear HO2 HB2
  obtain ⟨i, m, hi, rfl, HM, hown, hbY, hsz⟩ := hrel
  obtain ⟨Y, rfl⟩ : ∃ X : World, X = wr := ⟨_, rfl⟩
  obtain ⟨fa, fc, rfl⟩ := owns_slice hown
  have hmi : m ≤ i := by rw [HM.out]; exact facedN_le T s i
  obtain ⟨hrb, hla, hoa, hbw⟩ := HRY.out Y hbY
  have HOW := Lib.hid hown
  have HBY := Lib.hid hbY
  by_cases hlt : i < F
  case neg =>
    obtain rfl : F = i := by omega
    have hfe : EdgesAt Y fa (facedN T s F) := by
      have h2 := hown
      rw [HM.out] at h2
      obtain ⟨a2, c2, e2, h3⟩ := owns_edges h2
      simp only [Value.slice.injEq, true_and] at e2
      rw [e2.1]
      exact h3
    obtain ⟨b2, hb2⟩ : ∃ b, b = Y.heap.size := ⟨_, rfl⟩
    obtain ⟨Y1, hY1⟩ : ∃ Y1, Y1 = Y.alloc (.cells #[] 40) := ⟨_, rfl⟩
    have hbY1 : Below Y.heap.size Y Y1 := by rw [hY1]; exact (Below.refl _ _).alloc (Nat.le_refl _) _
    have HS0 := Lib.hid (show RestAt Y1 (.slice (some ⟨b2, 0, none⟩) 0 0) [] from ⟨b2, 0, 0, rfl, Nat.le_refl _, by rw [hb2, hY1]; simp, fun h => absurd rfl h⟩)
    have HCX := Lib.hid (show ∀ Z, Below Y1.heap.size Y1 Z → RowIs Z B 24 [.int .i64 N, .slice ao F cap] ∧ IntsAt Z oa (s.o.map fun (x : Nat) => (x : Int)) ∧ EdgesAt Z fa (facedN T s F) ∧ Below B w Z from fun Z hZ => by
      have h2 := below_more hbY1 hZ hbY1.size
      obtain ⟨k1, k2, k3, k4⟩ := HRY.out Z (below_more hbY h2 hsz)
      exact ⟨k1, k3, hfe.mono (Nat.le_refl _) h2, k4⟩)
    have HB2 := Lib.hid hb2
    have HY1 := Lib.hid hY1
    have HMF := Lib.hid (show m = (facedN T s F).length from HM.out)
    have HFL := Lib.hid (show (facedN T s F).length ≤ 100000 from by have := facedN_le T s F; omega)
    clear hown hbY hrb hla hoa hbw hfe hb2 hY1 hbY1 HOW HBY
    go_wp2
    simp only [← HB2.out]
    rw [← HY1.out]
    go_loopw [9, 10] (fun ov iv' ws => ∃ (i : Nat) (R : List (Int × Int)), i ≤ on ∧ iv' = .int .i64 i ∧ RestAt ws ov R ∧ Hid (OutR T s i 0 R ∧ R.length ≤ 3 * i) ∧ Below Y1.heap.size Y1 ws) (fun _ iv' _ => on - (intOf iv').toNat)
    case atStart => exact ⟨0, [], by omega, rfl, HS0.out, Lib.hid ⟨OutR.init T s, by simp⟩, Below.refl _ _⟩
    case round =>
    clear HS0
    obtain ⟨i, R, hi, rfl, hra, HOR, hbZ⟩ := hrel
    obtain ⟨Z, rfl⟩ : ∃ X : World, X = wr := ⟨_, rfl⟩
    obtain ⟨ov, rfl⟩ : ∃ v, v = u9 := ⟨_, rfl⟩
    have HRA := Lib.hid hra
    have HBZ := Lib.hid hbZ
    by_cases hlt : i < on
    case neg =>
      obtain rfl : on = i := by omega
      obtain ⟨rb, roff, rcap, rfl, -⟩ := hra
      have HP := Lib.hid (show RRestP T f w (.returned (.slice (some ⟨rb, roff, none⟩) R.length rcap)) Z from by
        obtain ⟨k1, k2, k3, k4⟩ := HCX.out Z hbZ
        have h1 := HOR.out.1
        rw [HON.out] at h1
        obtain ⟨q1, q2⟩ := h1.fin HI.out
        exact ⟨_, R, rfl, HRA.out, q1, fun a => by rw [q2, HSE.out], by rw [← HBB.out]; exact k4⟩)
      clear hbZ
      go_wp2
      exact bodyPost_ret (v := .slice (some ⟨rb, roff, none⟩) R.length rcap) (by simp [results, Tryz.results18, go_sem]) rfl HP.out
    case pos =>
    have hof : s.o.getD i 0 ∈ s.o := getD_mem18 (by rw [← HON.out]; exact hlt)
    obtain ⟨t, ht⟩ : ∃ t, t = s.o.getD i 0 := ⟨_, rfl⟩
    rw [← ht] at hof
    have htF : t < F := by rw [HF.out]; exact HI.out.lt t hof
    have HTI := Lib.hid ht
    obtain ⟨ob, ooff, rfl, -, -⟩ := (HCX.out Z hbZ).2.1 (by intro e; have h9 := HON.out; have := congrArg List.length e; simp at this; rw [this] at h9; simp at h9; omega)
    have hti : I! (s.o.map fun (x : Nat) => (x : Int)) i = (t : Int) := by
      rw [ht]
      simp only [I!, List.getD_eq_getElem?_getD, List.getElem?_map]
      rw [List.getElem?_eq_getElem (by rw [← HON.out]; exact hlt)]
      rfl
    have HOC := Lib.hid (show ∀ V, Below Y1.heap.size Y1 V → V.cell? ⟨ob, ooff + i, none⟩ = some (.int .i64 (t : Int)) from fun V h => by
      obtain ⟨ob', ooff', e, -, hoc⟩ := (HCX.out V h).2.1 (by intro e; have h9 := HON.out; have := congrArg List.length e; simp at this; rw [this] at h9; simp at h9; omega)
      cases e
      have := hoc i (by rw [List.length_map, ← HON.out]; exact hlt)
      rw [hti] at this
      exact this)
    clear hra hbZ hof hti ht
    go_wp2
    go_loopw [9, 11] (fun ov kv ws => ∃ (j : Nat) (R : List (Int × Int)), j ≤ 3 ∧ kv = .int .i64 j ∧ RestAt ws ov R ∧ Hid (OutR T s i j R ∧ R.length ≤ 3 * i + j) ∧ Below Y1.heap.size Y1 ws) (fun _ kv _ => 3 - (intOf kv).toNat)
    case atStart => exact ⟨0, R, by omega, rfl, HRA.out, HOR, HBZ.out⟩
    case round =>
    clear HRA HBZ HOR
    obtain ⟨j, R, hj, rfl, hra, HOR, hbV⟩ := hrel
    obtain ⟨V, rfl⟩ : ∃ X : World, X = wr := ⟨_, rfl⟩
    obtain ⟨ov, rfl⟩ : ∃ v, v = u9 := ⟨_, rfl⟩
    have HRA := Lib.hid hra
    have HBV := Lib.hid hbV
    by_cases hj3 : j < 3
    case neg =>
      obtain rfl : j = 3 := by omega
      have HNX := Lib.hid (show OutR T s (i + 1) 0 R ∧ R.length ≤ 3 * (i + 1) from ⟨HOR.out.1.next, by have := HOR.out.2; omega⟩)
      clear hra hbV
      go_wp2
      go_roundw
      case rel => exact ⟨i + 1, R, by omega, by go_num, HRA.out, HNX, HBV.out⟩
      case measure => simp [intOf]; omega
    case pos =>
    obtain ⟨c, hc⟩ : ∃ c, c = 3 * t + j := ⟨_, rfl⟩
    have hc3 : c < 3 * F := by omega
    have hw1 : IntKind.i64.wrap (3 * (t : Int)) = 3 * (t : Int) := IntWalk.i64_in _ (by omega)
    have hw2 : IntKind.i64.wrap (c : Int) = (c : Int) := IntWalk.i64_in _ (by omega)
    have hw3 : 3 * (t : Int) + (j : Int) = (c : Int) := by omega
    have HUK := Lib.hid (ukey_flat T c)
    obtain ⟨p, hp⟩ : ∃ p, p = vt T (nxn c : Nat) := ⟨_, rfl⟩
    obtain ⟨q, hq⟩ : ∃ p, p = vt T (pvn c : Nat) := ⟨_, rfl⟩
    have HEE := Lib.hid (show ∀ w', Hid (Below V.heap.size V w') → Calls Tryz.prog 48 #[.agg #[.int .i64 N, .slice ao F cap], .int .i64 (c : Int)] w' fun e w'' => e = .returned (.agg #[.int .i64 p, .int .i64 q]) ∧ Hid (Below V.heap.size V w'') ∧ Hid (Below w'.heap.size w' w'') from fun w' h => by
      rw [hp, hq]
      exact (HEC.out w' c (HCX.out w' (below_more hbV h.out hbV.size)).2.2.2 hc3).mono fun e w'' h2 => ⟨h2.1, below_more h.out h2.2 h.out.size, h2.2⟩)
    rw [← hp, ← hq] at HUK
    obtain ⟨⟨x, y⟩, hxy⟩ : ∃ e, e = flatE p q := ⟨_, rfl⟩
    rw [← hxy] at HUK
    have HFL2 := Lib.hid (show ∀ w', Hid (Below V.heap.size V w') → Calls Tryz.prog 25 #[.agg #[.int .i64 p, .int .i64 q]] w' fun e w'' => e = .returned (.agg #[.int .i64 x, .int .i64 y]) ∧ Hid (Below V.heap.size V w'') ∧ Hid (Below w'.heap.size w' w'') from fun w' h =>
      (flat18 p q w').mono fun e w'' h2 => ⟨by rw [h2.1, ← hxy], below_more h.out h2.2 h.out.size, h2.2⟩)
    have HK := Lib.hid (show ∀ w', Hid (Below V.heap.size V w') → w'.cell? ⟨B, 0, none⟩ = some (.int .i64 N) ∧ w'.cell? ⟨B, 1, none⟩ = some (.slice ao F cap) ∧ w'.cell? ⟨ob, ooff + i, none⟩ = some (.int .i64 (t : Int)) from fun w' h => by
      have h2 := below_more hbV h.out hbV.size
      have k1 := (HCX.out w' h2).1
      exact ⟨k1.cell (i := 0) rfl, k1.cell (i := 1) rfl, HOC.out w' h2⟩)
    have HRF := Lib.hid (Below.refl V.heap.size V)
    have HDR := Lib.hid (show Below V.heap.size V V.drew from ⟨rfl, rfl, rfl, Nat.le_refl _, fun _ _ => rfl⟩)
    have bi : (0 : Int) ≤ (i : Int) ∧ (i : Int) < (on : Int) := by omega
    have HCC := Lib.hid (show ukey T (3 * s.o.getD i 0 + j) = (x, y) from by rw [← HTI.out, ← hc]; exact HUK.out)
    clear hra hbV hc hp hq hxy
    go_upto_region 15 with fail
    go_cut [12] (fun s12 wc => ∃ eb, s12 = .pointer (some ⟨eb, 0, none⟩) ∧ RowIs wc eb 40 [.int .i64 x, .int .i64 y] ∧ Hid (Below V.heap.size V wc))
    case first =>
      refine wp_region_held_drew (S := (fun w' => w'.cell? ⟨B, 0, none⟩ = some (.int .i64 N) ∧ w'.cell? ⟨B, 1, none⟩ = some (.slice ao F cap) ∧ w'.cell? ⟨ob, ooff + i, none⟩ = some (.int .i64 (t : Int)))) (by kernel_rfl) ?_ (fun hHeld0 => ?_)
      · ((try dsimp only); first | exact HK.out _ (by assumption) | exact HK.out _ (Lib.hid ((hb5.out.setCell (p := ⟨_, 0, none⟩) hgb (.int .i64 x)).setCell (p := ⟨_, 1, none⟩) hgb (.int .i64 y))) | exact HK.out _ (Lib.hid (((hb5.out.alloc hb5.out.size _).setCell (p := ⟨_, 0, none⟩) hb5.out.size (.int .i64 x)).setCell (p := ⟨_, 1, none⟩) hb5.out.size (.int .i64 y))) | exact HK.out _ (Lib.hid (hb5.out.alloc hb5.out.size _)) | exact HK.out _ (Lib.hid (by repeat (first | exact Below.refl _ _ | (with_reducible exact (by assumption : Hid (Below V.heap.size V _)).out) | with_reducible apply below_drew | with_reducible apply below_alloc))))
      refine wpAnyH_take (i := 0) (v := ?_) rfl (by kernel_rfl) (by kernel_rfl) (by kernel_rfl) (fun _ _ _ h => h) (Or.inl ⟨by rfl, ?_⟩) (by assumption) ?_
      rotate_left
      · (intro w hSw; (try dsimp only at hSw); go_simp; try with_reducible rfl)
      try simp only [List.getElem_toArray, List.getElem_cons_succ, List.getElem_cons_zero, Act.put, List.setIfInBounds_toArray, List.set_cons_zero, List.set_cons_succ]
      refine wpAnyH_take (i := 1) (v := ?_) rfl (by kernel_rfl) (by kernel_rfl) (by kernel_rfl) (fun _ _ _ h => h) (Or.inl ⟨by rfl, ?_⟩) (by assumption) ?_
      rotate_left
      · (intro w hSw; (try dsimp only at hSw); go_simp; try with_reducible rfl)
      try simp only [List.getElem_toArray, List.getElem_cons_succ, List.getElem_cons_zero, Act.put, List.setIfInBounds_toArray, List.set_cons_zero, List.set_cons_succ]
      refine wpAnyH_take (i := 2) (v := ?_) rfl (by kernel_rfl) (by kernel_rfl) (by kernel_rfl) (fun _ _ _ h => h) (Or.inl ⟨by rfl, ?_⟩) (by assumption) ?_
      rotate_left
      · (intro w hSw; (try dsimp only at hSw); go_simp; try with_reducible rfl)
      try simp only [List.getElem_toArray, List.getElem_cons_succ, List.getElem_cons_zero, Act.put, List.setIfInBounds_toArray, List.set_cons_zero, List.set_cons_succ]
      refine wpAnyH_take (i := 3) (v := ?_) rfl (by kernel_rfl) (by kernel_rfl) (by kernel_rfl) (fun _ _ _ h => h) (Or.inl ⟨by rfl, ?_⟩) (by assumption) ?_
      rotate_left
      · (intro w hSw; (try dsimp only at hSw); go_simp; try with_reducible rfl)
      try simp only [List.getElem_toArray, List.getElem_cons_succ, List.getElem_cons_zero, Act.put, List.setIfInBounds_toArray, List.set_cons_zero, List.set_cons_succ]
      refine wpAnyH_take (i := 4) (v := ?_) rfl (by kernel_rfl) (by kernel_rfl) (by kernel_rfl) (fun _ _ _ h => h) (Or.inl ⟨by rfl, ?_⟩) (by assumption) ?_
      rotate_left
      · (intro w hSw; (try dsimp only at hSw); go_simp; try with_reducible rfl)
      try simp only [List.getElem_toArray, List.getElem_cons_succ, List.getElem_cons_zero, Act.put, List.setIfInBounds_toArray, List.set_cons_zero, List.set_cons_succ]
      refine wpAnyH_take (i := 5) (v := ?_) rfl (by kernel_rfl) (by kernel_rfl) (by kernel_rfl) (fun _ _ _ h => h) (Or.inl ⟨by rfl, ?_⟩) (by assumption) ?_
      rotate_left
      · (intro w hSw; (try dsimp only at hSw); go_simp; try with_reducible rfl)
      try simp only [List.getElem_toArray, List.getElem_cons_succ, List.getElem_cons_zero, Act.put, List.setIfInBounds_toArray, List.set_cons_zero, List.set_cons_succ]
      refine wpAnyH_take (i := 6) (v := ?_) rfl (by kernel_rfl) (by kernel_rfl) (by kernel_rfl) (fun _ _ _ h => h) (Or.inl ⟨by rfl, ?_⟩) (by assumption) ?_
      rotate_left
      · (intro w hSw; (try dsimp only at hSw); go_simp; try with_reducible rfl)
      try simp only [List.getElem_toArray, List.getElem_cons_succ, List.getElem_cons_zero, Act.put, List.setIfInBounds_toArray, List.set_cons_zero, List.set_cons_succ]
      refine wpAnyH_take (i := 7) (v := ?_) rfl (by kernel_rfl) (by kernel_rfl) (by kernel_rfl) (fun _ _ _ h => h) (Or.inl ⟨by rfl, ?_⟩) (by assumption) ?_
      rotate_left
      · (intro w hSw; (try dsimp only at hSw); go_simp; try with_reducible rfl)
      try simp only [List.getElem_toArray, List.getElem_cons_succ, List.getElem_cons_zero, Act.put, List.setIfInBounds_toArray, List.set_cons_zero, List.set_cons_succ]
      refine wpAnyH_ready (rs := [8, 10]) (by kernel_rfl) (by simp) ?_
      refine AllReadyH.cons rfl (fun K hK => ?_) (AllReadyH.cons rfl (fun K hK => ?_) AllReadyH.nil)
      · skip
        go_simp
        go_wp2_with ((go_at_call 48; (with_reducible refine (HEE.out _ (by first | assumption | exact Lib.hid (by repeat (first | exact Below.refl _ _ | with_reducible apply below_drew | with_reducible apply below_alloc)))).mono ?_); rintro e w4 ⟨rfl, hb4, hc4⟩))
        refine hK.out _ _ ?_ (fun hHeld1 => ?_)
        · ((try dsimp only); first | exact HK.out _ (by assumption) | exact HK.out _ (Lib.hid ((hb5.out.setCell (p := ⟨_, 0, none⟩) hgb (.int .i64 x)).setCell (p := ⟨_, 1, none⟩) hgb (.int .i64 y))) | exact HK.out _ (Lib.hid (((hb5.out.alloc hb5.out.size _).setCell (p := ⟨_, 0, none⟩) hb5.out.size (.int .i64 x)).setCell (p := ⟨_, 1, none⟩) hb5.out.size (.int .i64 y))) | exact HK.out _ (Lib.hid (hb5.out.alloc hb5.out.size _)) | exact HK.out _ (Lib.hid (by repeat (first | exact Below.refl _ _ | (with_reducible exact (by assumption : Hid (Below V.heap.size V _)).out) | with_reducible apply below_drew | with_reducible apply below_alloc))))
        clear hK K hHeld0
        refine wpAnyH_ready (rs := [9, 10]) (by kernel_rfl) (by simp) ?_
        refine AllReadyH.cons rfl (fun K hK => ?_) (AllReadyH.cons rfl (fun K hK => ?_) AllReadyH.nil)
        · skip
          go_simp
          go_wp2_with ((go_at_call 25; (with_reducible refine (HFL2.out _ (by first | assumption | exact Lib.hid (by repeat (first | (with_reducible exact hb4.out) | with_reducible apply below_drew | with_reducible apply below_alloc)))).mono ?_); rintro e w5 ⟨rfl, hb5, hc5⟩))
          refine hK.out _ _ ?_ (fun hHeld2 => ?_)
          · ((try dsimp only); first | exact HK.out _ (by assumption) | exact HK.out _ (Lib.hid ((hb5.out.setCell (p := ⟨_, 0, none⟩) hgb (.int .i64 x)).setCell (p := ⟨_, 1, none⟩) hgb (.int .i64 y))) | exact HK.out _ (Lib.hid (((hb5.out.alloc hb5.out.size _).setCell (p := ⟨_, 0, none⟩) hb5.out.size (.int .i64 x)).setCell (p := ⟨_, 1, none⟩) hb5.out.size (.int .i64 y))) | exact HK.out _ (Lib.hid (hb5.out.alloc hb5.out.size _)) | exact HK.out _ (Lib.hid (by repeat (first | exact Below.refl _ _ | (with_reducible exact (by assumption : Hid (Below V.heap.size V _)).out) | with_reducible apply below_drew | with_reducible apply below_alloc))))
          clear hK K hHeld1
          refine wpAnyH_ready (rs := [10]) (by kernel_rfl) (by simp) ?_
          refine AllReadyH.cons rfl (fun K hK => ?_) AllReadyH.nil
          go_simp
          refine hK.out _ _ ?_ (fun hHeld3 => ?_)
          · ((try dsimp only); first | exact HK.out _ (by assumption) | exact HK.out _ (Lib.hid ((hb5.out.setCell (p := ⟨_, 0, none⟩) hgb (.int .i64 x)).setCell (p := ⟨_, 1, none⟩) hgb (.int .i64 y))) | exact HK.out _ (Lib.hid (((hb5.out.alloc hb5.out.size _).setCell (p := ⟨_, 0, none⟩) hb5.out.size (.int .i64 x)).setCell (p := ⟨_, 1, none⟩) hb5.out.size (.int .i64 y))) | exact HK.out _ (Lib.hid (hb5.out.alloc hb5.out.size _)) | exact HK.out _ (Lib.hid (by repeat (first | exact Below.refl _ _ | (with_reducible exact (by assumption : Hid (Below V.heap.size V _)).out) | with_reducible apply below_drew | with_reducible apply below_alloc))))
          clear hK K hHeld2
          refine wpAnyH_ready (rs := [11]) (by kernel_rfl) (by simp) ?_
          refine AllReadyH.cons rfl (fun K hK => ?_) AllReadyH.nil
          go_simp
          refine hK.out _ _ ?_ (fun hHeld4 => ?_)
          · ((try dsimp only); first | exact HK.out _ (by assumption) | exact HK.out _ (Lib.hid ((hb5.out.setCell (p := ⟨_, 0, none⟩) hgb (.int .i64 x)).setCell (p := ⟨_, 1, none⟩) hgb (.int .i64 y))) | exact HK.out _ (Lib.hid (((hb5.out.alloc hb5.out.size _).setCell (p := ⟨_, 0, none⟩) hb5.out.size (.int .i64 x)).setCell (p := ⟨_, 1, none⟩) hb5.out.size (.int .i64 y))) | exact HK.out _ (Lib.hid (hb5.out.alloc hb5.out.size _)) | exact HK.out _ (Lib.hid (by repeat (first | exact Below.refl _ _ | (with_reducible exact (by assumption : Hid (Below V.heap.size V _)).out) | with_reducible apply below_drew | with_reducible apply below_alloc))))
          clear hK K hHeld3
          refine wpAnyH_done (by kernel_rfl) ?_ _
          clear hHeld4
          go_wp2
          go_meet
          first
          | exact ⟨_, rfl, (kr.set 0 (.int .i64 x)).set 1 (.int .i64 y), Lib.hid ((hb5.out.setCell (p := ⟨_, 0, none⟩) hgb (.int .i64 x)).setCell (p := ⟨_, 1, none⟩) hgb (.int .i64 y))⟩
          | exact ⟨_, rfl, RowIs.made w5 40 [.int .i64 x, .int .i64 y], Lib.hid (hb5.out.alloc hb5.out.size _)⟩
          | exact ⟨_, rfl, ((RowIs.made w5 40 [.int .i64 0, .int .i64 0]).set 0 (.int .i64 x)).set 1 (.int .i64 y), Lib.hid (((hb5.out.alloc hb5.out.size _).setCell (p := ⟨_, 0, none⟩) hb5.out.size (.int .i64 x)).setCell (p := ⟨_, 1, none⟩) hb5.out.size (.int .i64 y))⟩
        · skip
          go_simp
          refine hK.out _ _ ?_ (fun hHeld5 => ?_)
          · ((try dsimp only); first | exact HK.out _ (by assumption) | exact HK.out _ (Lib.hid ((hb5.out.setCell (p := ⟨_, 0, none⟩) hgb (.int .i64 x)).setCell (p := ⟨_, 1, none⟩) hgb (.int .i64 y))) | exact HK.out _ (Lib.hid (((hb5.out.alloc hb5.out.size _).setCell (p := ⟨_, 0, none⟩) hb5.out.size (.int .i64 x)).setCell (p := ⟨_, 1, none⟩) hb5.out.size (.int .i64 y))) | exact HK.out _ (Lib.hid (hb5.out.alloc hb5.out.size _)) | exact HK.out _ (Lib.hid (by repeat (first | exact Below.refl _ _ | (with_reducible exact (by assumption : Hid (Below V.heap.size V _)).out) | with_reducible apply below_drew | with_reducible apply below_alloc))))
          clear hK K hHeld1
          refine wpAnyH_ready (rs := [9]) (by kernel_rfl) (by simp) ?_
          refine AllReadyH.cons rfl (fun K hK => ?_) AllReadyH.nil
          go_simp
          go_wp2_with ((go_at_call 25; (with_reducible refine (HFL2.out _ (by first | assumption | exact Lib.hid (by repeat (first | (with_reducible exact hb4.out) | with_reducible apply below_drew | with_reducible apply below_alloc)))).mono ?_); rintro e w5 ⟨rfl, hb5, hc5⟩; have kr : RowIs w5 w4.heap.size 40 [.int .i64 0, .int .i64 0] := (by first | exact (RowIs.made w4 40 [.int .i64 0, .int .i64 0]).after hc5.out | exact (RowIs.made w4 40 [.int .i64 0, .int .i64 0]).drew1.after hc5.out); have r0 := kr.cell (i := 0) rfl; have r1 := kr.cell (i := 1) rfl; have f0 := kr.free 0; have f1 := kr.free 1; have hgb : V.heap.size ≤ w4.heap.size := hb4.out.size))
          refine hK.out _ _ ?_ (fun hHeld6 => ?_)
          · ((try dsimp only); first | exact HK.out _ (by assumption) | exact HK.out _ (Lib.hid ((hb5.out.setCell (p := ⟨_, 0, none⟩) hgb (.int .i64 x)).setCell (p := ⟨_, 1, none⟩) hgb (.int .i64 y))) | exact HK.out _ (Lib.hid (((hb5.out.alloc hb5.out.size _).setCell (p := ⟨_, 0, none⟩) hb5.out.size (.int .i64 x)).setCell (p := ⟨_, 1, none⟩) hb5.out.size (.int .i64 y))) | exact HK.out _ (Lib.hid (hb5.out.alloc hb5.out.size _)) | exact HK.out _ (Lib.hid (by repeat (first | exact Below.refl _ _ | (with_reducible exact (by assumption : Hid (Below V.heap.size V _)).out) | with_reducible apply below_drew | with_reducible apply below_alloc))))
          clear hK K hHeld5
          refine wpAnyH_ready (rs := [11]) (by kernel_rfl) (by simp) ?_
          refine AllReadyH.cons rfl (fun K hK => ?_) AllReadyH.nil
          go_simp
          refine hK.out _ _ ?_ (fun hHeld7 => ?_)
          · ((try dsimp only); first | exact HK.out _ (by assumption) | exact HK.out _ (Lib.hid ((hb5.out.setCell (p := ⟨_, 0, none⟩) hgb (.int .i64 x)).setCell (p := ⟨_, 1, none⟩) hgb (.int .i64 y))) | exact HK.out _ (Lib.hid (((hb5.out.alloc hb5.out.size _).setCell (p := ⟨_, 0, none⟩) hb5.out.size (.int .i64 x)).setCell (p := ⟨_, 1, none⟩) hb5.out.size (.int .i64 y))) | exact HK.out _ (Lib.hid (hb5.out.alloc hb5.out.size _)) | exact HK.out _ (Lib.hid (by repeat (first | exact Below.refl _ _ | (with_reducible exact (by assumption : Hid (Below V.heap.size V _)).out) | with_reducible apply below_drew | with_reducible apply below_alloc))))
          clear hK K hHeld6
          refine wpAnyH_done (by kernel_rfl) ?_ _
          clear hHeld7
          go_wp2
          go_meet
          first
          | exact ⟨_, rfl, (kr.set 0 (.int .i64 x)).set 1 (.int .i64 y), Lib.hid ((hb5.out.setCell (p := ⟨_, 0, none⟩) hgb (.int .i64 x)).setCell (p := ⟨_, 1, none⟩) hgb (.int .i64 y))⟩
          | exact ⟨_, rfl, RowIs.made w5 40 [.int .i64 x, .int .i64 y], Lib.hid (hb5.out.alloc hb5.out.size _)⟩
          | exact ⟨_, rfl, ((RowIs.made w5 40 [.int .i64 0, .int .i64 0]).set 0 (.int .i64 x)).set 1 (.int .i64 y), Lib.hid (((hb5.out.alloc hb5.out.size _).setCell (p := ⟨_, 0, none⟩) hb5.out.size (.int .i64 x)).setCell (p := ⟨_, 1, none⟩) hb5.out.size (.int .i64 y))⟩
      · skip
        go_simp
        refine hK.out _ _ ?_ (fun hHeld8 => ?_)
        · ((try dsimp only); first | exact HK.out _ (by assumption) | exact HK.out _ (Lib.hid ((hb5.out.setCell (p := ⟨_, 0, none⟩) hgb (.int .i64 x)).setCell (p := ⟨_, 1, none⟩) hgb (.int .i64 y))) | exact HK.out _ (Lib.hid (((hb5.out.alloc hb5.out.size _).setCell (p := ⟨_, 0, none⟩) hb5.out.size (.int .i64 x)).setCell (p := ⟨_, 1, none⟩) hb5.out.size (.int .i64 y))) | exact HK.out _ (Lib.hid (hb5.out.alloc hb5.out.size _)) | exact HK.out _ (Lib.hid (by repeat (first | exact Below.refl _ _ | (with_reducible exact (by assumption : Hid (Below V.heap.size V _)).out) | with_reducible apply below_drew | with_reducible apply below_alloc))))
        clear hK K hHeld0
        refine wpAnyH_ready (rs := [8]) (by kernel_rfl) (by simp) ?_
        refine AllReadyH.cons rfl (fun K hK => ?_) AllReadyH.nil
        go_simp
        go_wp2_with ((go_at_call 48; (with_reducible refine (HEE.out _ (by first | assumption | exact Lib.hid (by repeat (first | exact Below.refl _ _ | with_reducible apply below_drew | with_reducible apply below_alloc)))).mono ?_); rintro e w4 ⟨rfl, hb4, hc4⟩; have kr4 : RowIs w4 V.heap.size 40 [.int .i64 0, .int .i64 0] := (by first | exact (RowIs.made V 40 [.int .i64 0, .int .i64 0]).after hc4.out | exact (RowIs.made V 40 [.int .i64 0, .int .i64 0]).drew1.after hc4.out)))
        refine hK.out _ _ ?_ (fun hHeld9 => ?_)
        · ((try dsimp only); first | exact HK.out _ (by assumption) | exact HK.out _ (Lib.hid ((hb5.out.setCell (p := ⟨_, 0, none⟩) hgb (.int .i64 x)).setCell (p := ⟨_, 1, none⟩) hgb (.int .i64 y))) | exact HK.out _ (Lib.hid (((hb5.out.alloc hb5.out.size _).setCell (p := ⟨_, 0, none⟩) hb5.out.size (.int .i64 x)).setCell (p := ⟨_, 1, none⟩) hb5.out.size (.int .i64 y))) | exact HK.out _ (Lib.hid (hb5.out.alloc hb5.out.size _)) | exact HK.out _ (Lib.hid (by repeat (first | exact Below.refl _ _ | (with_reducible exact (by assumption : Hid (Below V.heap.size V _)).out) | with_reducible apply below_drew | with_reducible apply below_alloc))))
        clear hK K hHeld8
        refine wpAnyH_ready (rs := [9]) (by kernel_rfl) (by simp) ?_
        refine AllReadyH.cons rfl (fun K hK => ?_) AllReadyH.nil
        go_simp
        go_wp2_with ((go_at_call 25; (with_reducible refine (HFL2.out _ (by first | assumption | exact Lib.hid (by repeat (first | (with_reducible exact hb4.out) | with_reducible apply below_drew | with_reducible apply below_alloc)))).mono ?_); rintro e w5 ⟨rfl, hb5, hc5⟩; have kr := kr4.after hc5.out; have r0 := kr.cell (i := 0) rfl; have r1 := kr.cell (i := 1) rfl; have f0 := kr.free 0; have f1 := kr.free 1; have hgb : V.heap.size ≤ V.heap.size := Nat.le_refl _))
        refine hK.out _ _ ?_ (fun hHeld10 => ?_)
        · ((try dsimp only); first | exact HK.out _ (by assumption) | exact HK.out _ (Lib.hid ((hb5.out.setCell (p := ⟨_, 0, none⟩) hgb (.int .i64 x)).setCell (p := ⟨_, 1, none⟩) hgb (.int .i64 y))) | exact HK.out _ (Lib.hid (((hb5.out.alloc hb5.out.size _).setCell (p := ⟨_, 0, none⟩) hb5.out.size (.int .i64 x)).setCell (p := ⟨_, 1, none⟩) hb5.out.size (.int .i64 y))) | exact HK.out _ (Lib.hid (hb5.out.alloc hb5.out.size _)) | exact HK.out _ (Lib.hid (by repeat (first | exact Below.refl _ _ | (with_reducible exact (by assumption : Hid (Below V.heap.size V _)).out) | with_reducible apply below_drew | with_reducible apply below_alloc))))
        clear hK K hHeld9
        refine wpAnyH_ready (rs := [11]) (by kernel_rfl) (by simp) ?_
        refine AllReadyH.cons rfl (fun K hK => ?_) AllReadyH.nil
        go_simp
        refine hK.out _ _ ?_ (fun hHeld11 => ?_)
        · ((try dsimp only); first | exact HK.out _ (by assumption) | exact HK.out _ (Lib.hid ((hb5.out.setCell (p := ⟨_, 0, none⟩) hgb (.int .i64 x)).setCell (p := ⟨_, 1, none⟩) hgb (.int .i64 y))) | exact HK.out _ (Lib.hid (((hb5.out.alloc hb5.out.size _).setCell (p := ⟨_, 0, none⟩) hb5.out.size (.int .i64 x)).setCell (p := ⟨_, 1, none⟩) hb5.out.size (.int .i64 y))) | exact HK.out _ (Lib.hid (hb5.out.alloc hb5.out.size _)) | exact HK.out _ (Lib.hid (by repeat (first | exact Below.refl _ _ | (with_reducible exact (by assumption : Hid (Below V.heap.size V _)).out) | with_reducible apply below_drew | with_reducible apply below_alloc))))
        clear hK K hHeld10
        refine wpAnyH_done (by kernel_rfl) ?_ _
        clear hHeld11
        go_wp2
        go_meet
        first
        | exact ⟨_, rfl, (kr.set 0 (.int .i64 x)).set 1 (.int .i64 y), Lib.hid ((hb5.out.setCell (p := ⟨_, 0, none⟩) hgb (.int .i64 x)).setCell (p := ⟨_, 1, none⟩) hgb (.int .i64 y))⟩
        | exact ⟨_, rfl, RowIs.made w5 40 [.int .i64 x, .int .i64 y], Lib.hid (hb5.out.alloc hb5.out.size _)⟩
        | exact ⟨_, rfl, ((RowIs.made w5 40 [.int .i64 0, .int .i64 0]).set 0 (.int .i64 x)).set 1 (.int .i64 y), Lib.hid (((hb5.out.alloc hb5.out.size _).setCell (p := ⟨_, 0, none⟩) hb5.out.size (.int .i64 x)).setCell (p := ⟨_, 1, none⟩) hb5.out.size (.int .i64 y))⟩
    case rest =>
    obtain ⟨V1, rfl⟩ : ∃ X : World, X = wc := ⟨_, rfl⟩
    obtain ⟨eb, rfl, hre, hb1⟩ := hcut
    have d0 := hre.cell (i := 0) rfl
    have d1 := hre.cell (i := 1) rfl
    have HRE := Lib.hid hre
    have HBV1 := Lib.hid (below_more HBV.out hb1.out HBV.out.size)
    have HHAS := Lib.hid (has18 (facedN T s F) fa fc x y V1 (HCX.out V1 HBV1.out).2.2.1 HFL.out)
    rw [← HMF.out] at HHAS
    have HRA1 := Lib.hid (HRA.out.more hb1.out)
    clear hre hb1 HRA hw1 hw2 hw3
    go_wp2_with fail
    refine HHAS.out.mono ?_
    rintro e V2 ⟨r, rfl, hrr, hb2⟩
    have HBV2 := Lib.hid (below_more HBV1.out hb2 HBV1.out.size)
    have hre2 := HRE.out.after hb2
    have e0 := hre2.cell (i := 0) rfl
    have e1 := hre2.cell (i := 1) rfl
    have hra2 := HRA1.out.more hb2
    have HRA2 := Lib.hid hra2
    have HRR := Lib.hid hrr
    clear hrr hb2 hre2 d0 d1 HHAS HRA1
    cases r
    case' true =>
      have HNX := Lib.hid (show OutR T s i (j + 1) R ∧ R.length ≤ 3 * i + (j + 1) from ⟨HOR.out.1.skip (by rw [HCC.out, ← HF.out]; exact HRR.out.1 rfl), by have := HOR.out.2; omega⟩)
      clear hra2
      go_wp2
      go_roundw
      case rel => exact ⟨j + 1, R, by omega, by go_num, HRA2.out, HNX, HBV2.out⟩
      case measure => simp [intOf]; omega
    case' false =>
      obtain ⟨rb, roff, rcap, rfl, hrc, hrl, hrE⟩ := hra2
      have HINS := Lib.hid (insert18 R rb roff rcap x y V2 hrE hrc (by have := HOR.out.2; omega) hrl)
      have HNF := Lib.hid (show ukey T (3 * s.o.getD i 0 + j) ∉ facedN T s T.length from by
        rw [HCC.out, ← HF.out]
        exact fun h => by have := HRR.out.2 h; cases this)
      clear hrc hrl hrE
      go_wp2_with fail
      refine HINS.out.mono ?_
      rintro e V3 ⟨v3, R3, rfl, hra3, hi3, hb3⟩
      have HNX := Lib.hid (show OutR T s i (j + 1) R3 ∧ R3.length ≤ 3 * i + (j + 1) from ⟨HOR.out.1.put HNF.out (by rw [HCC.out]; exact hi3), by have := hi3.len; have := HOR.out.2; omega⟩)
      have HRA3 := Lib.hid hra3
      have HBV3 := Lib.hid (below_more HBV2.out hb3 HBV2.out.size)
      clear hra3 hi3 hb3 HINS HRA2
      go_wp2
      go_roundw
      case rel => exact ⟨j + 1, R3, by omega, by go_num, HRA3.out, HNX, HBV3.out⟩
      case measure => simp [intOf]; omega
  case pos =>
  obtain ⟨ab, aoff, rfl, -, hac⟩ := hla (by intro e; have := congrArg List.length e; simp at this; omega)
  have cl' := hac i (by simpa using hlt)
  have hil : I! ((List.range F).map s.l) i = s.l i := by simp [I!, hlt]
  rw [hil] at cl'
  have bi : (0 : Int) ≤ (i : Int) ∧ (i : Int) < (F : Int) := by omega
  by_cases hl0 : s.l i < 0
  case pos =>
    obtain ⟨lv, hlv⟩ : ∃ l, l = s.l i := ⟨_, rfl⟩
    rw [← hlv] at cl' hl0
    have g1 : decide (lv ≥ 0) = false := by simp; omega
    have HN := Lib.hid (show facedN T s (i + 1) = facedN T s i from facedN_no (by rw [← hlv]; exact hl0))
    clear hrb hla hoa hbw hac hil hl0 hlv hown hbY
    go_wp2
    go_roundw
    case rel => exact ⟨i + 1, m, by omega, by go_num, Lib.hid (by rw [HN.out]; exact HM.out), by rw [HN.out]; exact HOW.out, HBY.out, hsz⟩
    case measure => simp [intOf]; omega
  case neg =>
  obtain ⟨c, hcl⟩ := Int.eq_ofNat_of_zero_le (show 0 ≤ s.l i by omega)
  have hc3 : c < 3 * F := by
    by_cases hm9 : i ∈ s.o
    · by_cases hr9 : i = f / 3
      · have := HI.out.rt; rw [← hr9] at this; omega
      · obtain ⟨c', e1, e2, -⟩ := HI.out.lk i hm9 hr9
        rw [HF.out]; omega
    · have := HI.out.no i hm9; omega
  rw [hcl] at cl'
  have g1 : decide ((c : Int) ≥ 0) = true := by simp
  have HN := Lib.hid (show facedN T s (i + 1) = facedN T s i ++ [ukey T c] from facedN_yes hcl)
  have HUK := Lib.hid (ukey_flat T c)
  have HEE := Lib.hid (show ∀ w', Hid (Below Y.heap.size Y w') → Calls Tryz.prog 48 #[.agg #[.int .i64 N, .slice ao F cap], .int .i64 (c : Int)] w' fun e w'' => e = .returned (.agg #[.int .i64 (vt T (nxn c : Nat)), .int .i64 (vt T (pvn c : Nat))]) ∧ Hid (Below Y.heap.size Y w'') from fun w' h =>
    (HEC.out w' c (below_more hbw h.out (by have := hrb.lt; omega)) hc3).mono fun e w'' h2 => ⟨h2.1, below_more h.out h2.2 h.out.size⟩)
  obtain ⟨p, hp⟩ : ∃ p, p = vt T (nxn c : Nat) := ⟨_, rfl⟩
  obtain ⟨q, hq⟩ : ∃ p, p = vt T (pvn c : Nat) := ⟨_, rfl⟩
  rw [← hp, ← hq] at HEE HUK
  obtain ⟨⟨x, y⟩, hxy⟩ : ∃ e, e = flatE p q := ⟨_, rfl⟩
  rw [← hxy] at HUK
  have HFL := Lib.hid (show ∀ w', Hid (Below Y.heap.size Y w') → Calls Tryz.prog 25 #[.agg #[.int .i64 p, .int .i64 q]] w' fun e w'' => e = .returned (.agg #[.int .i64 x, .int .i64 y]) ∧ Hid (Below Y.heap.size Y w'') from fun w' h =>
    (flat18 p q w').mono fun e w'' h2 => ⟨by rw [h2.1, ← hxy], below_more h.out h2.2 h.out.size⟩)
  have HK := Lib.hid (show ∀ w', Hid (Below Y.heap.size Y w') → w'.cell? ⟨B, 0, none⟩ = some (.int .i64 N) ∧ w'.cell? ⟨B, 1, none⟩ = some (.slice ao F cap) ∧ w'.cell? ⟨ab, aoff + i, none⟩ = some (.int .i64 (c : Int)) from fun w' h => by
    obtain ⟨k1, k2, k3, k4⟩ := HRY.out w' (below_more hbY h.out hsz)
    obtain ⟨ab', aoff', e, -, hac'⟩ := k2 (by intro e; have := congrArg List.length e; simp at this; omega)
    cases e
    have := hac' i (by simpa using hlt)
    rw [hil, hcl] at this
    exact ⟨k1.cell (i := 0) rfl, k1.cell (i := 1) rfl, this⟩)
  have HKZ0 := Lib.hid (show ∀ Z, Below bf w1 Z → Z.cell? ⟨B, 0, none⟩ = some (.int .i64 N) ∧ Z.cell? ⟨B, 1, none⟩ = some (.slice ao F cap) ∧ Z.cell? ⟨ab, aoff + i, none⟩ = some (.int .i64 (c : Int)) from fun Z h => by
    obtain ⟨k1, k2, k3, k4⟩ := HRY.out Z h
    obtain ⟨ab', aoff', e, -, hac'⟩ := k2 (by intro e; have := congrArg List.length e; simp at this; omega)
    cases e
    have := hac' i (by simpa using hlt)
    rw [hil, hcl] at this
    exact ⟨k1.cell (i := 0) rfl, k1.cell (i := 1) rfl, this⟩)
  have HRF := Lib.hid (Below.refl Y.heap.size Y)
  have HDR := Lib.hid (show Below Y.heap.size Y Y.drew from ⟨rfl, rfl, rfl, Nat.le_refl _, fun _ _ => rfl⟩)
  have HGO := Lib.hid (show ∀ (w5 : World) (g cp : Nat) (Z : World), Below Y.heap.size Y w5 → Z.ownsRow bf 40 2 (.slice (some ⟨g, 0, none⟩) (m + 1) cp) (m + 1) (ecells (facedN T s i) ++ [.int .i64 x, .int .i64 y]) → w5.grownBy Z (Value.slice fa m fc).ownBlock → Z.ownsRow bf 40 2 (.slice (some ⟨g, 0, none⟩) (m + 1) cp) (m + 1) (ecells (facedN T s (i + 1))) ∧ Below bf w1 Z ∧ bf ≤ Z.heap.size from fun w5 g cp Z h5 ho hg => by
    have hb5 : Below bf w1 w5 := below_more hbY h5 hsz
    have hs5 := h5.size
    refine ⟨?_, hb5.grown hg (by omega) (fun q hq => (hown.lt q hq).1), by have := hg.size; omega⟩
    rw [HN.out, HUK.out, ecells_snoc]
    exact ho)
  have HOB := Lib.hid (show ∀ w5, Below Y.heap.size Y w5 → w5.ownsRow bf 40 2 (.slice fa m fc) m (ecells (facedN T s i)) from fun w5 h => owns_below hown h)
  have HQ1 := Lib.hid (show m + 1 ≤ maxLen by unfold maxLen; omega)
  have HQ2 := Lib.hid (show (m + 1) * 16 ≤ 140737488355328 by omega)
  clear hrb hla hoa hbw hac hil hl0 hown hbY hcl hc3 hp hq hxy
  go_upto_region 7 with fail
  have HKZ' := Lib.hid (show ∀ Z, Below bf w1 Z → Z.cell? ⟨B, 0, none⟩ = some (.int .i64 N) ∧ Z.cell? ⟨B, 1, none⟩ = some (.slice ao F cap) ∧ Z.cell? ⟨ab, aoff + i, none⟩ = some (.int .i64 (c : Int)) from HKZ0.out)
  refine wp_region_held_drew (S := (fun w' => w'.cell? ⟨B, 0, none⟩ = some (.int .i64 N) ∧ w'.cell? ⟨B, 1, none⟩ = some (.slice ao F cap) ∧ w'.cell? ⟨ab, aoff + i, none⟩ = some (.int .i64 (c : Int)))) (by kernel_rfl) ?_ (fun hHeld0 => ?_)
  · ((try dsimp only); first | exact HK.out _ (by assumption) | exact HK.out _ (Lib.hid ((by assumption : Hid (Below Y.heap.size Y w5)).out.alloc (by exact ((by assumption : Hid (Below Y.heap.size Y w5)).out.size)) _)) | exact HKZ)
  refine wpAnyH_take (i := 0) (v := ?_) rfl (by kernel_rfl) (by kernel_rfl) (by kernel_rfl) (fun _ _ _ h => h) (Or.inl ⟨by rfl, ?_⟩) (by assumption) ?_
  rotate_left
  · (intro w hSw; (try dsimp only at hSw); go_simp; try with_reducible rfl)
  try simp only [List.getElem_toArray, List.getElem_cons_succ, List.getElem_cons_zero, Act.put, List.setIfInBounds_toArray, List.set_cons_zero, List.set_cons_succ]
  refine wpAnyH_take (i := 1) (v := ?_) rfl (by kernel_rfl) (by kernel_rfl) (by kernel_rfl) (fun _ _ _ h => h) (Or.inl ⟨by rfl, ?_⟩) (by assumption) ?_
  rotate_left
  · (intro w hSw; (try dsimp only at hSw); go_simp; try with_reducible rfl)
  try simp only [List.getElem_toArray, List.getElem_cons_succ, List.getElem_cons_zero, Act.put, List.setIfInBounds_toArray, List.set_cons_zero, List.set_cons_succ]
  refine wpAnyH_take (i := 2) (v := ?_) rfl (by kernel_rfl) (by kernel_rfl) (by kernel_rfl) (fun _ _ _ h => h) (Or.inl ⟨by rfl, ?_⟩) (by assumption) ?_
  rotate_left
  · (intro w hSw; (try dsimp only at hSw); go_simp; try with_reducible rfl)
  try simp only [List.getElem_toArray, List.getElem_cons_succ, List.getElem_cons_zero, Act.put, List.setIfInBounds_toArray, List.set_cons_zero, List.set_cons_succ]
  refine wpAnyH_take (i := 3) (v := ?_) rfl (by kernel_rfl) (by kernel_rfl) (by kernel_rfl) (fun _ _ _ h => h) (Or.inl ⟨by rfl, ?_⟩) (by assumption) ?_
  rotate_left
  · (intro w hSw; (try dsimp only at hSw); go_simp; try with_reducible rfl)
  try simp only [List.getElem_toArray, List.getElem_cons_succ, List.getElem_cons_zero, Act.put, List.setIfInBounds_toArray, List.set_cons_zero, List.set_cons_succ]
  refine wpAnyH_take (i := 4) (v := ?_) rfl (by kernel_rfl) (by kernel_rfl) (by kernel_rfl) (fun _ _ _ h => h) (Or.inl ⟨by rfl, ?_⟩) (by assumption) ?_
  rotate_left
  · (intro w hSw; (try dsimp only at hSw); go_simp; try with_reducible rfl)
  try simp only [List.getElem_toArray, List.getElem_cons_succ, List.getElem_cons_zero, Act.put, List.setIfInBounds_toArray, List.set_cons_zero, List.set_cons_succ]
  refine wpAnyH_take (i := 5) (v := ?_) rfl (by kernel_rfl) (by kernel_rfl) (by kernel_rfl) (fun _ _ _ h => h) (Or.inl ⟨by rfl, ?_⟩) (by assumption) ?_
  rotate_left
  · (intro w hSw; (try dsimp only at hSw); go_simp; try with_reducible rfl)
  try simp only [List.getElem_toArray, List.getElem_cons_succ, List.getElem_cons_zero, Act.put, List.setIfInBounds_toArray, List.set_cons_zero, List.set_cons_succ]
  refine wpAnyH_ready (rs := [6]) (by kernel_rfl) (by simp) ?_
  refine AllReadyH.cons rfl (fun K hK => ?_) AllReadyH.nil
  go_simp
  go_wp2_with ((go_at_call 48; (with_reducible refine (HEE.out _ (by assumption)).mono ?_); rintro e w4 ⟨rfl, hb4⟩))
  refine hK.out _ _ ?_ (fun hHeld1 => ?_)
  · ((try dsimp only); first | exact HK.out _ (by assumption) | exact HK.out _ (Lib.hid ((by assumption : Hid (Below Y.heap.size Y w5)).out.alloc (by exact ((by assumption : Hid (Below Y.heap.size Y w5)).out.size)) _)) | exact HKZ)
  clear hK K hHeld0
  refine wpAnyH_ready (rs := [7]) (by kernel_rfl) (by simp) ?_
  refine AllReadyH.cons rfl (fun K hK => ?_) AllReadyH.nil
  go_simp
  go_wp2_with ((go_at_call 25; (with_reducible refine (HFL.out _ (by assumption)).mono ?_); rintro e w5 ⟨rfl, hb5⟩; have hb6 : Hid (Below Y.heap.size Y (w5.alloc (.cells #[.int .i64 x, .int .i64 y] 40))) := Lib.hid (hb5.out.alloc hb5.out.size _)))
  refine hK.out _ _ ?_ (fun hHeld2 => ?_)
  · ((try dsimp only); first | exact HK.out _ (by assumption) | exact HK.out _ (Lib.hid ((by assumption : Hid (Below Y.heap.size Y w5)).out.alloc (by exact ((by assumption : Hid (Below Y.heap.size Y w5)).out.size)) _)) | exact HKZ)
  clear hK K hHeld1
  refine wpAnyH_ready (rs := [8]) (by kernel_rfl) (by simp) ?_
  refine AllReadyH.cons rfl (fun K hK => ?_) AllReadyH.nil
  go_simp
  refine hK.out _ _ ?_ (fun hHeld3 => ?_)
  · ((try dsimp only); first | exact HK.out _ (by assumption) | exact HK.out _ (Lib.hid ((by assumption : Hid (Below Y.heap.size Y w5)).out.alloc (by exact ((by assumption : Hid (Below Y.heap.size Y w5)).out.size)) _)) | exact HKZ)
  clear hK K hHeld2
  refine wpAnyH_ready (rs := [9]) (by kernel_rfl) (by simp) ?_
  refine AllReadyH.cons rfl (fun K hK => ?_) AllReadyH.nil
  refine step_append_lies _ (by rfl) _ _ _ (by rfl) bf 40 i0 (.agg #[.int .i64 0, .int .i64 0]) 2 16 (by kernel_rfl) hi0 hz0 hz1 hz2 rfl (by decide) (.slice fa m fc) m (ecells (facedN T s i)) (by rfl) (HOB.out _ hb6.out) ⟨w5.heap.size, 0, none⟩ 1 1 [.int .i64 x, .int .i64 y] (by rfl) rfl (World.news_of_block (heap_alloc_new _ _)) (by intro u hu; simp at hu; rcases hu with rfl | rfl <;> rfl) (by decide) HQ1.out HQ2.out (Nat.le_trans hsz hb6.out.size) (w5.heap.size + 1) (by simp) ?_
  intro g2 cap2 Z hown2 hgr2 hat2 hlt2
  have HZ := Lib.hid (HGO.out _ g2 cap2 Z hb6.out hown2 hgr2)
  obtain ⟨kz1, kz2, kz3, kz4⟩ := HRY.out Z HZ.out.2.1
  have HKZ : Z.cell? ⟨B, 0, none⟩ = some (.int .i64 N) ∧ Z.cell? ⟨B, 1, none⟩ = some (.slice ao F cap) ∧ Z.cell? ⟨ab, aoff + i, none⟩ = some (.int .i64 (c : Int)) := HKZ'.out Z HZ.out.2.1
  refine hK.out _ _ ?_ (fun hHeld4 => ?_)
  · ((try dsimp only); first | exact HK.out _ (by assumption) | exact HK.out _ (Lib.hid ((by assumption : Hid (Below Y.heap.size Y w5)).out.alloc (by exact ((by assumption : Hid (Below Y.heap.size Y w5)).out.size)) _)) | exact HKZ)
  clear hK K hHeld3
  refine wpAnyH_ready (rs := [10]) (by kernel_rfl) (by simp) ?_
  refine AllReadyH.cons rfl (fun K hK => ?_) AllReadyH.nil
  go_simp
  refine hK.out _ _ ?_ (fun hHeld5 => ?_)
  · ((try dsimp only); first | exact HK.out _ (by assumption) | exact HK.out _ (Lib.hid ((by assumption : Hid (Below Y.heap.size Y w5)).out.alloc (by exact ((by assumption : Hid (Below Y.heap.size Y w5)).out.size)) _)) | exact HKZ)
  clear hK K hHeld4
  refine wpAnyH_done (by kernel_rfl) ?_ _
  clear hHeld5
  clear hown2 hgr2 hat2 hlt2 kz1 kz2 kz3 kz4 hb6 hb5 hb4 HKZ HKZ'
  go_wp2
  go_roundw
  case rel => exact ⟨i + 1, m + 1, by omega, by go_num, Lib.hid (by rw [HN.out, List.length_append, ← HM.out]; rfl), HZ.out.1, HZ.out.2.1, HZ.out.2.2⟩
  case measure => simp [intOf]; omega
end Go.Proofs.YtkjamheoihlekaaGreat

/- tree.reach: breadth first over a surface's triangles. tree.reach: contract. tree.Dual: contracts; corners that there are not. -/
import Derived.Test.YtkjamheoihlekaaGreatBfsLaw
import Derived.Test.YtkjamheoihlekaaGreatQueue
import Derived.Test.YtkjamheoihlekaaGreatCorner
import Derived.Deep.RegionHeldLaw
import Derived.Deep.AppendLies
import Derived.Deep.RegionHeld3
import Derived.BigQuiet
import Derived.Test.YtkjamheoihlekaaGreatTreeRep
import Derived.Test.YtkjamheoihlekaaGreatSurfDef
namespace Go.Proofs.YtkjamheoihlekaaGreat
set_option linter.unusedVariables false
set_option linter.unusedSimpArgs false
open Go.RowKit
/-- What tree.reach has laid: the boxes of t, link, order, in; the rows. -/
structure Rch (W X : World) (B p : Nat) (N : Int) (T : List Tr) (F gl gi bi base : Nat) (vo : Value) (β : Nat → Bool) (φ : Nat → Int) (O : List Nat) : Prop where
  tab : Tab W p N T
  wB : W.heap.size = B
  low : Below B W X
  tb : RowIs X B 26 [.pointer (some ⟨p, 0, none⟩)]
  lb : RowIs X (B + 1) 28 [.slice (some ⟨gl, 0, none⟩) F F]
  ob : RowIs X (B + 2) 28 [vo]
  ib : RowIs X bi 74 [.slice (some ⟨gi, 0, none⟩) F F]
  l : RowIs X gl 3 (iv φ F)
  i : RowIs X gi 4 (bv β F)
  o : X.ownsRow base 3 1 vo O.length (nv O)
  h1 : B + 2 < gl
  h2 : gl < gi
  h3 : gi < bi
  h4 : bi < base
  mx : base ≤ X.heap.size
section
variable {W X Y : World} {B p : Nat} {N : Int} {T : List Tr} {F gl gi bi base : Nat} {vo : Value} {β : Nat → Bool} {φ : Nat → Int} {O : List Nat}
theorem Rch.more (h : Rch W X B p N T F gl gi bi base vo β φ O) (hb : Below X.heap.size X Y) : Rch W Y B p N T F gl gi bi base vo β φ O :=
  ⟨h.tab, h.wB, below_more h.low hb (by have := h.tb.lt; omega), h.tb.after hb, h.lb.after hb, h.ob.after hb, h.ib.after hb, h.l.after hb, h.i.after hb, owns_below h.o hb, h.h1, h.h2, h.h3, h.h4, by have := hb.size; have := h.mx; omega⟩
theorem Rch.alloc (h : Rch W X B p N T F gl gi bi base vo β φ O) (o : Obj) : Rch W (X.alloc o) B p N T F gl gi bi base vo β φ O := h.more ((Below.refl _ _).alloc (Nat.le_refl _) o)
theorem Rch.drew (h : Rch W X B p N T F gl gi bi base vo β φ O) : Rch W X.drew B p N T F gl gi bi base vo β φ O := h.more (Below.refl _ _).drew
theorem bv_set18 (β : Nat → Bool) (n x : Nat) (b : Bool) : (bv β n).set x (.bool b) = bv (fun j => if j = x then b else β j) n := by
  refine set_map_range n _ _ x _ fun j => ?_
  by_cases e : j = x <;> simp [e]
theorem Rch.seti (h : Rch W X B p N T F gl gi bi base vo β φ O) (k : Nat) (b : Bool) : Rch W (X.setCell ⟨gi, k, none⟩ (.bool b)) B p N T F gl gi bi base vo (fun j => if j = k then b else β j) φ O := by
  have hg := grown_set X gi k (.bool b)
  have h1 := h.h1; have h2 := h.h2; have h3 := h.h3; have h4 := h.h4; have hmx := h.mx
  refine ⟨h.tab, h.wB, h.low.grown hg (by omega) (fun q hq => by cases hq; omega), h.tb.grown hg (by simp; omega), h.lb.grown hg (by simp; omega), h.ob.grown hg (by simp; omega), h.ib.grown hg (by simp; omega), h.l.grown hg (by simp; omega), ?_, h.o.kept hg (owns_off h.o (by omega)), h1, h2, h3, h4, by have := hg.size; omega⟩
  rw [← bv_set18]
  exact h.i.set k (.bool b)
theorem Rch.setl (h : Rch W X B p N T F gl gi bi base vo β φ O) (k : Nat) (x : Int) : Rch W (X.setCell ⟨gl, k, none⟩ (.int .i64 x)) B p N T F gl gi bi base vo β (fun j => if j = k then x else φ j) O := by
  have hg := grown_set X gl k (.int .i64 x)
  have h1 := h.h1; have h2 := h.h2; have h3 := h.h3; have h4 := h.h4; have hmx := h.mx
  refine ⟨h.tab, h.wB, h.low.grown hg (by omega) (fun q hq => by cases hq; omega), h.tb.grown hg (by simp; omega), h.lb.grown hg (by simp; omega), h.ob.grown hg (by simp; omega), h.ib.grown hg (by simp; omega), ?_, h.i.grown hg (by simp; omega), h.o.kept hg (owns_off h.o (by omega)), h1, h2, h3, h4, by have := hg.size; omega⟩
  have := h.l.set k (.int .i64 x)
  rw [iv_set] at this
  exact this
/-- The order grows; its box is laid anew. -/
theorem Rch.push (h : Rch W X B p N T F gl gi bi base vo β φ O) {g cap n x : Nat} (hown : Y.ownsRow base 3 1 (.slice (some ⟨g, 0, none⟩) n cap) n (nv (O ++ [x]))) (hn : n = (O ++ [x]).length) (hg : X.grownBy Y vo.ownBlock) :
    RowIs Y (B + 2) 28 [vo] ∧ Rch W (Y.setCell ⟨B + 2, 0, none⟩ (.slice (some ⟨g, 0, none⟩) n cap)) B p N T F gl gi bi base (.slice (some ⟨g, 0, none⟩) n cap) β φ (O ++ [x]) := by
  have h1 := h.h1; have h2 := h.h2; have h3 := h.h3; have h4 := h.h4; have hmx := h.mx
  have off : ∀ b, b < base → some b ≠ vo.ownBlock := fun b hb q => by have := (h.o.lt b q.symm).1; omega
  have hob := h.ob.grown hg (off _ (by omega))
  have hs := grown_set Y (B + 2) 0 (.slice (some ⟨g, 0, none⟩) n cap)
  have hlow : Below B W Y := h.low.grown hg (by omega) (fun q hq => by have := (h.o.lt q hq).1; omega)
  have hsz := hg.size
  have hY := hob.lt
  refine ⟨hob, h.tab, h.wB, hlow.grown hs (by omega) (fun q hq => by cases hq; omega), (h.tb.grown hg (off _ (by omega))).grown hs (by simp), (h.lb.grown hg (off _ (by omega))).grown hs (by simp), hob.set 0 _, (h.ib.grown hg (off _ (by omega))).grown hs (by simp; omega), (h.l.grown hg (off _ (by omega))).grown hs (by simp; omega), (h.i.grown hg (off _ (by omega))).grown hs (by simp; omega), ?_, h1, h2, h3, h4, by have := hs.size; omega⟩
  rw [← hn]
  exact hown.kept hs (owns_off hown (by omega))
end
/-- What 'over' comes to. -/
def OverP (W : World) (B p : Nat) (N : Int) (T : List Tr) (F gl gi bi base : Nat) (vo : Value) (β : Nat → Bool) (φ : Nat → Int) (O : List Nat) (c : Nat) (e : Ending) (w' : World) : Prop :=
  e = .returned (.tuple #[]) ∧ ((∃ o : Nat, opp T (c : Nat) = (o : Int) ∧ β (o / 3) = false ∧ ∃ vo', Rch W w' B p N T F gl gi bi base vo' (fun j => if j = o / 3 then true else β j) (fun j => if j = o / 3 then (o : Int) else φ j) (O ++ [o / 3])) ∨
    ((∀ o : Nat, opp T (c : Nat) = (o : Int) → β (o / 3) = true) ∧ Rch W w' B p N T F gl gi bi base vo β φ O))
set_option maxRecDepth 100000 in
set_option maxHeartbeats 4000000 in
theorem over_ok {W X : World} {B p : Nat} {N : Int} {T : List Tr} {F gl gi bi base : Nat} {vo : Value} {β : Nat → Bool} {φ : Nat → Int} {O : List Nat} (h : Rch W X B p N T F gl gi bi base vo β φ O) (hF : F = T.length) (hO : O.length ≤ T.length) (c : Nat) (hc : c < 3 * T.length) :
    Calls Tryz.prog 84 #[.int .i64 c, .pointer (some ⟨B, 0, none⟩), .pointer (some ⟨bi, 0, none⟩), .pointer (some ⟨B + 1, 0, none⟩), .pointer (some ⟨B + 2, 0, none⟩)] X (OverP W B p N T F gl gi bi base vo β φ O c) := by
  obtain ⟨i0, hi0, hz0, hz1, hz2⟩ := info_parts info3
  have hl4 := h.tab.len
  have htX : Tab X p N T := h.tab.mono (B := B) (by rw [h.wB]; exact Nat.le_refl _) h.low
  have HOP := Lib.hid (opp_any c X p N T htX (by omega) (by omega))
  have hlt := opp_lt (T := T) (c : Int) (by omega) (by omega)
  obtain ⟨x, hx⟩ : ∃ x, x = opp T (c : Nat) := ⟨_, rfl⟩
  have HX := Lib.hid hx
  rw [← hx] at HOP hlt
  obtain ⟨vb, vc, rfl⟩ := owns_slice h.o
  have HR := Lib.hid h
  have c1 := h.tb.cell (i := 0) rfl
  obtain ⟨on, hon⟩ : ∃ n, n = O.length := ⟨_, rfl⟩
  have HON := Lib.hid hon
  have hFb : F ≤ 10000 := by omega
  have hob : on ≤ 10000 := by omega
  have HF := Lib.hid hF
  have hlt3 : x < 3 * (F : Int) := by omega
  clear h htX hx hlt hO hc hF hon hl4
  go_enter Tryz.func84, Tryz.ntmps84
  go_wp2_with fail
  refine HOP.out.mono ?_
  rintro e w1 ⟨rfl, hb1⟩
  have h1 := HR.out.more hb1
  have HR1 := Lib.hid h1
  have d2 := h1.ib.cell (i := 0) rfl
  by_cases hx0 : 0 ≤ x
  case neg =>
    have g1 : decide (x ≥ 0) = false := by simpa using hx0
    have HFIN := Lib.hid (show OverP W B p N T F gl gi bi base (.slice vb O.length vc) β φ O c (.returned (.tuple #[])) w1 from ⟨rfl, .inr ⟨fun o ho => by rw [← HX.out] at ho; omega, HR1.out⟩⟩)
    clear hb1 h1 hx0
    go_wp2
    exact bodyPost_end (v := .tuple #[]) (by simp [results, Tryz.results84, go_sem]) rfl HFIN.out
  case pos =>
  obtain ⟨o, rfl⟩ := Int.eq_ofNat_of_zero_le hx0
  obtain ⟨k, hk⟩ : ∃ k, k = o / 3 := ⟨_, rfl⟩
  have hkF : k < F := by omega
  have hq : Int.tdiv (o : Int) 3 = (k : Int) := by rw [Int.tdiv_eq_ediv_of_nonneg (by omega)]; omega
  have hq2 : (o : Int) / 3 = (k : Int) := by omega
  have g1 : decide ((o : Int) ≥ 0) = true := by simp
  have hkw : IntKind.i64.wrap (k : Int) = (k : Int) := IntWalk.i64_in _ (by omega)
  have ci := h1.i.cell (i := k) (v := .bool (β k)) (by simp [bv, hkF])
  have bk : (0 : Int) ≤ (k : Int) ∧ (k : Int) < (F : Int) := by omega
  have HK := Lib.hid hk
  obtain ⟨b, hbk⟩ : ∃ b, b = β k := ⟨_, rfl⟩
  have HBK := Lib.hid hbk
  rw [← hbk] at ci
  cases b
  case true =>
    have HFIN := Lib.hid (show OverP W B p N T F gl gi bi base (.slice vb O.length vc) β φ O c (.returned (.tuple #[])) w1 from ⟨rfl, .inr ⟨fun o' ho => by
      rw [← HX.out] at ho
      have : o' = o := by omega
      rw [this, ← HK.out]
      exact HBK.out.symm, HR1.out⟩⟩)
    clear hb1 h1 hbk hk hx0
    go_wp2
    exact bodyPost_end (v := .tuple #[]) (by simp [results, Tryz.results84, go_sem]) rfl HFIN.out
  case false =>
  have d3 := h1.lb.cell (i := 0) rfl
  have i1 := h1.i.cell (i := k) (v := .bool (β k)) (by simp [bv, hkF])
  have i2 := h1.i.free k
  have hs1 := h1.seti k true
  have l1 := hs1.l.cell (i := k) (v := .int .i64 (φ k)) (iv_get φ hkF)
  have l2 := h1.l.free k
  have hs2 := (hs1.setl k (o : Int)).drew
  have HKS := Lib.hid (show (w1.drew.cell? ⟨bi, 0, none⟩ = some (.slice (some ⟨gi, 0, none⟩) F F) ∧ w1.drew.cell? ⟨B + 1, 0, none⟩ = some (.slice (some ⟨gl, 0, none⟩) F F)) from ⟨h1.ib.cell (i := 0) rfl, h1.lb.cell (i := 0) rfl⟩)
  have HKS1 := Lib.hid (show ((w1.setCell ⟨gi, k, none⟩ (.bool true)).drew.cell? ⟨bi, 0, none⟩ = some (.slice (some ⟨gi, 0, none⟩) F F) ∧ (w1.setCell ⟨gi, k, none⟩ (.bool true)).drew.cell? ⟨B + 1, 0, none⟩ = some (.slice (some ⟨gl, 0, none⟩) F F)) from ⟨hs1.ib.cell (i := 0) rfl, hs1.lb.cell (i := 0) rfl⟩)
  have HKS2 := Lib.hid (show ((((w1.setCell ⟨gi, k, none⟩ (.bool true)).setCell ⟨gl, k, none⟩ (.int .i64 (o : Int))).drew).cell? ⟨bi, 0, none⟩ = some (.slice (some ⟨gi, 0, none⟩) F F) ∧ (((w1.setCell ⟨gi, k, none⟩ (.bool true)).setCell ⟨gl, k, none⟩ (.int .i64 (o : Int))).drew).cell? ⟨B + 1, 0, none⟩ = some (.slice (some ⟨gl, 0, none⟩) F F)) from ⟨hs2.ib.cell (i := 0) rfl, hs2.lb.cell (i := 0) rfl⟩)
  rw [← hbk] at i1
  obtain ⟨lk, hlk⟩ : ∃ q, q = φ k := ⟨_, rfl⟩
  rw [← hlk] at l1
  obtain ⟨Z, hZ⟩ : ∃ Z, Z = ((w1.setCell ⟨gi, k, none⟩ (.bool true)).setCell ⟨gl, k, none⟩ (.int .i64 (o : Int))).drew := ⟨_, rfl⟩
  rw [← hZ] at hs2
  have HZ := Lib.hid hZ
  have HS2 := Lib.hid hs2
  have x4 := hs2.ob.cell (i := 0) rfl
  rw [← HON.out] at x4
  have HAL := Lib.hid (show (Z.alloc (.cells #[.int .i64 (k : Int)] 3)).ownsRow base 3 1 (.slice vb on vc) on (nv O) from by have := hs2.o.alloc (.cells #[.int .i64 (k : Int)] 3); rw [← HON.out] at this; exact this)
  have HQ1 := Lib.hid (show on + 1 ≤ maxLen by unfold maxLen; omega)
  have HQ2 := Lib.hid (show (on + 1) * 8 ≤ 140737488355328 by omega)
  have HQ3 := Lib.hid (show base ≤ (Z.alloc (.cells #[.int .i64 (k : Int)] 3)).heap.size by have := hs2.mx; simp; omega)
  have hR1 := h1.ib.cell (i := 0) rfl
  clear hb1 h1 hbk hk hx0 hs1 hs2 hZ hlk
  go_upto_region 2 with fail
  refine wp_region_held_drew (S := (fun w' => w'.cell? ⟨bi, 0, none⟩ = some (.slice (some ⟨gi, 0, none⟩) F F) ∧ w'.cell? ⟨B + 1, 0, none⟩ = some (.slice (some ⟨gl, 0, none⟩) F F))) (by kernel_rfl) ?_ (fun hHeld0 => ?_)
  · ((try dsimp only); first | exact HKS.out | exact HKS1.out | exact HKS2.out)
  refine wpAnyH_take (i := 0) (v := ?_) rfl (by kernel_rfl) (by kernel_rfl) (by kernel_rfl) (fun _ _ _ h => h) (Or.inl ⟨by rfl, ?_⟩) (by assumption) ?_
  rotate_left
  · (intro w hSw; (try dsimp only at hSw); go_simp; try with_reducible rfl)
  try simp only [List.getElem_toArray, List.getElem_cons_succ, List.getElem_cons_zero, Act.put, List.setIfInBounds_toArray, List.set_cons_zero, List.set_cons_succ]
  refine wpAnyH_take (i := 1) (v := ?_) rfl (by kernel_rfl) (by kernel_rfl) (by kernel_rfl) (fun _ _ _ h => h) (Or.inl ⟨by rfl, ?_⟩) (by assumption) ?_
  rotate_left
  · (intro w hSw; (try dsimp only at hSw); go_simp; try with_reducible rfl)
  try simp only [List.getElem_toArray, List.getElem_cons_succ, List.getElem_cons_zero, Act.put, List.setIfInBounds_toArray, List.set_cons_zero, List.set_cons_succ]
  refine wpAnyH_take (i := 2) (v := ?_) rfl (by kernel_rfl) (by kernel_rfl) (by kernel_rfl) (fun _ _ _ h => h) (Or.inl ⟨by rfl, ?_⟩) (by assumption) ?_
  rotate_left
  · (intro w hSw; (try dsimp only at hSw); go_simp; try with_reducible rfl)
  try simp only [List.getElem_toArray, List.getElem_cons_succ, List.getElem_cons_zero, Act.put, List.setIfInBounds_toArray, List.set_cons_zero, List.set_cons_succ]
  refine wpAnyH_take (i := 3) (v := ?_) rfl (by kernel_rfl) (by kernel_rfl) (by kernel_rfl) (fun _ _ _ h => h) (Or.inl ⟨by rfl, ?_⟩) (by assumption) ?_
  rotate_left
  · (intro w hSw; (try dsimp only at hSw); go_simp; try with_reducible rfl)
  try simp only [List.getElem_toArray, List.getElem_cons_succ, List.getElem_cons_zero, Act.put, List.setIfInBounds_toArray, List.set_cons_zero, List.set_cons_succ]
  refine wpAnyH_take (i := 4) (v := ?_) rfl (by kernel_rfl) (by kernel_rfl) (by kernel_rfl) (fun _ _ _ h => h) (Or.inl ⟨by rfl, ?_⟩) (by assumption) ?_
  rotate_left
  · (intro w hSw; (try dsimp only at hSw); go_simp; try with_reducible rfl)
  try simp only [List.getElem_toArray, List.getElem_cons_succ, List.getElem_cons_zero, Act.put, List.setIfInBounds_toArray, List.set_cons_zero, List.set_cons_succ]
  refine wpAnyH_take (i := 5) (v := ?_) rfl (by kernel_rfl) (by kernel_rfl) (by kernel_rfl) (fun _ _ _ h => h) (Or.inl ⟨by rfl, ?_⟩) (by assumption) ?_
  rotate_left
  · (intro w hSw; (try dsimp only at hSw); go_simp; try with_reducible rfl)
  try simp only [List.getElem_toArray, List.getElem_cons_succ, List.getElem_cons_zero, Act.put, List.setIfInBounds_toArray, List.set_cons_zero, List.set_cons_succ]
  refine wpAnyH_take (i := 6) (v := ?_) rfl (by kernel_rfl) (by kernel_rfl) (by kernel_rfl) (fun _ _ _ h => h) (Or.inl ⟨by rfl, ?_⟩) (by assumption) ?_
  rotate_left
  · (intro w hSw; (try dsimp only at hSw); go_simp; try with_reducible rfl)
  try simp only [List.getElem_toArray, List.getElem_cons_succ, List.getElem_cons_zero, Act.put, List.setIfInBounds_toArray, List.set_cons_zero, List.set_cons_succ]
  refine wpAnyH_take (i := 7) (v := ?_) rfl (by kernel_rfl) (by kernel_rfl) (by kernel_rfl) (fun _ _ _ h => h) (Or.inl ⟨by rfl, ?_⟩) (by assumption) ?_
  rotate_left
  · (intro w hSw; (try dsimp only at hSw); go_simp; try with_reducible rfl)
  try simp only [List.getElem_toArray, List.getElem_cons_succ, List.getElem_cons_zero, Act.put, List.setIfInBounds_toArray, List.set_cons_zero, List.set_cons_succ]
  refine wpAnyH_ready (rs := [8]) (by kernel_rfl) (by simp) ?_
  refine AllReadyH.cons rfl (fun K hK => ?_) AllReadyH.nil
  go_simp
  refine hK.out _ _ ?_ (fun hHeld1 => ?_)
  · ((try dsimp only); first | exact HKS.out | exact HKS1.out | exact HKS2.out)
  clear hK K hHeld0
  refine wpAnyH_take (i := 9) (v := ?_) rfl (by kernel_rfl) (by kernel_rfl) (by kernel_rfl) (fun _ _ _ h => h) (Or.inl ⟨by rfl, ?_⟩) (by assumption) ?_
  rotate_left
  · (intro w hSw; (try dsimp only at hSw); go_simp; try with_reducible rfl)
  try simp only [List.getElem_toArray, List.getElem_cons_succ, List.getElem_cons_zero, Act.put, List.setIfInBounds_toArray, List.set_cons_zero, List.set_cons_succ]
  refine wpAnyH_ready (rs := [10]) (by kernel_rfl) (by simp) ?_
  refine AllReadyH.cons rfl (fun K hK => ?_) AllReadyH.nil
  go_simp
  refine hK.out _ _ ?_ (fun hHeld2 => ?_)
  · ((try dsimp only); first | exact HKS.out | exact HKS1.out | exact HKS2.out)
  clear hK K hHeld1
  refine wpAnyH_done (by kernel_rfl) ?_ _
  clear hHeld2
  rw [← HZ.out]
  go_wp2_with (at_builtin; refine wpList_append_lies _ rfl _ _ 28 rfl base 3 i0 (.int .i64 0) 1 8 (by kernel_rfl) hi0 hz0 hz1 hz2 rfl (by decide) _ _ _ rfl HAL.out ⟨Z.heap.size, 0, none⟩ 1 1 [.int .i64 (k : Int)] rfl rfl (World.news_of_block (heap_alloc_new Z _)) (by intro u hu; simp at hu; subst hu; rfl) (by decide) HQ1.out HQ2.out HQ3.out _ rfl ?_)
  intro g2 cap2 X2 hown2 hgr2 hat2 hlt2
  obtain ⟨hob2, hfin⟩ := (HS2.out.alloc (.cells #[.int .i64 (k : Int)] 3)).push (x := k) (n := on + 1) (g := g2) (cap := cap2) (by rw [nv_snoc]; exact hown2) (by rw [HON.out]; simp) (by rw [← HON.out]; exact hgr2)
  have y0 := hob2.cell (i := 0) rfl
  have y1 := hob2.free 0
  have HFIN := Lib.hid hfin
  clear hown2 hgr2 hat2 hlt2 hob2 hfin
  go_wp2
  refine bodyPost_end (v := .tuple #[]) (by simp [results, Tryz.results84, go_sem]) rfl ⟨rfl, .inl ⟨o, HX.out.symm, by rw [← HK.out]; exact HBK.out.symm, .slice (some ⟨g2, 0, none⟩) (on + 1) cap2, ?_⟩⟩
  rw [← HK.out]
  exact HFIN.out
theorem next_tab {X : World} {p : Nat} {N : Int} {T : List Tr} (h : Tab X p N T) (c : Nat) (hc : c < 3 * T.length) :
    Calls Tryz.prog 27 #[.pointer (some ⟨p, 0, none⟩), .int .i64 c] X fun e w' => e = .returned (.int .i64 ((nxn c : Nat) : Int)) ∧ X = w' := by
  obtain ⟨ao, cap, h0, h1, h2, h3⟩ := h.s
  refine (next_any (c : Int) X p ao T.length cap h.len h1 (by omega) (by omega)).mono ?_
  rintro e w' ⟨rfl, h⟩
  exact ⟨by rw [← nx_nat]; rfl, h⟩
theorem prev_tab {X : World} {p : Nat} {N : Int} {T : List Tr} (h : Tab X p N T) (c : Nat) (hc : c < 3 * T.length) :
    Calls Tryz.prog 28 #[.pointer (some ⟨p, 0, none⟩), .int .i64 c] X fun e w' => e = .returned (.int .i64 ((pvn c : Nat) : Int)) ∧ X = w' := by
  obtain ⟨ao, cap, h0, h1, h2, h3⟩ := h.s
  refine (prev_any (c : Int) X p ao T.length cap h.len h1 (by omega) (by omega)).mono ?_
  rintro e w' ⟨rfl, h⟩
  exact ⟨by rw [← pv_nat]; rfl, h⟩
theorem bfs_one (T : List Tr) (f : Nat) : bfsB T f 1 = overB T (overB T (overB T (initB f) f) (nxn f)) (pvn f) := rfl
theorem bfs_next (T : List Tr) (f : Nat) {k q : Nat} (hk : k < (bfsB T f k).o.length) (h0 : 1 ≤ k) (hq : (bfsB T f k).l ((bfsB T f k).o.getD k 0) = (q : Int)) : bfsB T f (k + 1) = overB T (overB T (bfsB T f k) (nxn q)) (pvn q) := by
  show stepB T f k (bfsB T f k) = _
  unfold stepB sidesB
  rw [if_pos hk, if_neg (by omega), hq]
  rfl
section
variable {W X Y : World} {B p : Nat} {N : Int} {T : List Tr} {F gl gi bi base : Nat} {vo : Value} {β : Nat → Bool} {φ : Nat → Int} {O : List Nat}
theorem Rch.congr {β' : Nat → Bool} {φ' : Nat → Int} (h : Rch W X B p N T F gl gi bi base vo β φ O) (hb : ∀ j, β j = β' j) (hf : ∀ j, φ j = φ' j) : Rch W X B p N T F gl gi bi base vo β' φ' O := by
  have e1 : β = β' := funext hb
  have e2 : φ = φ' := funext hf
  subst e1 e2
  exact h
/-- The state s. -/
def RchB (W X : World) (B p : Nat) (N : Int) (T : List Tr) (F gl gi bi base : Nat) (vo : Value) (s : BfS) : Prop := Rch W X B p N T F gl gi bi base vo (fun t => decide (t ∈ s.o)) s.l s.o
theorem over_B {s : BfS} (h : RchB W X B p N T F gl gi bi base vo s) (hF : F = T.length) (hO : s.o.length ≤ T.length) (c : Nat) (hc : c < 3 * T.length) :
    Calls Tryz.prog 84 #[.int .i64 c, .pointer (some ⟨B, 0, none⟩), .pointer (some ⟨bi, 0, none⟩), .pointer (some ⟨B + 1, 0, none⟩), .pointer (some ⟨B + 2, 0, none⟩)] X fun e w' => e = .returned (.tuple #[]) ∧ ∃ vo', RchB W w' B p N T F gl gi bi base vo' (overB T s c) := by
  refine (over_ok h hF hO c hc).mono ?_
  rintro e w' ⟨h1, h2⟩
  refine ⟨h1, ?_⟩
  unfold overB
  rcases h2 with ⟨o, ho, hb, vo', hr⟩ | ⟨hn, hr⟩
  · have hm : o / 3 ∉ s.o := by simpa using hb
    rw [if_pos (by rw [ho]; simp [hm]), ho]
    refine ⟨vo', hr.congr (fun j => ?_) (fun j => ?_)⟩
    · by_cases e : j = o / 3 <;> simp [e]
    · simp
  · by_cases h0 : 0 ≤ opp T (c : Nat) ∧ (opp T (c : Nat)).toNat / 3 ∉ s.o
    · exfalso
      obtain ⟨o, ho⟩ := Int.eq_ofNat_of_zero_le h0.1
      have := hn o ho
      rw [ho] at h0
      exact h0.2 (by simpa using this)
    · rw [if_neg h0]
      exact ⟨vo, hr⟩
end
set_option maxRecDepth 100000 in
set_option maxHeartbeats 4000000 in
theorem reach_ok (p : Nat) (N : Int) (T : List Tr) (f : Nat) (w : World) (h : Tab w p N T) (hs : Surf N T) (hf : f < 3 * T.length) :
    Calls Tryz.prog 43 #[.pointer (some ⟨p, 0, none⟩), .int .i64 f] w fun e w' => ∃ gl ao cap, e = .returned (.tuple #[.slice (some ⟨gl, 0, none⟩) T.length T.length, .slice ao (bfs T f).o.length cap]) ∧ RowIs w' gl 3 (iv (bfs T f).l T.length) ∧ IntsAt w' ao ((bfs T f).o.map fun (x : Nat) => (x : Int)) ∧ Below w.heap.size w w' := by
  obtain ⟨i0, hi0, hz0, hz1, hz2⟩ := info_parts info3
  obtain ⟨i1, hi1, hy0, hy1, hy2⟩ := info_parts info4
  have hl4 := h.len
  obtain ⟨F, hF⟩ : ∃ F, F = T.length := ⟨_, rfl⟩
  obtain ⟨B, hB⟩ : ∃ B, B = w.heap.size := ⟨_, rfl⟩
  obtain ⟨W0, hW0⟩ : ∃ W0, W0 = ((w.alloc (.cells #[.pointer (some ⟨p, 0, none⟩)] 26)).alloc (.cells #[.slice none 0 0] 28)).alloc (.cells #[.slice none 0 0] 28) := ⟨_, rfl⟩
  have hb0 : Below B w W0 := by rw [hW0, hB]; exact (((Below.refl _ _).alloc (Nat.le_refl _) _).alloc (by simp) _).alloc (by simp; omega) _
  have r0 : RowIs W0 B 26 [.pointer (some ⟨p, 0, none⟩)] := by rw [hW0, hB]; exact ((RowIs.made w 26 [.pointer (some ⟨p, 0, none⟩)]).alloc _).alloc _
  have r1 : RowIs W0 (B + 1) 28 [.slice none 0 0] := by rw [hW0, hB]; exact (RowIs.made' (w.alloc (.cells #[.pointer (some ⟨p, 0, none⟩)] 26)) 28 [.slice none 0 0] _ (by simp)).alloc _
  have r2 : RowIs W0 (B + 2) 28 [.slice none 0 0] := by rw [hW0, hB]; exact RowIs.made' _ 28 [.slice none 0 0] _ (by simp)
  have hsz : W0.heap.size = B + 3 := by rw [hW0, hB]; simp
  obtain ⟨W1, hW1⟩ : ∃ W1, W1 = W0.alloc (.cells #[.int .i64 (-1)] 3) := ⟨_, rfl⟩
  have hb01 : Below W0.heap.size W0 W1 := by rw [hW1]; exact (Below.refl _ _).alloc (Nat.le_refl _) _
  have r3 : RowIs W1 (B + 3) 3 [.int .i64 (-1)] := by rw [hW1]; exact RowIs.made' W0 3 [.int .i64 (-1)] _ hsz.symm
  have hbW1 : Below B w W1 := below_more hb0 hb01 (by omega)
  have HT := Lib.hid h
  have HS := Lib.hid hs
  have HBB := Lib.hid hB
  have HF := Lib.hid hF
  have HW0 := Lib.hid hW0
  have HW1 := Lib.hid hW1
  have HSZ := Lib.hid hsz
  have HBW1 := Lib.hid hbW1
  have HR1 := Lib.hid (show RowIs W1 B 26 [.pointer (some ⟨p, 0, none⟩)] ∧ RowIs W1 (B + 1) 28 [.slice none 0 0] ∧ RowIs W1 (B + 2) 28 [.slice none 0 0] from ⟨r0.after hb01, r1.after hb01, r2.after hb01⟩)
  have hF1 : 1 ≤ F := by omega
  have hFb : F ≤ 10000 := by omega
  have HREP := Lib.hid (repeat_ok (-1) F hF1 (by omega) (B + 3) W1 r3)
  have HTR := Lib.hid (show TabS W1 p N T from (h.mono (B := B) (by rw [hB]; exact Nat.le_refl _) hbW1).s)
  have c0 := (r0.after hb01).cell (i := 0) rfl
  rw [hW1] at c0
  have hfF : f < 3 * F := by omega
  rw [← hF]
  rw [← hB]
  have hsz1 : W1.heap.size = B + 4 := by rw [hW1]; simp [hsz]
  have HSZ1 := Lib.hid hsz1
  clear h hs hf hF hB hW0 hW1 hb0 r0 r1 r2 r3 hsz hsz1 hb01 hbW1 hl4
  go_enter Tryz.func43, Tryz.ntmps43
  go_upto_region 1 with fail
  simp only [← HBB.out, show ∀ x : Nat, x + 1 + 1 = x + 2 from fun _ => rfl]
  rw [← HW0.out]
  go_wp2_with fail
  rw [← HW1.out]
  refine (triangles_any W1 p N T HTR.out).mono ?_
  rintro e w' ⟨rfl, rfl⟩
  rw [← HF.out]
  go_wp2_with fail
  rw [HSZ.out]
  refine HREP.out.mono ?_
  rintro e w2 ⟨gl, rfl, hgl, hrl, hb2⟩
  obtain ⟨q0, q1, q2⟩ := HR1.out
  have s0 := q0.after hb2
  have s1 := q1.after hb2
  have s2 := q2.after hb2
  have x1 := s1.cell (i := 0) rfl
  have f1 := s1.free 0
  have hb2' := below_more HBW1.out hb2 (by rw [HSZ1.out]; omega)
  have hgl4 : B + 4 ≤ gl := by rw [← HSZ1.out]; exact hgl
  obtain ⟨W3, hW3⟩ : ∃ W3, W3 = w2.setCell ⟨B + 1, 0, none⟩ (.slice (some ⟨gl, 0, none⟩) F F) := ⟨_, rfl⟩
  have hg3 : w2.grownBy W3 (some (B + 1)) := by rw [hW3]; exact grown_set _ _ _ _
  have t0 := s0.grown hg3 (by simp)
  have t1 : RowIs W3 (B + 1) 28 [.slice (some ⟨gl, 0, none⟩) F F] := by rw [hW3]; exact s1.set 0 _
  have t2 := s2.grown hg3 (by simp)
  have t3 := hrl.grown hg3 (by simp; omega)
  have hb3 : Below B w W3 := hb2'.grown hg3 (by have := s0.lt; omega) (fun q hq => by cases hq; omega)
  have HW3 := Lib.hid hW3
  have HT0 := Lib.hid t0
  have HT1 := Lib.hid t1
  have HT2 := Lib.hid t2
  have HT3 := Lib.hid t3
  have HB3 := Lib.hid hb3
  have HGL := Lib.hid hgl4
  have y1 := t1.cell (i := 0) rfl
  clear q0 q1 q2 s0 s1 s2 hb2' hgl hrl hb2 hW3 hg3 t0 t1 t2 t3 hb3 hgl4 HREP HTR HR1 c0
  go_wp2_with (at_make; (try rw [← HW3.out]); refine wpList_make_full _ rfl _ _ _ rfl W3.heap.size 4 i1 (.bool false) 1 (by kernel_rfl) hi1 hy0 hy1 _ _ _ _ F rfl rfl rfl rfl (by rw [hy2]; omega) (by unfold maxLen; omega) (Nat.le_refl _) ?_)
  intro w4 hown hgrow
  rw [madeCells_bv] at hown
  have hrow := RowIs.of_owns hown
  have hb4 : Below W3.heap.size W3 w4 := (Below.refl _ _).grown hgrow (Nat.le_refl _) (by simp)
  obtain ⟨gi, hgi⟩ : ∃ g, g = W3.heap.size := ⟨_, rfl⟩
  rw [← hgi] at hrow
  obtain ⟨W5, hW5⟩ : ∃ X, X = w4.alloc (.cells #[.slice (some ⟨gi, 0, none⟩) F F] 74) := ⟨_, rfl⟩
  obtain ⟨bi, hbi⟩ : ∃ b, b = w4.heap.size := ⟨_, rfl⟩
  have hb5 : Below w4.heap.size w4 W5 := by rw [hW5]; exact (Below.refl _ _).alloc (Nat.le_refl _) _
  have hib : RowIs W5 bi 74 [.slice (some ⟨gi, 0, none⟩) F F] := by rw [hW5, hbi]; exact RowIs.made w4 74 [.slice (some ⟨gi, 0, none⟩) F F]
  have hR5 : Rch w W5 B p N T F gl gi bi (bi + 1) (.slice none 0 0) (fun _ => false) (fun _ => -1) [] := by
    refine ⟨HT.out, HBB.out.symm, below_more (below_more HB3.out hb4 (by have := HT0.out.lt; omega)) hb5 (by have := hb4.size; have := HT0.out.lt; omega), (HT0.out.after hb4).after hb5, (HT1.out.after hb4).after hb5, (HT2.out.after hb4).after hb5, hib, (HT3.out.after hb4).after hb5, hrow.after hb5, World.ownsRow_nil _ _ _ _, by have := HGL.out; omega, ?_, ?_, by omega, by have := hib.lt; omega⟩
    · have := HT3.out.lt
      omega
    · have := hrow.lt
      omega
  have HGI := Lib.hid hgi
  have HBI := Lib.hid hbi
  have HW5 := Lib.hid hW5
  have HR5 := Lib.hid hR5
  have hf3 : f / 3 < F := by omega
  obtain ⟨k, hk⟩ : ∃ k, k = f / 3 := ⟨_, rfl⟩
  rw [← hk] at hf3
  have hq : Int.tdiv (f : Int) 3 = (k : Int) := by rw [Int.tdiv_eq_ediv_of_nonneg (by omega)]; omega
  have hkw : IntKind.i64.wrap (k : Int) = (k : Int) := IntWalk.i64_in _ (by omega)
  have bk : (0 : Int) ≤ (k : Int) ∧ (k : Int) < (F : Int) := by omega
  have HK := Lib.hid hk
  have z1 := hR5.ib.cell (i := 0) rfl
  have z2 := hR5.i.cell (i := k) (v := .bool false) (by simp [bv, hf3])
  have z3 := hR5.i.free k
  have hR6 := hR5.seti k true
  obtain ⟨Z, hZ⟩ : ∃ Z, Z = W5.setCell ⟨gi, k, none⟩ (.bool true) := ⟨_, rfl⟩
  rw [← hZ] at hR6
  have HZ := Lib.hid hZ
  have HR6 := Lib.hid hR6
  have x4 := hR6.ob.cell (i := 0) rfl
  have HAL := Lib.hid (show (Z.alloc (.cells #[.int .i64 (k : Int)] 3)).ownsRow (bi + 1) 3 1 (.slice none 0 0) 0 (nv []) from hR6.o.alloc (.cells #[.int .i64 (k : Int)] 3))
  have HQ3 := Lib.hid (show bi + 1 ≤ (Z.alloc (.cells #[.int .i64 (k : Int)] 3)).heap.size by have := hR6.mx; simp; omega)
  rw [← hgi]
  clear hown hgrow hrow hb4 hgi hbi hW5 hb5 hib hR5 hk hR6 hZ y1 x1 f1
  go_upto_region 3 with fail
  simp only [← HGI.out, ← HBI.out]
  rw [← HW5.out]
  go_upto_region 4 with fail
  rw [← HZ.out]
  go_wp2_with (at_builtin; refine wpList_append_lies _ rfl _ _ 28 rfl (bi + 1) 3 i0 (.int .i64 0) 1 8 (by kernel_rfl) hi0 hz0 hz1 hz2 rfl (by decide) _ _ _ rfl HAL.out ⟨Z.heap.size, 0, none⟩ 1 1 [.int .i64 (k : Int)] rfl rfl (World.news_of_block (heap_alloc_new Z _)) (by intro u hu; simp at hu; subst hu; rfl) (by decide) (by decide) (by decide) HQ3.out _ rfl ?_)
  intro g2 cap2 X2 hown2 hgr2 hat2 hlt2
  obtain ⟨hob2, hfin⟩ := (HR6.out.alloc (.cells #[.int .i64 (k : Int)] 3)).push (x := k) (n := 1) (g := g2) (cap := cap2) hown2 rfl hgr2
  have y0 := hob2.cell (i := 0) rfl
  have y1 := hob2.free 0
  obtain ⟨X3, hX3⟩ : ∃ X, X = X2.setCell ⟨B + 2, 0, none⟩ (.slice (some ⟨g2, 0, none⟩) 1 cap2) := ⟨_, rfl⟩
  rw [← hX3] at hfin
  have HX3 := Lib.hid hX3
  have HS0 := Lib.hid (show RchB w X3 B p N T F gl gi bi (bi + 1) (.slice (some ⟨g2, 0, none⟩) 1 cap2) (initB f) from by
    have h := hfin
    rw [HK.out] at h
    exact h.congr (fun j => by by_cases e : j = f / 3 <;> simp [e, initB]) (fun j => rfl))
  clear hown2 hgr2 hat2 hlt2 hob2 hfin hX3 x4 z1 z2 z3 HAL HQ3 HR6 HR5
  go_upto_region 6 with fail
  rw [← HX3.out]
  clear y0 y1
  have HOV := Lib.hid (fun (X : World) (vo : Value) (s : BfS) (c : Nat) (h : RchB w X B p N T F gl gi bi (bi + 1) vo s) (hl : s.o.length ≤ F) (hc : c < 3 * F) => over_B h HF.out (by rw [← HF.out]; exact hl) c (by rw [← HF.out]; exact hc))
  have HTB := Lib.hid (show ∀ (X : World) (vo : Value) (s : BfS), RchB w X B p N T F gl gi bi (bi + 1) vo s → Tab X p N T from fun X vo s h => HT.out.mono (B := B) (by rw [HBB.out]; exact Nat.le_refl _) h.low)
  have HNX := Lib.hid (show ∀ (X : World) (c : Nat), Tab X p N T → c < 3 * F → Calls Tryz.prog 27 #[.pointer (some ⟨p, 0, none⟩), .int .i64 c] X fun e w' => e = .returned (.int .i64 ((nxn c : Nat) : Int)) ∧ X = w' from fun X c h hc => next_tab h c (by rw [← HF.out]; exact hc))
  have HPV := Lib.hid (show ∀ (X : World) (c : Nat), Tab X p N T → c < 3 * F → Calls Tryz.prog 28 #[.pointer (some ⟨p, 0, none⟩), .int .i64 c] X fun e w' => e = .returned (.int .i64 ((pvn c : Nat) : Int)) ∧ X = w' from fun X c h hc => prev_tab h c (by rw [← HF.out]; exact hc))
  have HIO := Lib.hid (show ∀ (s : BfS) (c : Nat), BfI T f s → c < 3 * F → c / 3 ∈ s.o → BfI T f (overB T s c) from fun s c h hc hm => h.over HS.out (by rw [← HF.out]; exact hc) hm)
  have HIL := Lib.hid (show ∀ (s : BfS), BfI T f s → s.o.length ≤ F from fun s h => by rw [HF.out]; exact h.len)
  have hI0 : BfI T f (initB f) := BfI.init (by rw [← HF.out]; exact hfF)
  have hm0 : f / 3 ∈ (initB f).o := by simp [initB]
  have hI1 := HIO.out _ f hI0 hfF hm0
  have hm1 : nxn f / 3 ∈ (overB T (initB f) f).o := by rw [nxn_div]; exact (over_ext T _ f).o.subset hm0
  have hnf : nxn f < 3 * F := nxn_lt hfF
  have hpf : pvn f < 3 * F := pvn_lt hfF
  have hI2 := HIO.out _ (nxn f) hI1 hnf hm1
  have HI0 := Lib.hid (show (initB f).o.length ≤ F from HIL.out _ hI0)
  have HI1 := Lib.hid (HIL.out _ hI1)
  have HI2 := Lib.hid (HIL.out _ hI2)
  have HNF := Lib.hid hnf
  have HPF := Lib.hid hpf
  clear hI0 hm0 hI1 hm1 hI2 hnf hpf
  go_wp2_with fail
  refine (HOV.out X3 _ _ f HS0.out HI0.out hfF).mono ?_
  rintro e w4 ⟨rfl, vo4, h4⟩
  have HR4 := Lib.hid h4
  have HT4 := Lib.hid (HTB.out _ _ _ h4)
  have c4 := h4.tb.cell (i := 0) rfl
  clear h4
  go_wp2_with fail
  refine (HNX.out w4 f HT4.out hfF).mono ?_
  rintro e w' ⟨rfl, rfl⟩
  go_wp2_with fail
  refine (HOV.out w4 _ _ (nxn f) HR4.out HI1.out HNF.out).mono ?_
  rintro e w5 ⟨rfl, vo5, h5⟩
  have HR5 := Lib.hid h5
  have HT5 := Lib.hid (HTB.out _ _ _ h5)
  have c5 := h5.tb.cell (i := 0) rfl
  clear h5 c4
  go_wp2_with fail
  refine (HPV.out w5 f HT5.out hfF).mono ?_
  rintro e w' ⟨rfl, rfl⟩
  go_wp2_with fail
  refine (HOV.out w5 _ _ (pvn f) HR5.out HI2.out HPF.out).mono ?_
  rintro e w6 ⟨rfl, vo6, h6⟩
  rw [← bfs_one] at h6
  have HR6 := Lib.hid h6
  clear h6 c5 HR4 HT4 HR5 HT5 HI0 HI1 HI2 HS0
  have HBI' := Lib.hid (show ∀ j, BfI T f (bfsB T f j) from fun j => bfs_inv HS.out (by rw [← HF.out]; exact hfF) j)
  go_wp2
  go_loopw [8] (fun v ws => ∃ (k : Nat) (vo : Value), 1 ≤ k ∧ k ≤ (bfsB T f k).o.length ∧ v = .int .i64 k ∧ RchB w ws B p N T F gl gi bi (bi + 1) vo (bfsB T f k)) (fun v _ => F - (intOf v).toNat)
  case atStart => exact ⟨1, vo6, Nat.le_refl _, List.length_pos_of_mem (HBI'.out 1).hdm, rfl, HR6.out⟩
  case round =>
  clear HR6
  obtain ⟨k, vo, hk1, hkl, rfl, hr⟩ := hrel
  obtain ⟨X, rfl⟩ : ∃ X : World, X = wr := ⟨_, rfl⟩
  have hI := HBI'.out k
  obtain ⟨g4, cap4, rfl, hg4, -, -, -, hcl, -⟩ := owns_block hr.o (by omega)
  obtain ⟨on, hon⟩ : ∃ n, n = (bfsB T f k).o.length := ⟨_, rfl⟩
  have hof : on ≤ F := by rw [hon]; exact HIL.out _ hI
  have HON := Lib.hid hon
  have HK1 := Lib.hid hk1
  have hko : k ≤ on := by omega
  have HRX := Lib.hid hr
  have d1 := hr.lb.cell (i := 0) rfl
  have d2 := hr.ob.cell (i := 0) rfl
  have d0 := hr.tb.cell (i := 0) rfl
  rw [← hon] at d2
  by_cases hlt : k < on
  case neg =>
    obtain rfl : k = on := by omega
    have hend : bfs T f = bfsB T f k := bfs_end HS.out (by rw [← HF.out]; exact hfF) (Nat.le_of_eq HON.out.symm)
    obtain ⟨v1, hv1⟩ : ∃ v : Value, v = .slice (some ⟨gl, 0, none⟩) F F := ⟨_, rfl⟩
    have e1 := hr.lb
    have e2 := hr.ob
    rw [← hon] at e2
    have k1 : RowIs (X.setCell ⟨B + 1, 0, none⟩ (.slice (some ⟨gl, 0, none⟩) F F)) (B + 1) 28 [.slice (some ⟨gl, 0, none⟩) F F] := e1.set 0 _
    have k2 : RowIs (X.setCell ⟨B + 1, 0, none⟩ (.slice (some ⟨gl, 0, none⟩) F F)) (B + 2) 28 [.slice (some ⟨g4, 0, none⟩) k cap4] := e2.other (by simp) _
    have m1 : RowIs ((X.setCell ⟨B + 1, 0, none⟩ (.slice (some ⟨gl, 0, none⟩) F F)).setCell ⟨B + 2, 0, none⟩ (.slice (some ⟨g4, 0, none⟩) k cap4)) (B + 1) 28 [.slice (some ⟨gl, 0, none⟩) F F] := k1.other (by simp) _
    have m2 : RowIs ((X.setCell ⟨B + 1, 0, none⟩ (.slice (some ⟨gl, 0, none⟩) F F)).setCell ⟨B + 2, 0, none⟩ (.slice (some ⟨g4, 0, none⟩) k cap4)) (B + 2) 28 [.slice (some ⟨g4, 0, none⟩) k cap4] := k2.set 0 _
    have HA := Lib.hid (show X.drew.cell? ⟨B + 1, 0, none⟩ = some (.slice (some ⟨gl, 0, none⟩) F F) ∧ X.drew.cell? ⟨B + 2, 0, none⟩ = some (.slice (some ⟨g4, 0, none⟩) k cap4) from ⟨e1.cell rfl, e2.cell rfl⟩)
    have HA1 := Lib.hid (show (X.setCell ⟨B + 1, 0, none⟩ (.slice (some ⟨gl, 0, none⟩) F F)).drew.cell? ⟨B + 1, 0, none⟩ = some (.slice (some ⟨gl, 0, none⟩) F F) ∧ (X.setCell ⟨B + 1, 0, none⟩ (.slice (some ⟨gl, 0, none⟩) F F)).drew.cell? ⟨B + 2, 0, none⟩ = some (.slice (some ⟨g4, 0, none⟩) k cap4) from ⟨k1.cell rfl, k2.cell rfl⟩)
    have HA2 := Lib.hid (show ((X.setCell ⟨B + 1, 0, none⟩ (.slice (some ⟨gl, 0, none⟩) F F)).setCell ⟨B + 2, 0, none⟩ (.slice (some ⟨g4, 0, none⟩) k cap4)).drew.cell? ⟨B + 1, 0, none⟩ = some (.slice (some ⟨gl, 0, none⟩) F F) ∧ ((X.setCell ⟨B + 1, 0, none⟩ (.slice (some ⟨gl, 0, none⟩) F F)).setCell ⟨B + 2, 0, none⟩ (.slice (some ⟨g4, 0, none⟩) k cap4)).drew.cell? ⟨B + 2, 0, none⟩ = some (.slice (some ⟨g4, 0, none⟩) k cap4) from ⟨m1.cell rfl, m2.cell rfl⟩)
    have f1 := e1.free 0
    have f2 := e2.free 0
    have n2 := k2.cell (i := 0) rfl
    have o1 := m1.cell (i := 0) rfl
    have o2 := m2.cell (i := 0) rfl
    have hgA := grown_set X (B + 1) 0 (.slice (some ⟨gl, 0, none⟩) F F)
    have hgB := grown_set (X.setCell ⟨B + 1, 0, none⟩ (.slice (some ⟨gl, 0, none⟩) F F)) (B + 2) 0 (.slice (some ⟨g4, 0, none⟩) k cap4)
    have HFIN := Lib.hid (show RowIs ((X.setCell ⟨B + 1, 0, none⟩ (.slice (some ⟨gl, 0, none⟩) F F)).setCell ⟨B + 2, 0, none⟩ (.slice (some ⟨g4, 0, none⟩) k cap4)).drew gl 3 (iv (bfs T f).l F) ∧ IntsAt ((X.setCell ⟨B + 1, 0, none⟩ (.slice (some ⟨gl, 0, none⟩) F F)).setCell ⟨B + 2, 0, none⟩ (.slice (some ⟨g4, 0, none⟩) k cap4)).drew (some ⟨g4, 0, none⟩) ((bfs T f).o.map fun (x : Nat) => (x : Int)) ∧ Below B w ((X.setCell ⟨B + 1, 0, none⟩ (.slice (some ⟨gl, 0, none⟩) F F)).setCell ⟨B + 2, 0, none⟩ (.slice (some ⟨g4, 0, none⟩) k cap4)).drew ∧ (bfs T f).o.length = k from by
      have hh1 := hr.h1
      have hh4 := hr.h4
      have hh2 := hr.h2
      have hh3 := hr.h3
      have ht := hr.tb.lt
      rw [hend]
      refine ⟨((hr.l.grown hgA (by simp; omega)).grown hgB (by simp; omega)).drew1, ?_, ((hr.low.grown hgA (by omega) (fun q hq => by cases hq; omega)).grown hgB (by have := hgA.size; omega) (fun q hq => by cases hq; omega)).drew, HON.out.symm⟩
      have ho := (hr.o.kept hgA (owns_off hr.o (by omega))).kept hgB (owns_off (hr.o.kept hgA (owns_off hr.o (by omega))) (by omega))
      exact owns_nl (show World.ownsRow ((X.setCell ⟨B + 1, 0, none⟩ (.slice (some ⟨gl, 0, none⟩) F F)).setCell ⟨B + 2, 0, none⟩ (.slice (some ⟨g4, 0, none⟩) k cap4)).drew (bi + 1) 3 1 (.slice (some ⟨g4, 0, none⟩) (bfsB T f k).o.length cap4) (bfsB T f k).o.length (nv (bfsB T f k).o) from ho))
    clear hr hI hcl e1 e2 k1 k2 m1 m2 hgA hgB hend hon hg4 d0
    go_wp2
    go_upto_region 15 with fail
    refine wp_region_held_drew (S := (fun w' => w'.cell? ⟨B + 1, 0, none⟩ = some (.slice (some ⟨gl, 0, none⟩) F F) ∧ w'.cell? ⟨B + 2, 0, none⟩ = some (.slice (some ⟨g4, 0, none⟩) k cap4))) (by kernel_rfl) ?_ (fun hHeld0 => ?_)
    · ((try dsimp only); first | exact HA.out | exact HA1.out | exact HA2.out)
    refine wpAnyH_take (i := 0) (v := ?_) rfl (by kernel_rfl) (by kernel_rfl) (by kernel_rfl) (fun _ _ _ h => h) (Or.inl ⟨by rfl, ?_⟩) (by assumption) ?_
    rotate_left
    · (intro w hSw; (try dsimp only at hSw); go_simp; try with_reducible rfl)
    try simp only [List.getElem_toArray, List.getElem_cons_succ, List.getElem_cons_zero, Act.put, List.setIfInBounds_toArray, List.set_cons_zero, List.set_cons_succ]
    refine wpAnyH_take (i := 1) (v := ?_) rfl (by kernel_rfl) (by kernel_rfl) (by kernel_rfl) (fun _ _ _ h => h) (Or.inl ⟨by rfl, ?_⟩) (by assumption) ?_
    rotate_left
    · (intro w hSw; (try dsimp only at hSw); go_simp; try with_reducible rfl)
    try simp only [List.getElem_toArray, List.getElem_cons_succ, List.getElem_cons_zero, Act.put, List.setIfInBounds_toArray, List.set_cons_zero, List.set_cons_succ]
    refine wpAnyH_ready (rs := [2]) (by kernel_rfl) (by simp) ?_
    refine AllReadyH.cons rfl (fun K hK => ?_) AllReadyH.nil
    go_simp
    refine hK.out _ _ ?_ (fun hHeld1 => ?_)
    · ((try dsimp only); first | exact HA.out | exact HA1.out | exact HA2.out)
    clear hK K hHeld0
    refine wpAnyH_ready (rs := [3]) (by kernel_rfl) (by simp) ?_
    refine AllReadyH.cons rfl (fun K hK => ?_) AllReadyH.nil
    go_simp
    refine hK.out _ _ ?_ (fun hHeld2 => ?_)
    · ((try dsimp only); first | exact HA.out | exact HA1.out | exact HA2.out)
    clear hK K hHeld1
    refine wpAnyH_done (by kernel_rfl) ?_ _
    clear hHeld2
    go_wp2
    refine bodyPost_ret (v := .tuple #[.slice (some ⟨gl, 0, none⟩) F F, .slice (some ⟨g4, 0, none⟩) k cap4]) (by simp [results, Tryz.results43, go_sem, o1, o2]) rfl ⟨gl, _, cap4, ?_, HFIN.out.1, HFIN.out.2.1, HFIN.out.2.2.1⟩
    rw [HFIN.out.2.2.2]
  case pos =>
  have hmem : (bfsB T f k).o.getD k 0 ∈ (bfsB T f k).o := getD_mem18 (by rw [← hon]; exact hlt)
  have hgt : (bfsB T f k).o[k]? = some ((bfsB T f k).o.getD k 0) := by
    rw [List.getD_eq_getElem?_getD, List.getElem?_eq_getElem (by rw [← hon]; exact hlt)]
    rfl
  have hnf : (bfsB T f k).o.getD k 0 ≠ f / 3 := by
    intro e
    have h0' : 0 < (bfsB T f k).o.length := by rw [← hon]; omega
    have h0 := hI.hd
    rw [List.getElem?_eq_getElem h0'] at h0
    have hk' : k < (bfsB T f k).o.length := by rw [← hon]; exact hlt
    rw [List.getElem?_eq_getElem hk'] at hgt
    have := nodup_get18 hI.nd hk' h0' (by rw [Option.some.inj hgt, e]; exact (Option.some.inj h0).symm)
    omega
  obtain ⟨q, hq, hq3, hqt, -⟩ := hI.lk _ hmem hnf
  have hstep := bfs_next T f (by rw [← hon]; exact hlt) hk1 hq
  obtain ⟨t, ht⟩ : ∃ t, t = (bfsB T f k).o.getD k 0 := ⟨_, rfl⟩
  rw [← ht] at hmem hgt hq hqt
  have htF : t < F := by rw [HF.out]; exact hI.lt _ hmem
  have hqF : q < 3 * F := by rw [HF.out]; exact hq3
  have cc := hcl k _ (nv_get hgt)
  have cq := hr.l.cell (i := t) (v := .int .i64 ((bfsB T f k).l t)) (iv_get _ htF)
  rw [hq] at cq
  have bk' : (0 : Int) ≤ (k : Int) ∧ (k : Int) < (on : Int) := by omega
  have bt' : (0 : Int) ≤ (t : Int) ∧ (t : Int) < (F : Int) := by omega
  have HQF := Lib.hid hqF
  have HRN := Lib.hid (show ∀ n, RchB w (X.drewN n) B p N T F gl gi bi (bi + 1) (.slice (some ⟨g4, 0, none⟩) (bfsB T f k).o.length cap4) (bfsB T f k) from fun n => hr.more (below_drewN (Below.refl _ _) n))
  have HST := Lib.hid hstep
  have hm1 : nxn q / 3 ∈ (bfsB T f k).o := by rw [nxn_div, hqt]; exact hmem
  have hI1 := HIO.out _ (nxn q) hI (nxn_lt hqF) hm1
  have HL0 := Lib.hid (show (bfsB T f k).o.length ≤ F from HIL.out _ hI)
  have HL1 := Lib.hid (show (overB T (bfsB T f k) (nxn q)).o.length ≤ F from HIL.out _ hI1)
  have HNQ := Lib.hid (show nxn q < 3 * F ∧ pvn q < 3 * F from ⟨nxn_lt hqF, pvn_lt hqF⟩)
  have HLE := Lib.hid (show on ≤ (bfsB T f (k + 1)).o.length from by rw [hon]; exact (bfs_ext T f (Nat.le_succ k)).o.length_le)
  have HKO := Lib.hid hlt
  have d0N : ∀ n, (X.drewN n).cell? ⟨B, 0, none⟩ = some (.pointer (some ⟨p, 0, none⟩)) := fun n => (HRN.out n).tb.cell (i := 0) rfl
  clear hr hI hcl hmem hgt hnf hq hq3 hqt hstep ht hm1 hI1 hon hg4
  go_wp2
  go_quiet (fail)
  go_wp2_with fail
  refine (HNX.out _ q (HTB.out _ _ _ (HRN.out _)) HQF.out).mono ?_
  rintro e wN ⟨rfl, hwN⟩
  subst hwN
  go_wp2_with fail
  refine (HOV.out _ _ _ (nxn q) (HRN.out _) HL0.out HNQ.out.1).mono ?_
  rintro e w7 ⟨rfl, vo7, h7⟩
  have HR7 := Lib.hid h7
  have HT7 := Lib.hid (HTB.out _ _ _ h7)
  have c7 := h7.tb.cell (i := 0) rfl
  clear h7
  go_wp2_with fail
  refine (HPV.out w7 q HT7.out HQF.out).mono ?_
  rintro e w' ⟨rfl, rfl⟩
  go_wp2_with fail
  refine (HOV.out w7 _ _ (pvn q) HR7.out HL1.out HNQ.out.2).mono ?_
  rintro e w8 ⟨rfl, vo8, h8⟩
  rw [← HST.out] at h8
  have HR8 := Lib.hid h8
  clear h8 c7
  go_wp2
  go_roundw
  case rel => exact ⟨k + 1, vo8, by omega, by have := HLE.out; have := HKO.out; omega, by go_num, HR8.out⟩
  case measure => simp [intOf]; have := HKO.out; omega
set_option maxHeartbeats 1000000 in
theorem has_out (c : Int) (w : World) (b : Nat) (ao : Option Addr) (len cap : Nat) (hl : len ≤ 10000) (h1 : w.cell? ⟨b, 1, none⟩ = some (.slice ao len cap)) (hc : c < 0 ∨ 3 * (len : Int) ≤ c) :
    Calls Tryz.prog 63 #[.pointer (some ⟨b, 0, none⟩), .int .i64 c] w fun e w' => e = .returned (.bool false) ∧ w = w' := by
  by_cases h0 : c < 0
  · have g1 : decide (c ≥ 0) = false := by simpa using h0
    go_enter Tryz.func63, Tryz.ntmps63
    go_wp2
    go_ret
    exact ⟨rfl, rfl⟩
  · have g1 : decide (c ≥ 0) = true := by simpa using h0
    have g2 : decide (c < 3 * (len : Int)) = false := by simp; omega
    have hw : IntKind.i64.wrap (3 * (len : Int)) = 3 * (len : Int) := IntWalk.i64_in _ (by omega)
    go_enter Tryz.func63, Tryz.ntmps63
    go_wp2
    go_ret
    exact ⟨by simp, rfl⟩
set_option maxHeartbeats 1000000 in
theorem has_nil (c : Int) (w : World) :
    Calls Tryz.prog 63 #[.pointer none, .int .i64 c] w fun e w' => e = .returned (.bool false) ∧ w = w' := by
  go_enter Tryz.func63, Tryz.ntmps63
  go_wp2
  go_ret
  exact ⟨rfl, rfl⟩
set_option maxHeartbeats 1000000 in
theorem vertex_out (c : Int) (w : World) (p : Nat) (N : Int) (T : List Tr) (h : Tab w p N T) (hc : c < 0 ∨ 3 * (T.length : Int) ≤ c) :
    Calls Tryz.prog 42 #[.pointer (some ⟨p, 0, none⟩), .int .i64 c] w fun e w' => e = .returned (.int .i64 (-1)) ∧ w = w' := by
  obtain ⟨ao, cap, h0, h1, h2, h3⟩ := h.s
  have HH := Lib.hid (has_out c w p ao T.length cap h.len h1 hc)
  clear h h0 h1 h2 h3 hc
  go_enter Tryz.func42, Tryz.ntmps42
  go_wp2_with (go_at_call 63; refine HH.out.mono ?_; rintro e w' ⟨rfl, rfl⟩)
  go_ret
  exact ⟨rfl, rfl⟩
set_option maxHeartbeats 1000000 in
theorem vertex_nil (c : Int) (w : World) :
    Calls Tryz.prog 42 #[.pointer none, .int .i64 c] w fun e w' => e = .returned (.int .i64 (-1)) ∧ w = w' := by
  have HH := Lib.hid (has_nil c w)
  go_enter Tryz.func42, Tryz.ntmps42
  go_wp2_with (go_at_call 63; refine HH.out.mono ?_; rintro e w' ⟨rfl, rfl⟩)
  go_ret
  exact ⟨rfl, rfl⟩
set_option maxRecDepth 100000 in
set_option maxHeartbeats 1000000 in
theorem dual_out (pv : Option Addr) (c : Int) (w : World) (h : Calls Tryz.prog 42 #[.pointer pv, .int .i64 c] w fun e w' => e = .returned (.int .i64 (-1)) ∧ w = w') :
    Calls Tryz.prog 15 #[.pointer pv, .int .i64 c] w fun e w' => e = .returned (.slice none 0 0) ∧ w = w' := by
  have HH := Lib.hid h
  clear h
  go_enter Tryz.func15, Tryz.ntmps15
  go_wp2_with (go_at_call 42; refine HH.out.mono ?_; rintro e w' ⟨rfl, rfl⟩)
  go_ret
  exact ⟨rfl, rfl⟩
set_option maxRecDepth 100000 in
set_option maxHeartbeats 1000000 in
theorem rest_out (pv : Option Addr) (c : Int) (w : World) (h : Calls Tryz.prog 42 #[.pointer pv, .int .i64 c] w fun e w' => e = .returned (.int .i64 (-1)) ∧ w = w') :
    Calls Tryz.prog 17 #[.pointer pv, .int .i64 c] w fun e w' => e = .returned (.slice none 0 0) ∧ w = w' := by
  have HH := Lib.hid h
  clear h
  go_enter Tryz.func17, Tryz.ntmps17
  go_wp2_with (go_at_call 42; refine HH.out.mono ?_; rintro e w' ⟨rfl, rfl⟩)
  go_ret
  exact ⟨rfl, rfl⟩
set_option maxRecDepth 100000 in
set_option maxHeartbeats 1000000 in
theorem dual_ok (p : Nat) (N : Int) (T : List Tr) (f : Nat) (w : World) (h : Tab w p N T) (hs : Surf N T) (hf : f < 3 * T.length) :
    Calls Tryz.prog 15 #[.pointer (some ⟨p, 0, none⟩), .int .i64 f] w fun e w' => ∃ gl, e = .returned (.slice (some ⟨gl, 0, none⟩) T.length T.length) ∧ RowIs w' gl 3 (iv (bfs T f).l T.length) ∧ Below w.heap.size w w' := by
  have HR := Lib.hid (reach_ok p N T f w h hs hf)
  have hv := h.vin.vt (c := (f : Int)) (by omega) (by omega)
  have HV := Lib.hid (vertex_any (f : Int) w p N T h.len h.s (by omega) (by omega))
  obtain ⟨v, hvv⟩ : ∃ v, v = vt T (f : Int) := ⟨_, rfl⟩
  rw [← hvv] at hv HV
  have g0 : decide (v < 0) = false := by simpa using hv.1
  clear h hs hf hv hvv
  go_enter Tryz.func15, Tryz.ntmps15
  go_wp2_with fail
  refine HV.out.mono ?_
  rintro e w' ⟨rfl, rfl⟩
  go_wp2_with fail
  refine HR.out.mono ?_
  rintro e w2 ⟨gl, ao, cap, rfl, hr, ho, hb⟩
  have HF := Lib.hid (show RowIs w2 gl 3 (iv (bfs T f).l T.length) ∧ Below w.heap.size w w2 from ⟨hr, hb⟩)
  clear hr ho hb
  go_wp2
  exact bodyPost_ret (v := .slice (some ⟨gl, 0, none⟩) T.length T.length) (by simp [results, Tryz.results15, go_sem]) rfl ⟨gl, rfl, HF.out.1, HF.out.2⟩
end Go.Proofs.YtkjamheoihlekaaGreat

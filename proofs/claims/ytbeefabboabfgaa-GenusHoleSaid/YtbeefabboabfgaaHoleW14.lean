/- gypsumlaw14.GenusHole: the walk. -/
import Derived.Test.YtbeefabboabfgaaSolid14
import Derived.Test.YtbeefabboabfgaaTabSoup
import Derived.Test.YtbeefabboabfgaaHoleLaw
import Derived.Test.YtbeefabboabfgaaAppAny
import Derived.Test.YtbeefabboabfgaaGenusOf
import Derived.BigQuiet
import Derived.Deep.RegionHeldLaw
import Derived.Deep.RegionHeld3
namespace Go.Proofs.Ytbeefabboabfgaa
set_option linter.unusedVariables false
set_option linter.unusedSimpArgs false
open Go.RowKit
/-- A surface in a box of its own. -/
def LessAt (n : Nat) (U : List Tr) (w : World) (s : Value) (wc : World) : Prop := ∃ gb ao c, s = .pointer (some ⟨gb, 0, none⟩) ∧ RowIs wc gb 24 [.int .i64 (n : Int), .slice ao U.length c] ∧ TrisAt wc ao U ∧ Below w.heap.size w wc
theorem less_tris {w5 : World} {base : Nat} {a3 : Option Addr} {c3 m : Nat} {U A B : List Tr} (h : w5.ownsRow base 38 3 (.slice a3 m c3) m (tcells A ++ tcells B)) (hU : U = A ++ B) (hm : m = U.length) : TrisAt w5 a3 U := by
  rw [← tcells_append, ← hU, hm] at h
  obtain ⟨ao, c, e, hT⟩ := owns_tris h
  simp only [Value.slice.injEq, true_and] at e
  rw [e.1]
  exact hT
theorem less_alloc {n : Nat} {w3 w5 : World} {base : Nat} {a3 : Option Addr} {c3 m : Nat} {U A B : List Tr} (h : w5.ownsRow base 38 3 (.slice a3 m c3) m (tcells A ++ tcells B)) (hU : U = A ++ B) (hm : m = U.length) (hb : Below w3.heap.size w3 w5) :
    LessAt n U w3 (.pointer (some ⟨w5.heap.size, 0, none⟩)) (w5.alloc (.cells #[.int .i64 (n : Int), .slice a3 m c3] 24)) := by
  have ht := less_tris h hU hm
  subst hm
  exact ⟨_, a3, c3, rfl, RowIs.made w5 24 [.int .i64 (n : Int), .slice a3 U.length c3], ht.mono (Nat.le_refl _) ((Below.refl _ _).alloc (Nat.le_refl _) _), below_alloc hb _⟩
theorem less_set {n : Nat} {w3 w5 : World} {base gb : Nat} {a3 : Option Addr} {c3 m : Nat} {U A B : List Tr} {x y : Value} (h : w5.ownsRow base 38 3 (.slice a3 m c3) m (tcells A ++ tcells B)) (hU : U = A ++ B) (hm : m = U.length) (hb : Below w3.heap.size w3 w5) (hr : RowIs w5 gb 24 [x, y]) (hg : w3.heap.size ≤ gb) :
    LessAt n U w3 (.pointer (some ⟨gb, 0, none⟩)) ((w5.setCell ⟨gb, 0, none⟩ (.int .i64 (n : Int))).setCell ⟨gb, 1, none⟩ (.slice a3 m c3)) := by
  have hne : (Value.slice a3 m c3).ownBlock ≠ some gb := by
    intro e2
    rcases h.2 with ⟨q, -⟩ | ⟨g1, cap1, cur1, q, -, hg1, -⟩
    · rw [q] at e2; cases e2
    rw [q] at e2
    simp only [Value.ownBlock, Option.some.injEq] at e2
    subst e2
    unfold RowIs at hr
    rw [hr] at hg1
    simp only [Option.some.injEq, Obj.cells.injEq] at hg1
    exact absurd hg1.2.1 (by decide)
  have h2 := ownsRow_setCell_other (ownsRow_setCell_other h (a := ⟨gb, 0, none⟩) hne (.int .i64 (n : Int))) (a := ⟨gb, 1, none⟩) hne (.slice a3 m c3)
  have ht := less_tris h2 hU hm
  subst hm
  exact ⟨gb, a3, c3, rfl, (hr.set 0 (.int .i64 (n : Int))).set 1 (.slice a3 U.length c3), ht, (hb.setCell (p := ⟨gb, 0, none⟩) hg _).setCell (p := ⟨gb, 1, none⟩) hg _⟩
theorem sum_one (Φ : Nat → Int) (j : Nat) (hj : j < 6) : sumF Φ 1 j = Φ (0 * 6 + j) := by simp [sumF]
set_option maxRecDepth 100000 in
set_option maxHeartbeats 8000000 in
theorem holeW14 (N : Int) (ao : Option Addr) (cap : Nat) (T : List Tr) (x y : Int) (w : World) (hT : TrisAt w ao T) (hcap : T.length ≤ cap) (hm : T.length ≤ 9223372036854775807) (hx : 0 ≤ x ∧ x < 256) (hy : 0 ≤ y ∧ y < 256) :
    Calls Try.prog 3 #[.agg #[.int .i64 N, .slice ao T.length cap], .int .u8 x, .int .u8 y] w fun e w' => e = .returned (.bool true) ∧ Below w.heap.size w w' := by
  obtain ⟨i4, hi4, hx0, hx1, hx2⟩ := info_parts infoTriH
  obtain ⟨W0, hW0⟩ : ∃ W0, W0 = w.alloc (.cells #[.int .i64 N, .slice ao T.length cap] 24) := ⟨_, rfl⟩
  have hb0 : Below w.heap.size w W0 := by rw [hW0]; exact (Below.refl _ _).alloc (Nat.le_refl _) _
  have hr0 : RowIs W0 w.heap.size 24 [.int .i64 N, .slice ao T.length cap] := by rw [hW0]; exact RowIs.made w 24 [.int .i64 N, .slice ao T.length cap]
  have HT := Lib.hid (hT.mono (Nat.le_refl _) hb0)
  have HM := Lib.hid hm
  have HLD := Lib.hid (fun (X : World) (h : TrisAt X ao T) => laid_any N ao cap T X h hm)
  obtain ⟨xb, hxb⟩ : ∃ x, x = w.heap.size := ⟨_, rfl⟩
  rw [← hxb] at hr0
  obtain ⟨len, hlen⟩ : ∃ l, l = T.length := ⟨_, rfl⟩
  simp only [← hlen] at hr0 hW0 HLD hcap ⊢
  have HLN := Lib.hid hlen
  have HXB := Lib.hid hxb
  have HR := Lib.hid hr0
  have HB0 := Lib.hid hb0
  have HW0 := Lib.hid hW0
  clear hb0 hr0 hW0 hT hm hxb hlen
  go_enter Try.func3, Try.ntmps3
  go_upto_region 1 with fail
  simp only [← HXB.out]
  rw [← HW0.out]
  go_wp2_with fail
  refine (awake14 _).mono ?_
  rintro e w1 ⟨rfl, hb1⟩
  have HB1 := Lib.hid hb1
  have hr1 := HR.out.after hb1
  have x0 := hr1.cell (i := 0) rfl
  have x1 := hr1.cell (i := 1) rfl
  clear hb1 hr1
  go_wp2_with fail
  refine (HLD.out w1 (HT.out.mono (Nat.le_refl _) HB1.out)).mono ?_
  intro e w2 hpost
  clear x0 x1
  rcases hpost with ⟨n, p, rfl, rfl, hp, htab, hfst, hs, hl40, hn60, hb2⟩ | ⟨rfl, -, hb2⟩
  case inr =>
    have HF := Lib.hid (below_more HB0.out (below_more HB1.out hb2 HB1.out.size) HB0.out.size)
    clear hb2
    go_wp2
    exact bodyPost_ret (v := .bool true) (by simp [results, Try.results3, go_sem]) rfl ⟨rfl, HF.out⟩
  case inl =>
  have HB2 := Lib.hid (below_more HB1.out hb2 HB1.out.size)
  have hr2 := HR.out.after HB2.out
  have x0 := hr2.cell (i := 0) rfl
  have x1 := hr2.cell (i := 1) rfl
  have hl40' : len ≤ 40 := by rw [HLN.out]; exact hl40
  by_cases hz : len = 0
  case pos =>
    subst hz
    have HF := Lib.hid (below_more HB0.out HB2.out HB0.out.size)
    clear hb2 htab hfst hs hr2
    go_wp2
    exact bodyPost_ret (v := .bool true) (by simp [results, Try.results3, go_sem]) rfl ⟨rfl, HF.out⟩
  case neg =>
  obtain ⟨L, hL⟩ := shells_exist (Adj T) T.length
  obtain ⟨m, hm⟩ := Int.eq_ofNat_of_zero_le (cnt_nonneg L T.length)
  have hmn : m ≤ 40 := by have := hL.cnt_le; omega
  have HG := Lib.hid (genus_of p n m T L w2 htab hfst hs hL hm.symm)
  have HS := Lib.hid hs
  have HL := Lib.hid hL
  have HCM := Lib.hid hm
  have hz0 : ((len : Int) == 0) = false := by simp; omega
  clear hb2 htab hfst hs hr2 hp hl40 hL hm
  go_wp2_with fail
  refine HG.out.mono ?_
  rintro e w3 ⟨go, rfl, hgo, hro, hb3⟩
  have HB3 := Lib.hid (below_more HB2.out hb3 HB2.out.size)
  have HRO := Lib.hid hro
  have hr3 := HR.out.after HB3.out
  clear x0 x1
  have x0 := hr3.cell (i := 0) rfl
  have x1 := hr3.cell (i := 1) rfl
  obtain ⟨a, ha⟩ : ∃ a : Nat, x % (len : Int) = (a : Int) := ⟨(x % (len : Int)).toNat, by have := Int.emod_nonneg x (b := (len : Int)) (by omega); omega⟩
  have hal : a < len := by have := Int.emod_lt_of_pos x (b := (len : Int)) (by omega); omega
  have ha2 : x.tmod (len : Int) = (a : Int) := by rw [Int.tmod_eq_emod_of_nonneg hx.1]; exact ha
  obtain ⟨b, hb⟩ : ∃ b : Nat, y % (len : Int) = (b : Int) := ⟨(y % (len : Int)).toNat, by have := Int.emod_nonneg y (b := (len : Int)) (by omega); omega⟩
  have hbl : b < len := by have := Int.emod_lt_of_pos y (b := (len : Int)) (by omega); omega
  have hb2 : y.tmod (len : Int) = (b : Int) := by rw [Int.tmod_eq_emod_of_nonneg hy.1]; exact hb
  clear hro hb3 hgo hr3 HG
  have hTne : T ≠ [] := by intro e; apply hz; rw [HLN.out, e]; rfl
  obtain ⟨b0, off, rfl, hb0l, -⟩ := HT.out hTne
  have HK := Lib.hid (show ∀ X, Below w3.heap.size w3 X → X.cell? ⟨xb, 0, none⟩ = some (.int .i64 (n : Int)) ∧ X.cell? ⟨xb, 1, none⟩ = some (.slice (some ⟨b0, off, none⟩) len cap) from fun X h => by
    have := (HR.out.after HB3.out).after h
    exact ⟨this.cell (i := 0) rfl, this.cell (i := 1) rfl⟩)
  have HTX := Lib.hid (show ∀ X, Below w3.heap.size w3 X → TrisAt X (some ⟨b0, off, none⟩) T from fun X h => (HT.out.mono (Nat.le_refl _) HB3.out).mono (Nat.le_refl _) h)
  have HC1 := Lib.hid (show ∀ X, Below w3.heap.size w3 X → ∀ j u, (tcells (T.take a))[j]? = some u → X.cell? ((⟨b0, off, none⟩ : Addr).add j) = some u from fun X h j u hj => by rw [Addr.add_lit]; exact (HTX.out X h).cells j u (take_cells hj))
  have HL1 := Lib.hid (show (tcells (T.take a)).length = a * 3 from by rw [tcells_length, List.length_take]; congr 1; have := HLN.out; omega)
  have n1 : a + 1 ≤ len := by omega
  have i1 : (a : Int) + 1 ≤ (len : Int) := by omega
  have i0 : (0 : Int) ≤ (a : Int) + 1 := by omega
  have n2 : a ≤ cap := by omega
  have i2 : (a : Int) ≤ (cap : Int) := by omega
  have i3 : (0 : Int) ≤ (a : Int) := by omega
  have i5 : ((a : Int) + 1).toNat = a + 1 := by omega
  have hBIG : a ≤ 40 ∧ len ≤ 40 := by omega
  have hwr : IntKind.i64.wrap ((a : Int) + 1) = (a : Int) + 1 := by simp [IntKind.wrap, IntKind.bits, IntKind.signed]; omega
  obtain ⟨l2, hl2⟩ : ∃ l2, l2 = len - (a + 1) := ⟨_, rfl⟩
  have sl : len - (a + 1) = l2 := hl2.symm
  have HLD2 := Lib.hid (show (tcells (T.drop (a + 1))).length = l2 * 3 from by rw [tcells_length, List.length_drop]; congr 1; have := HLN.out; omega)
  have HLL := Lib.hid (show len = T.length ∧ a + 1 + l2 = len from ⟨HLN.out, by omega⟩)
  have HC2 := Lib.hid (show ∀ X, Below w3.heap.size w3 X → ∀ j u, (tcells (T.drop (a + 1)))[j]? = some u → X.cell? ((⟨b0, off + (a + 1) * 3, none⟩ : Addr).add j) = some u from fun X h j u hj => by
    rw [Addr.add_lit, Nat.add_assoc]
    exact (HTX.out X h).cells _ u (drop_cells hj (by have := HLN.out; omega)))
  obtain ⟨AD, hAD⟩ : ∃ AD : Addr, AD = if cap = a + 1 then ⟨b0, off, none⟩ else ⟨b0, off + (a + 1) * 3, none⟩ := ⟨_, rfl⟩
  have hif : (if cap = a + 1 then some (⟨b0, off, none⟩ : Addr) else some ⟨b0, off + (a + 1) * 3, none⟩) = some AD := by rw [hAD]; split <;> rfl
  have HCA := Lib.hid (show ∀ X, Below w3.heap.size w3 X → ∀ j u, (tcells (T.drop (a + 1)))[j]? = some u → X.cell? (AD.add j) = some u from fun X h j u hj => by
    rw [hAD]
    by_cases e : cap = a + 1
    · have h1 := (List.getElem?_eq_some_iff.1 hj).1
      rw [HLD2.out] at h1
      omega
    · rw [if_neg e]
      exact HC2.out X h j u hj)
  clear hAD
  clear hb0l hl2
  go_upto_region 8 with fail
  clear x0 x1
  have HUL := Lib.hid (show a + l2 = (T.take a ++ T.drop (a + 1)).length from by rw [List.length_append, List.length_take, List.length_drop]; have := HLL.out; omega)
  go_cut [10, 47, 52, 58, 59] (fun s _ _ _ _ wc => LessAt n (T.take a ++ T.drop (a + 1)) w3 s wc)
  case first =>
    go_region_held_law (fun w' => w'.cell? ⟨xb, 0, none⟩ = some (.int .i64 (n : Int)) ∧ w'.cell? ⟨xb, 1, none⟩ = some (.slice (some ⟨b0, off, none⟩) len cap))
      (exact HK.out _ (by repeat (first | assumption | (with_reducible refine Below.setCell (p := ⟨_, _, none⟩) ?_ (by first | exact Nat.le_refl _ | exact hb4.size | simp) _) | with_reducible exact Below.refl _ _ | with_reducible apply below_drew | with_reducible apply below_alloc)))
      (first
        | (refine step_append_first (by rfl) _ _ _ (by rfl) w3.heap.size 38 i4 _ 3 24 (by kernel_rfl) hi4 hx0 hx1 hx2 rfl (by decide) _ (by rfl) (World.ownsRow.drew (RowIs.owns (size := 3) (n := 0) (base := w3.heap.size) (RowIs.made' (w3.alloc (.cells #[.int .i64 0, .slice none 0 0] 24)) 38 [] (w3.heap.size + 1) (by simp)) (by omega) (by simp) (by unfold maxLen; omega))) ⟨b0, off, none⟩ a _ (tcells (T.take a)) (by rfl) HL1.out (HC1.out _ (by repeat (first | assumption | with_reducible exact Below.refl _ _ | with_reducible apply below_drew | with_reducible apply below_alloc))) (tcells_one _) (by unfold maxLen; omega) (by omega) (by first | exact Nat.le_refl _ | (simp; done) | (simp; omega)) ?_; intro a1 c1 w4 hown4 hbel4 hgr4; have hb4 := hbel4 w3.heap.size w3 (Nat.le_refl _) (by repeat (first | assumption | with_reducible exact Below.refl _ _ | with_reducible apply below_drew | with_reducible apply below_alloc)); have hrow4 := box_kept hgr4 (World.ownsRow.drew (RowIs.owns (size := 3) (n := 0) (base := w3.heap.size) (RowIs.made' (w3.alloc (.cells #[.int .i64 0, .slice none 0 0] 24)) 38 [] (w3.heap.size + 1) (by simp)) (by omega) (by simp) (by unfold maxLen; omega))) (((RowIs.made w3 24 [.int .i64 0, .slice none 0 0]).alloc (.cells #[] 38)).drew1) (by decide))
        | (refine step_append_first (by rfl) _ _ _ (by rfl) w3.heap.size 38 i4 _ 3 24 (by kernel_rfl) hi4 hx0 hx1 hx2 rfl (by decide) _ (by rfl) (World.ownsRow.drew (World.ownsRow.alloc (RowIs.owns (size := 3) (n := 0) (base := w3.heap.size) (RowIs.made w3 38 []) (Nat.le_refl _) (by simp) (by unfold maxLen; omega)) (.cells #[.int .i64 0, .slice none 0 0] 24))) ⟨b0, off, none⟩ a _ (tcells (T.take a)) (by rfl) HL1.out (HC1.out _ (by repeat (first | assumption | with_reducible exact Below.refl _ _ | with_reducible apply below_drew | with_reducible apply below_alloc))) (tcells_one _) (by unfold maxLen; omega) (by omega) (by first | exact Nat.le_refl _ | (simp; done) | (simp; omega)) ?_; intro a1 c1 w4 hown4 hbel4 hgr4; have hb4 := hbel4 w3.heap.size w3 (Nat.le_refl _) (by repeat (first | assumption | with_reducible exact Below.refl _ _ | with_reducible apply below_drew | with_reducible apply below_alloc)); have hrow4 := box_kept hgr4 (World.ownsRow.drew (World.ownsRow.alloc (RowIs.owns (size := 3) (n := 0) (base := w3.heap.size) (RowIs.made w3 38 []) (Nat.le_refl _) (by simp) (by unfold maxLen; omega)) (.cells #[.int .i64 0, .slice none 0 0] 24))) ((RowIs.made' (w3.alloc (.cells #[] 38)) 24 [.int .i64 0, .slice none 0 0] (w3.heap.size + 1) (by simp)).drew1) (by decide))
        | (refine step_append_first (by rfl) _ _ _ (by rfl) w3.heap.size 38 i4 _ 3 24 (by kernel_rfl) hi4 hx0 hx1 hx2 rfl (by decide) _ (by rfl) (World.ownsRow.drew (RowIs.owns (size := 3) (n := 0) (base := w3.heap.size) (RowIs.made w3 38 []) (Nat.le_refl _) (by simp) (by unfold maxLen; omega))) ⟨b0, off, none⟩ a _ (tcells (T.take a)) (by rfl) HL1.out (HC1.out _ (by repeat (first | assumption | with_reducible exact Below.refl _ _ | with_reducible apply below_drew | with_reducible apply below_alloc))) (tcells_one _) (by unfold maxLen; omega) (by omega) (by first | exact Nat.le_refl _ | (simp; done) | (simp; omega)) ?_; intro a1 c1 w4 hown4 hbel4 hgr4; have hb4 := hbel4 w3.heap.size w3 (Nat.le_refl _) (by repeat (first | assumption | with_reducible exact Below.refl _ _ | with_reducible apply below_drew | with_reducible apply below_alloc)); skip)
        | (refine step_append_any (by rfl) _ _ _ (by rfl) w3.heap.size 38 i4 _ 3 24 (by kernel_rfl) hi4 hx0 hx1 hx2 rfl (by decide) _ _ _ (by rfl) hown4 AD l2 _ (tcells (T.drop (a + 1))) (by rfl) HLD2.out (HCA.out _ (by repeat (first | assumption | with_reducible exact Below.refl _ _ | with_reducible apply below_drew | with_reducible apply below_alloc))) (tcells_one _) (by unfold maxLen; omega) (by omega) hb4.size ?_; intro a3 c3 w5 hown5 hbel5 hgr5; have hb5 := hbel5 w3.heap.size w3 (Nat.le_refl _) (by repeat (first | assumption | with_reducible exact Below.refl _ _ | with_reducible apply below_drew | with_reducible apply below_alloc)); have hrow5 := box_kept hgr5 hown4 hrow4 (by decide); have k0 := hrow5.cell (i := 0) rfl; have k1 := hrow5.cell (i := 1) rfl; have kf := fun i => hrow5.free i)
        | (refine step_append_any (by rfl) _ _ _ (by rfl) w3.heap.size 38 i4 _ 3 24 (by kernel_rfl) hi4 hx0 hx1 hx2 rfl (by decide) _ _ _ (by rfl) hown4 AD l2 _ (tcells (T.drop (a + 1))) (by rfl) HLD2.out (HCA.out _ (by repeat (first | assumption | with_reducible exact Below.refl _ _ | with_reducible apply below_drew | with_reducible apply below_alloc))) (tcells_one _) (by unfold maxLen; omega) (by omega) hb4.size ?_; intro a3 c3 w5 hown5 hbel5 hgr5; have hb5 := hbel5 w3.heap.size w3 (Nat.le_refl _) (by repeat (first | assumption | with_reducible exact Below.refl _ _ | with_reducible apply below_drew | with_reducible apply below_alloc)); skip)
        | (refine step_append_any (by rfl) _ _ _ (by rfl) w3.heap.size 38 i4 _ 3 24 (by kernel_rfl) hi4 hx0 hx1 hx2 rfl (by decide) _ _ _ (by rfl) (hown4.alloc _) AD l2 _ (tcells (T.drop (a + 1))) (by rfl) HLD2.out (HCA.out _ (by repeat (first | assumption | with_reducible exact Below.refl _ _ | with_reducible apply below_drew | with_reducible apply below_alloc))) (tcells_one _) (by unfold maxLen; omega) (by omega) (below_alloc hb4 _).size ?_; intro a3 c3 w5 hown5 hbel5 hgr5; have hb5 := hbel5 w3.heap.size w3 (Nat.le_refl _) (by repeat (first | assumption | with_reducible exact Below.refl _ _ | with_reducible apply below_drew | with_reducible apply below_alloc)); have hrow5 := box_kept hgr5 (hown4.alloc _) (RowIs.made _ 24 [.int .i64 0, .slice none 0 0]) (by decide); have k0 := hrow5.cell (i := 0) rfl; have k1 := hrow5.cell (i := 1) rfl; have kf := fun i => hrow5.free i))
    all_goals
      go_wp2
      go_meet
      first
      | exact less_alloc hown5 rfl HUL.out hb5
      | exact less_set hown5 rfl HUL.out hb5 hrow5 (by first | exact hb4.size | exact Nat.le_refl _ | simp)
  case rest =>
  obtain ⟨gb, ao1, cu1, rfl, hrow8, ht8, hb8⟩ := hcut
  obtain ⟨U, hU⟩ : ∃ U, U = T.take a ++ T.drop (a + 1) := ⟨_, rfl⟩
  rw [← hU] at hrow8 ht8 HUL
  have HUS := Lib.hid (show U = subT T (butI T.length a) from by rw [hU]; exact (butI_sub T a (by rw [← HLN.out]; exact hal)).symm)
  have HUL8 := Lib.hid (show U.length ≤ 8192 from by rw [← HUL.out]; have := HLL.out; omega)
  have HB8 := Lib.hid (below_more HB3.out hb8 HB3.out.size)
  have HRO8 := Lib.hid (HRO.out.after hb8)
  have HT8 := Lib.hid ht8
  have k0 := hrow8.cell (i := 0) rfl
  have k1 := hrow8.cell (i := 1) rfl
  clear hU hrow8 ht8 hb8 HC1 HC2 HCA HLD2 HUL
  by_cases hsU : Surf n U
  case neg =>
    have HN := Lib.hid (new_none n ao1 cu1 U wc HT8.out HUL8.out hsU)
    clear hsU
    go_wp2_with fail
    refine HN.out.mono ?_
    rintro e w9 ⟨kk, aa, bb, rfl, -, -, hb9⟩
    have HF := Lib.hid (below_alloc (below_more HB0.out (below_more HB8.out hb9 HB8.out.size) HB0.out.size) (.cells #[.int .i64 kk, .int .i64 aa, .int .i64 bb] 31))
    clear k0 k1 hb9 HN
    go_wp2
    exact bodyPost_ret (v := .bool true) (by simp [results, Try.results3, go_sem]) rfl ⟨rfl, HF.out⟩
  case pos =>
  have HSU := Lib.hid hsU
  have HN := Lib.hid (new_first n ao1 cu1 U wc HT8.out hsU)
  clear hsU
  go_wp2_with fail
  refine HN.out.mono ?_
  rintro e w9 ⟨p1, rfl, hp1, ⟨htab1, hfst1⟩, hb9⟩
  obtain ⟨W9, hW9⟩ : ∃ W9, W9 = w9.alloc (.cells #[.int .i64 0, .int .i64 0, .int .i64 0] 31) := ⟨_, rfl⟩
  have hb99 : Below w9.heap.size w9 W9 := by rw [hW9]; exact (Below.refl _ _).alloc (Nat.le_refl _) _
  have HTB := Lib.hid (show Tab W9 p1 n U ∧ FirstAt W9 p1 U n from ⟨htab1.mono (Nat.le_refl _) hb99, (hfst1 n rfl).mono (Nat.le_refl _) hb99⟩)
  have HB9 := Lib.hid (below_more (below_more HB8.out hb9 HB8.out.size) hb99 (below_more HB8.out hb9 HB8.out.size).size)
  have HRO9 := Lib.hid ((HRO8.out.after hb9).after hb99)
  have HW9 := Lib.hid hW9
  clear k0 k1 hb9 HN hp1 htab1 hfst1 hb99 hW9
  go_upto_region 10 with fail
  rw [← HW9.out]
  by_cases hm1 : m = 1
  case neg =>
    have d0 : ((m : Int) != 1) = true := by simp; omega
    have HF := Lib.hid (below_more HB0.out HB9.out HB0.out.size)
    clear hm1
    go_wp2
    exact bodyPost_ret (v := .bool true) (by simp [results, Try.results3, go_sem]) rfl ⟨rfl, HF.out⟩
  case pos =>
  subst hm1
  have c3 := HRO9.out.cell (iv_get (genF T L n) (show 0 * 6 + 3 < 6 * 1 by omega))
  rw [gen3, show 0 * 6 + 3 = 3 from rfl] at c3
  obtain ⟨B, hB⟩ : ∃ B, B = nB T L n 0 := ⟨_, rfl⟩
  rw [← hB] at c3
  by_cases hB0 : B = 0
  case neg =>
    have d0 : ((B : Int) != 0) = true := by simp; omega
    have HF := Lib.hid (below_more HB0.out HB9.out HB0.out.size)
    clear hB0 hB
    go_wp2
    exact bodyPost_ret (v := .bool true) (by simp [results, Try.results3, go_sem]) rfl ⟨rfl, HF.out⟩
  case pos =>
  subst hB0
  have HCN := Lib.hid (show cnt L T.length = 1 ∧ nB T L n 0 = 0 from ⟨by rw [HCM.out]; rfl, hB.symm⟩)
  obtain ⟨M, hM⟩ := shells_exist (Adj U) U.length
  have HH1 := Lib.hid (show cnt M U.length = 1 ∧ nB U M n 0 = 1 ∧ gnK U M n 0 = gnK T L n 0 ∧ euK U M n 0 = euK T L n 0 - 1 ∧ nF U M 0 + 1 = nF T L 0 ∧ nT U M 0 = nT T L 0 from by
    have e := HUS.out
    subst e
    exact hole1 HS.out HL.out HCN.out.1 HCN.out.2 (by rw [← HLN.out]; exact hal) HSU.out hM)
  have HWH := Lib.hid (whole_ok p1 n 1 U M W9 HTB.out.1 HTB.out.2 HSU.out hM (by rw [HH1.out.1]; rfl))
  rw [sum_one _ 0 (by omega), sum_one _ 1 (by omega), sum_one _ 2 (by omega), sum_one _ 3 (by omega), sum_one _ 4 (by omega), sum_one _ 5 (by omega)] at HWH
  simp only [Nat.add_zero, gen0, gen1, gen2, gen3, gen4, gen5, HH1.out.2.1, HH1.out.2.2.1, HH1.out.2.2.2.1, HH1.out.2.2.2.2.2] at HWH
  have c1 := HRO9.out.cell (iv_get (genF T L n) (show 0 * 6 + 1 < 6 * 1 by omega))
  have c2 := HRO9.out.cell (iv_get (genF T L n) (show 0 * 6 + 2 < 6 * 1 by omega))
  have c4 := HRO9.out.cell (iv_get (genF T L n) (show 0 * 6 + 4 < 6 * 1 by omega))
  have c5 := HRO9.out.cell (iv_get (genF T L n) (show 0 * 6 + 5 < 6 * 1 by omega))
  rw [gen1, show 0 * 6 + 1 = 1 from rfl] at c1
  rw [gen2, show 0 * 6 + 2 = 2 from rfl] at c2
  rw [gen4, show 0 * 6 + 4 = 4 from rfl] at c4
  rw [gen5, show 0 * 6 + 5 = 5 from rfl] at c5
  have bE : nT T L 0 / 2 ≤ 20000 := by have := twn_le T L (3 * T.length) 0; unfold nT; have := HLN.out; omega
  have bF : nF T L 0 ≤ 40 := by have := cntK_le L T.length 0; unfold nF; have := HLN.out; omega
  have bQ : -300000 ≤ euK T L n 0 ∧ euK T L n 0 ≤ 300000 := by
    have := genF_le (T := T) (L := L) (n := n) (by omega) (by rw [← HLN.out]; omega) (0 * 6 + 4)
    rw [gen4] at this; exact this
  have bG : -300000 ≤ gnK T L n 0 ∧ gnK T L n 0 ≤ 300000 := by
    have := genF_le (T := T) (L := L) (n := n) (by omega) (by rw [← HLN.out]; omega) (0 * 6 + 5)
    rw [gen5] at this; exact this
  have sF0 : (nF T L 0 : Int) - 1 = (nF U M 0 : Int) := by have := HH1.out.2.2.2.2.1; omega
  obtain ⟨V1, hV1⟩ : ∃ v, v = nV U M n 0 := ⟨_, rfl⟩
  obtain ⟨E, hE⟩ : ∃ v, v = nT T L 0 / 2 := ⟨_, rfl⟩
  obtain ⟨f1, hf1⟩ : ∃ v, v = nF U M 0 := ⟨_, rfl⟩
  obtain ⟨F, hF⟩ : ∃ v, v = nF T L 0 := ⟨_, rfl⟩
  obtain ⟨Q, hQ⟩ : ∃ v, v = euK T L n 0 := ⟨_, rfl⟩
  obtain ⟨q1, hq1⟩ : ∃ v, v = Q - 1 := ⟨_, rfl⟩
  obtain ⟨G, hG⟩ : ∃ v, v = gnK T L n 0 := ⟨_, rfl⟩
  rw [← hV1, ← hE, ← hf1, ← hQ, ← hq1, ← hG] at HWH
  rw [← hE] at c1 bE
  rw [← hF] at c2 bF sF0
  rw [← hf1] at sF0
  rw [← hQ] at c4 bQ
  rw [← hG] at c5 bG
  have HG0 := Lib.hid hG
  have sQ : Q - 1 = q1 := hq1.symm
  clear hV1 hE hf1 hF hQ hq1 hG hM hB
  go_wp2_with fail
  refine HWH.out.mono ?_
  rintro e w12 ⟨rfl, hb12⟩
  obtain ⟨X, hX⟩ : ∃ X, X = w12.alloc (.cells #[.int .i64 (V1 : Int), .int .i64 (E : Int), .int .i64 (f1 : Int), .int .i64 1, .int .i64 q1, .int .i64 G] 35) := ⟨_, rfl⟩
  have hbX : Below w12.heap.size w12 X := by rw [hX]; exact (Below.refl _ _).alloc (Nat.le_refl _) _
  have hrX : RowIs X w12.heap.size 35 [.int .i64 (V1 : Int), .int .i64 (E : Int), .int .i64 (f1 : Int), .int .i64 1, .int .i64 q1, .int .i64 G] := by rw [hX]; exact RowIs.made w12 35 [.int .i64 (V1 : Int), .int .i64 (E : Int), .int .i64 (f1 : Int), .int .i64 1, .int .i64 q1, .int .i64 G]
  have q1c := hrX.cell (i := 1) rfl
  have q2c := hrX.cell (i := 2) rfl
  have q3c := hrX.cell (i := 3) rfl
  have q4c := hrX.cell (i := 4) rfl
  have q5c := hrX.cell (i := 5) rfl
  have hgoX : ∀ i v, W9.cell? ⟨go, i, none⟩ = some v → X.cell? ⟨go, i, none⟩ = some v := fun i v h => (((below_more hb12 hbX hb12.size)).cell (p := ⟨go, i, none⟩) HRO9.out.lt).trans h
  replace c1 := hgoX _ _ c1
  replace c2 := hgoX _ _ c2
  replace c4 := hgoX _ _ c4
  replace c5 := hgoX _ _ c5
  have HBX := Lib.hid (below_more HB9.out (below_more hb12 hbX hb12.size) HB9.out.size)
  have HX := Lib.hid hX
  have hrx := HR.out.after HBX.out
  have x0 := hrx.cell (i := 0) rfl
  have x1 := hrx.cell (i := 1) rfl
  clear hb12 hX hbX hrX c3 HWH hgoX hrx
  go_upto_region 13 with fail
  rw [← HX.out]
  go_quiet (fail)
  clear c1 c2 c4 q1c q2c q3c q4c q5c
  obtain ⟨Y, hY⟩ : ∃ Y, Y = X.drewN nq := ⟨_, rfl⟩
  rw [← hY]
  have HBY := Lib.hid (show Below W0.heap.size W0 Y from by rw [hY]; exact HBX.out.trans ⟨rfl, rfl, rfl, Nat.le_refl _, fun _ _ => rfl⟩)
  have c5Y : Y.cell? ⟨go, 5, none⟩ = some (.int .i64 G) := by rw [hY]; exact c5
  have HGO := Lib.hid c5Y
  clear c5 hY c5Y x0 x1
  have hry := HR.out.after HBY.out
  have x0 := hry.cell (i := 0) rfl
  have x1 := hry.cell (i := 1) rfl
  obtain ⟨b1, off1, ta0, ta1, ta2, heq, HTA, g0, g1, g2, -, -⟩ := HT.out.get (Nat.le_refl _) HBY.out (i := a) (by rw [← HLN.out]; exact hal)
  simp only [Option.some.injEq, Addr.mk.injEq, and_true] at heq
  obtain ⟨rfl, rfl⟩ := heq
  obtain ⟨b2, off2, tb0, tb1, tb2, heq, HTB2, e0, e1, e2, -, -⟩ := HT.out.get (Nat.le_refl _) HBY.out (i := b) (by rw [← HLN.out]; exact hbl)
  simp only [Option.some.injEq, Addr.mk.injEq, and_true] at heq
  obtain ⟨rfl, rfl⟩ := heq
  have hb0i : (0 : Int) ≤ (b : Int) := by omega
  have hbli : (b : Int) < (len : Int) := by omega
  have hali : (a : Int) < (len : Int) := by omega
  clear hry ha ha2
  go_wp2
  clear g0 g1 g2 hb hb2
  go_loopw [133] (fun i ws => ∃ i' : Nat, i' ≤ 3 ∧ i = .int .i64 i' ∧ Hid (∀ p q, p < i' → q < 3 → tg (ta0, ta1, ta2) p ≠ tg (tb0, tb1, tb2) q) ∧ Hid (Y = ws)) (fun i _ => 3 - (intOf i).toNat)
  case atStart => exact ⟨0, by omega, rfl, fun p q h => by omega, rfl⟩
  case round =>
  obtain ⟨i', hi3, rfl, HFAR, hyw⟩ := hrel
  obtain rfl : Y = wr := hyw
  by_cases hi' : i' < 3
  case pos =>
    have hix := index_tri ta0 ta1 ta2 i' hi'
    obtain ⟨va, hva⟩ : ∃ v, v = tg (ta0, ta1, ta2) i' := ⟨_, rfl⟩
    rw [← hva] at hix
    have HVA := Lib.hid hva
    clear hva
    go_wp2
    clear hix
    go_loopw [141] (fun j ws => ∃ j' : Nat, j' ≤ 3 ∧ j = .int .i64 j' ∧ Hid (∀ q, q < j' → va ≠ tg (tb0, tb1, tb2) q) ∧ Hid (Y = ws)) (fun j _ => 3 - (intOf j).toNat)
    case atStart => exact ⟨0, by omega, rfl, fun q h => by omega, rfl⟩
    case round =>
    obtain ⟨j', hj3, rfl, HJ, hyw⟩ := hrel
    obtain rfl : Y = wr := hyw
    by_cases hj' : j' < 3
    case pos =>
      have hix := index_tri tb0 tb1 tb2 j' hj'
      obtain ⟨vb, hvb⟩ : ∃ v, v = tg (tb0, tb1, tb2) j' := ⟨_, rfl⟩
      rw [← hvb] at hix
      have HVB := Lib.hid hvb
      clear hvb
      by_cases hab : va = vb
      · have d0 : (va == vb) = true := by simpa using hab
        have HF := Lib.hid (below_more HB0.out HBY.out HB0.out.size)
        clear hab
        go_wp2
        exact bodyPost_ret (v := .bool true) (by simp [results, Try.results3, go_sem]) rfl ⟨rfl, HF.out⟩
      · have d0 : (va == vb) = false := by simpa using hab
        have HJ2 := Lib.hid (show ∀ q, q < j' + 1 → va ≠ tg (tb0, tb1, tb2) q from fun q hq => by
          by_cases e : q = j'
          · subst e; rw [← HVB.out]; exact hab
          · exact HJ.out q (by omega))
        clear hab
        go_wp2
        go_roundw
        case rel => exact ⟨j' + 1, by omega, by go_num, HJ2, trivial⟩
        case measure => simp [intOf]; omega
    case neg =>
      obtain rfl : j' = 3 := by omega
      have HF2 := Lib.hid (show ∀ p q, p < i' + 1 → q < 3 → tg (ta0, ta1, ta2) p ≠ tg (tb0, tb1, tb2) q from fun p q hp hq => by
        by_cases e : p = i'
        · subst e; rw [← HVA.out]; exact HJ.out q hq
        · exact HFAR.out p q (by omega) hq)
      go_wp2
      go_roundw
      case rel => exact ⟨i' + 1, by omega, by go_num, HF2, trivial⟩
      case measure => simp [intOf]; omega
  case neg =>
  have HFR := Lib.hid (show ∀ p q, p < 3 → q < 3 → tg (ta0, ta1, ta2) p ≠ tg (tb0, tb1, tb2) q from fun p q hp hq => HFAR.out p q (by omega) hq)
  clear e0 e1 e2 HFAR
  obtain ⟨g2, hg2⟩ : ∃ g, g = Y.heap.size := ⟨_, rfl⟩
  obtain ⟨Z, hZ⟩ : ∃ Z, Z = Y.alloc (.cells #[.int .i64 (n : Int), .slice none 0 0] 24) := ⟨_, rfl⟩
  have hbZ : Below Y.heap.size Y Z := by rw [hZ]; exact (Below.refl _ _).alloc (Nat.le_refl _) _
  have HRZ := Lib.hid (show RowIs Z g2 24 [.int .i64 (n : Int), .slice none 0 0] from by rw [hZ, hg2]; exact RowIs.made Y 24 [.int .i64 (n : Int), .slice none 0 0])
  have HZS := Lib.hid (show Z.heap.size = g2 + 1 from by rw [hZ, hg2]; simp)
  have HBZ := Lib.hid (below_more HBY.out hbZ HBY.out.size)
  have HG2 := Lib.hid hg2
  have HZE := Lib.hid hZ
  have HGO' := Lib.hid ((hbZ.cell (p := ⟨go, 5, none⟩) (World.block_lt_of_cell? _ _ HGO.out)).trans HGO.out)
  have HGL := Lib.hid (show go < g2 from by rw [hg2]; exact World.block_lt_of_cell? _ _ HGO.out)
  have hrz := HR.out.after HBZ.out
  have z0 := hrz.cell (i := 0) rfl
  have z1 := hrz.cell (i := 1) rfl
  clear hg2 hZ hbZ hrz
  go_upto_region 27 with fail
  rw [← HZE.out]
  simp only [← HG2.out]
  clear x0 x1
  have HZ0 := Lib.hid (show Z.ownsRow (g2 + 1) 38 3 (.slice none 0 0) ((List.range 0).filter (twoP a b)).length (tcells (((List.range 0).filter (twoP a b)).map (T! T))) from World.ownsRow_nil _ _ _ _)
  go_wp2
  clear z0 z1
  go_loopw [155] (fun i ws => ∃ (i' : Nat) (va : Option Addr) (vc : Nat), i' ≤ len ∧ i = .int .i64 i' ∧ Hid (RowIs ws g2 24 [.int .i64 (n : Int), .slice va ((List.range i').filter (twoP a b)).length vc] ∧ ws.ownsRow (g2 + 1) 38 3 (.slice va ((List.range i').filter (twoP a b)).length vc) ((List.range i').filter (twoP a b)).length (tcells (((List.range i').filter (twoP a b)).map (T! T))) ∧ But Z.heap.size g2 Z ws ∧ Z.heap.size ≤ ws.heap.size)) (fun i _ => len - (intOf i).toNat)
  case atStart => exact ⟨0, none, 0, by omega, rfl, ⟨HRZ.out, HZ0.out, But.refl _ _ _, Nat.le_refl _⟩⟩
  case round =>
  clear HZ0
  obtain ⟨i, va, vc, hil, rfl, HS3⟩ := hrel
  obtain ⟨X3, rfl⟩ : ∃ X : World, X = wr := ⟨_, rfl⟩
  have HBW := Lib.hid (show Below W0.heap.size W0 X3 from HBZ.out.trans (HS3.out.2.2.1.below (B' := W0.heap.size) HBZ.out.size (by have := HBY.out.size; rw [HG2.out]; exact this)))
  have HCL := Lib.hid (show ((List.range i).filter (twoP a b)).length ≤ i from Nat.le_trans (List.length_filter_le _ _) (by simp))
  have HSZ3 := Lib.hid (show g2 + 1 ≤ X3.heap.size from by rw [← HZS.out]; exact HS3.out.2.2.2)
  by_cases hilt : i < len
  case pos =>
    obtain ⟨b3, off3, rx, ry, rz, heq, HTI, r0, r1, r2, -, -⟩ := HT.out.get (Nat.le_refl _) HBW.out (i := i) (by rw [← HLN.out]; exact hilt)
    simp only [Option.some.injEq, Addr.mk.injEq, and_true] at heq
    obtain ⟨rfl, rfl⟩ := heq
    obtain ⟨X4, hX4⟩ : ∃ X4, X4 = X3.alloc (.cells #[.int .i64 rx, .int .i64 ry, .int .i64 rz] 38) := ⟨_, rfl⟩
    have hb4 : Below X3.heap.size X3 X4 := by rw [hX4]; exact (Below.refl _ _).alloc (Nat.le_refl _) _
    have hr4 : RowIs X4 X3.heap.size 38 [.int .i64 rx, .int .i64 ry, .int .i64 rz] := by rw [hX4]; exact RowIs.made X3 38 [.int .i64 rx, .int .i64 ry, .int .i64 rz]
    have HR4 := Lib.hid (HS3.out.1.after hb4)
    have HO4 := Lib.hid (owns_below HS3.out.2.1 hb4)
    have HBU4 := Lib.hid (show But Z.heap.size g2 Z X4 ∧ Z.heap.size ≤ X4.heap.size from ⟨HS3.out.2.2.1.more hb4 HS3.out.2.2.2, Nat.le_trans HS3.out.2.2.2 hb4.size⟩)
    have HSZ4 := Lib.hid (show g2 + 1 ≤ X4.heap.size from Nat.le_trans HSZ3.out hb4.size)
    have HX4 := Lib.hid hX4
    have hi0 : (0 : Int) ≤ (i : Int) := by omega
    have hi1 : (i : Int) < (len : Int) := by omega
    have t0 := hr4.cell (i := 0) rfl
    have t1 := hr4.cell (i := 1) rfl
    have t2 := hr4.cell (i := 2) rfl
    clear hX4 hb4 hr4
    go_upto_region 30 with fail
    rw [← HX4.out]
    clear r0 r1 r2
    by_cases hia : i = a
    · have d0 : ((i : Int) != (a : Int)) = false := by simp; omega
      have HN := Lib.hid (show (List.range (i + 1)).filter (twoP a b) = (List.range i).filter (twoP a b) from by simp [List.range_succ, twoP, hia])
      clear hia t0 t1 t2
      go_wp2
      go_roundw
      case rel => exact ⟨i + 1, va, vc, by omega, by go_num, by rw [HN.out]; exact ⟨HR4.out, HO4.out, HBU4.out.1, HBU4.out.2⟩⟩
      case measure => simp [intOf]; omega
    · have d0 : ((i : Int) != (a : Int)) = true := by simp; omega
      by_cases hib : i = b
      · have d1 : ((i : Int) != (b : Int)) = false := by simp; omega
        have HN := Lib.hid (show (List.range (i + 1)).filter (twoP a b) = (List.range i).filter (twoP a b) from by simp [List.range_succ, twoP, hib])
        clear hia hib t0 t1 t2
        go_wp2
        go_roundw
        case rel => exact ⟨i + 1, va, vc, by omega, by go_num, by rw [HN.out]; exact ⟨HR4.out, HO4.out, HBU4.out.1, HBU4.out.2⟩⟩
        case measure => simp [intOf]; omega
      · have d1 : ((i : Int) != (b : Int)) = true := by simp; omega
        have HN := Lib.hid (show (List.range (i + 1)).filter (twoP a b) = (List.range i).filter (twoP a b) ++ [i] from by simp [List.range_succ, twoP, hia, hib])
        have k1 := HR4.out.cell (i := 1) rfl
        have hcl := HCL.out
        obtain ⟨cn, hcn⟩ : ∃ cn, cn = ((List.range i).filter (twoP a b)).length := ⟨_, rfl⟩
        rw [← hcn] at k1 hcl
        have HO4' := Lib.hid (show X4.ownsRow (g2 + 1) 38 3 (.slice va cn vc) cn (tcells (((List.range i).filter (twoP a b)).map (T! T))) from by rw [hcn]; exact HO4.out)
        have HR4' := Lib.hid (show RowIs X4 g2 24 [.int .i64 (n : Int), .slice va cn vc] from by rw [hcn]; exact HR4.out)
        have HCN2 := Lib.hid hcn
        clear hia hib hcn
        go_wp2_with (at_builtin; refine wpList_append_new _ rfl _ _ 22 rfl (g2 + 1) 38 i4 _ 3 24 (by kernel_rfl) hi4 hx0 hx1 hx2 rfl (by decide) _ _ _ rfl HO4'.out _ _ _ rfl (by first | rfl | simp) rfl ?_ ?_ ?_ ?_ ?_)
        all_goals first | rfl | omega | (unfold maxLen; omega) | exact ⟨rfl, rfl, rfl⟩ | exact HSZ4.out | skip
        · intro v' w5 hown5 hbel hgr
          obtain ⟨va', vc', rfl⟩ := owns_slice hown5
          have hbb : Below X4.heap.size X4 (X4.alloc (.cells #[.int .i64 rx, .int .i64 ry, .int .i64 rz] 38)) := (Below.refl _ _).alloc (Nat.le_refl _) _
          have HR5 := Lib.hid (show RowIs w5 g2 24 [.int .i64 (n : Int), .slice va cn vc] from (HR4'.out.alloc _).grown hgr (fun e => by have := (HO4'.out.lt g2 e.symm).1; omega))
          have HBU5 := Lib.hid (show But Z.heap.size g2 Z w5 ∧ Z.heap.size ≤ w5.heap.size from by
            have h1 := hbel (g2 + 1) X4 (Nat.le_refl _) (Below.refl _ _)
            exact ⟨HBU4.out.1.more h1 (by rw [HZS.out]; exact Nat.le_refl _), Nat.le_trans HBU4.out.2 h1.size⟩)
          have HO5 := Lib.hid hown5
          have k1' := HR5.out.cell (i := 1) rfl
          have kf := HR5.out.free 1
          clear hown5 hbel hgr hbb t0 t1 t2 k1
          go_wp2
          go_roundw
          case rel =>
            refine ⟨i + 1, va', vc', by omega, by go_num, ?_⟩
            have e1 : ((List.range (i + 1)).filter (twoP a b)).length = cn + 1 := by rw [HN.out, List.length_append, HCN2.out]; rfl
            have e2 : tcells (((List.range (i + 1)).filter (twoP a b)).map (T! T)) = tcells (((List.range i).filter (twoP a b)).map (T! T)) ++ [.int .i64 rx, .int .i64 ry, .int .i64 rz] := by
              rw [HN.out, List.map_append]
              show tcells (_ ++ [T! T i]) = _
              rw [tcells_snoc, HTI.out]
            rw [e1, e2]
            refine ⟨HR5.out.set 1 (.slice va' (cn + 1) vc'), ownsRow_setCell_below HO5.out (a := ⟨g2, 1, none⟩) (Nat.lt_succ_self _) _, ?_, ?_⟩
            · exact HBU5.out.1.grown (grown_set w5 g2 1 _) HBU5.out.2 (fun q hq => .inr (by cases hq; rfl))
            · exact Nat.le_trans HBU5.out.2 (grown_set w5 g2 1 (.slice va' (cn + 1) vc')).size
          case measure => simp [intOf]; omega
  case neg =>
  obtain rfl : i = len := by omega
  obtain ⟨U2, hU2⟩ : ∃ U2, U2 = subT T (twoI T.length a b) := ⟨_, rfl⟩
  have hl2 : ((List.range i).filter (twoP a b)).length = U2.length := by rw [hU2, subT_len, HLN.out]; rfl
  have HOW := Lib.hid (show X3.ownsRow (g2 + 1) 38 3 (.slice va U2.length vc) U2.length (tcells U2) from by
    have := HS3.out.2.1
    rw [hl2] at this
    rw [hU2] at this ⊢
    have e : ((List.range i).filter (twoP a b)).map (T! T) = subT T (twoI T.length a b) := by rw [← HLN.out]; rfl
    rw [e] at this
    exact this)
  have hr3 := HS3.out.1
  rw [hl2] at hr3
  have HU2 := Lib.hid hU2
  have HT2 := Lib.hid (show TrisAt X3 va U2 from by
    obtain ⟨ao', c', e, h⟩ := owns_tris HOW.out
    simp only [Value.slice.injEq, true_and] at e
    rw [e.1]; exact h)
  have HL2' := Lib.hid (show U2.length ≤ 8192 from by rw [← hl2]; have := HCL.out; omega)
  have HGO3 := Lib.hid (show X3.cell? ⟨go, 5, none⟩ = some (.int .i64 G) from (HS3.out.2.2.1.cell (k := go) (i := 5) (by rw [HZS.out]; have := HGL.out; omega) (by have := HGL.out; omega)).trans HGO'.out)
  have y0 := hr3.cell (i := 0) rfl
  have y1 := hr3.cell (i := 1) rfl
  clear hU2 hl2 hr3 HOW
  by_cases hs2 : Surf n U2
  case neg =>
    have HN := Lib.hid (new_none n va vc U2 X3 HT2.out HL2'.out hs2)
    clear hs2
    go_wp2_with fail
    refine HN.out.mono ?_
    rintro e w9' ⟨kk, aa, bb, rfl, -, -, hb9⟩
    have HF := Lib.hid (below_alloc (below_more HB0.out (below_more HBW.out hb9 HBW.out.size) HB0.out.size) (.cells #[.int .i64 kk, .int .i64 aa, .int .i64 bb] 31))
    clear y0 y1 hb9 HN
    go_wp2
    exact bodyPost_ret (v := .bool true) (by simp [results, Try.results3, go_sem]) rfl ⟨rfl, HF.out⟩
  case pos =>
  have HS2 := Lib.hid hs2
  have HN := Lib.hid (new_first n va vc U2 X3 HT2.out hs2)
  clear hs2
  go_wp2_with fail
  refine HN.out.mono ?_
  rintro e v9 ⟨p2, rfl, hp2, ⟨htab2, hfst2⟩, hb9⟩
  obtain ⟨V9, hV9⟩ : ∃ V9, V9 = v9.alloc (.cells #[.int .i64 0, .int .i64 0, .int .i64 0] 31) := ⟨_, rfl⟩
  have hb99 : Below v9.heap.size v9 V9 := by rw [hV9]; exact (Below.refl _ _).alloc (Nat.le_refl _) _
  have HTB3 := Lib.hid (show Tab V9 p2 n U2 ∧ FirstAt V9 p2 U2 n from ⟨htab2.mono (Nat.le_refl _) hb99, (hfst2 n rfl).mono (Nat.le_refl _) hb99⟩)
  have hbv : Below X3.heap.size X3 V9 := below_more hb9 hb99 hb9.size
  have HBV := Lib.hid (below_more HBW.out hbv HBW.out.size)
  have HGO4 := Lib.hid ((hbv.cell (p := ⟨go, 5, none⟩) (World.block_lt_of_cell? _ _ HGO3.out)).trans HGO3.out)
  have HV9 := Lib.hid hV9
  clear y0 y1 hb9 HN hp2 htab2 hfst2 hb99 hbv hV9
  go_upto_region 34 with fail
  rw [← HV9.out]
  obtain ⟨M2, hM2⟩ := shells_exist (Adj U2) U2.length
  have HH2 := Lib.hid (show cnt M2 U2.length = 1 ∧ nB U2 M2 n 0 = 2 ∧ gnK U2 M2 n 0 = gnK T L n 0 from by
    have e := HU2.out
    subst e
    exact hole2 HS.out HL.out HCN.out.1 HCN.out.2 (by rw [← HLN.out]; exact hal) (by rw [← HLN.out]; exact hbl) (fun p q hp hq => by rw [HTA.out, HTB2.out]; exact HFR.out p q hp hq) HS2.out hM2)
  have HWH2 := Lib.hid (whole_ok p2 n 1 U2 M2 V9 HTB3.out.1 HTB3.out.2 HS2.out hM2 (by rw [HH2.out.1]; rfl))
  rw [sum_one _ 0 (by omega), sum_one _ 1 (by omega), sum_one _ 2 (by omega), sum_one _ 3 (by omega), sum_one _ 4 (by omega), sum_one _ 5 (by omega)] at HWH2
  simp only [Nat.add_zero, gen0, gen1, gen2, gen3, gen4, gen5, HH2.out.2.1, HH2.out.2.2, ← HG0.out] at HWH2
  have HGA := Lib.hid (show ∀ Y, Hid (Below V9.heap.size V9 Y) → Calls Try.prog 8 #[.pointer (some ⟨p2, 0, none⟩)] Y fun e w' => ∃ g, e = .returned (.slice (some ⟨g, 0, none⟩) 1 1) ∧ Hid (Below Y.heap.size Y w') from fun Y h =>
    (genus_of p2 n 1 U2 M2 Y (HTB3.out.1.mono (Nat.le_refl _) h.out) (HTB3.out.2.mono (Nat.le_refl _) h.out) HS2.out hM2 (by rw [HH2.out.1]; rfl)).mono fun e w' ⟨g, h1, _, _, h3⟩ => ⟨g, h1, h3⟩)
  generalize hA0 : nV U2 M2 n 0 = A0 at HWH2
  generalize hA1 : nT U2 M2 0 / 2 = A1 at HWH2
  generalize hA2 : nF U2 M2 0 = A2 at HWH2
  generalize hA4 : euK U2 M2 n 0 = A4 at HWH2
  clear hA0 hA1 hA2 hA4 hM2
  go_wp2_with fail
  refine HWH2.out.mono ?_
  rintro e w37 ⟨rfl, hb37⟩
  obtain ⟨X7, hX7⟩ : ∃ X7, X7 = w37.alloc (.cells #[.int .i64 (A0 : Int), .int .i64 (A1 : Int), .int .i64 (A2 : Int), .int .i64 2, .int .i64 A4, .int .i64 G] 35) := ⟨_, rfl⟩
  have hbX7 : Below w37.heap.size w37 X7 := by rw [hX7]; exact (Below.refl _ _).alloc (Nat.le_refl _) _
  have hrX7 : RowIs X7 w37.heap.size 35 [.int .i64 (A0 : Int), .int .i64 (A1 : Int), .int .i64 (A2 : Int), .int .i64 2, .int .i64 A4, .int .i64 G] := by rw [hX7]; exact RowIs.made w37 35 [.int .i64 (A0 : Int), .int .i64 (A1 : Int), .int .i64 (A2 : Int), .int .i64 2, .int .i64 A4, .int .i64 G]
  have hb7 : Below V9.heap.size V9 X7 := below_more hb37 hbX7 hb37.size
  have hgo7 := (hb7.cell (p := ⟨go, 5, none⟩) (World.block_lt_of_cell? _ _ HGO4.out)).trans HGO4.out
  obtain ⟨gq, hgq⟩ : ∃ g, g = w37.heap.size := ⟨_, rfl⟩
  rw [← hgq] at hrX7
  have HGQ := Lib.hid hgq
  have HK7 := Lib.hid (show ∀ Y, Hid (Below X7.heap.size X7 Y) → Y.cell? ⟨gq, 3, none⟩ = some (.int .i64 2) ∧ Y.cell? ⟨gq, 5, none⟩ = some (.int .i64 G) ∧ Y.cell? ⟨go, 5, none⟩ = some (.int .i64 G) from fun Y h => ⟨(hrX7.after h.out).cell (i := 3) rfl, (hrX7.after h.out).cell (i := 5) rfl, (h.out.cell (p := ⟨go, 5, none⟩) (World.block_lt_of_cell? _ _ hgo7)).trans hgo7⟩)
  have HGB := Lib.hid (show ∀ Y, Hid (Below X7.heap.size X7 Y) → Calls Try.prog 8 #[.pointer (some ⟨p2, 0, none⟩)] Y fun e w' => ∃ g, e = .returned (.slice (some ⟨g, 0, none⟩) 1 1) ∧ Hid (Below X7.heap.size X7 w') from fun Y h =>
    (HGA.out Y (below_more hb7 h.out hb7.size)).mono fun e w' ⟨g, h1, h3⟩ => ⟨g, h1, below_more h.out h3.out h.out.size⟩)
  have HB7 := Lib.hid (below_more HBV.out hb7 HBV.out.size)
  have HX7 := Lib.hid hX7
  have HRF7 := Lib.hid (Below.refl X7.heap.size X7)
  have HDR7 := Lib.hid (show Below X7.heap.size X7 X7.drew from ⟨rfl, rfl, rfl, Nat.le_refl _, fun _ _ => rfl⟩)
  clear hb37 hX7 hbX7 hrX7 hb7 hgo7 hgq HWH2 HGA
  go_upto_region 37 with fail
  rw [← HX7.out]
  simp only [← HGQ.out]
  go_region_held3 (fun w' => w'.cell? ⟨gq, 3, none⟩ = some (.int .i64 2) ∧ w'.cell? ⟨gq, 5, none⟩ = some (.int .i64 G) ∧ w'.cell? ⟨go, 5, none⟩ = some (.int .i64 G))
    (exact HK7.out _ (by assumption))
    (first | (go_at_call 8; (with_reducible refine (HGB.out _ (by assumption)).mono ?_); rintro e wE ⟨ge, rfl, hE⟩))
  all_goals
    have HF := Lib.hid (below_more HB0.out (below_more HB7.out hE.out HB7.out.size) HB0.out.size)
    go_wp2
    exact bodyPost_ret (v := .bool true) (by simp [results, Try.results3, go_sem]) rfl ⟨rfl, HF.out⟩
end Go.Proofs.Ytbeefabboabfgaa

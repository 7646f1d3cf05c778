/- genus.kinds: the shells' borders and genus, in order. genus.Same. -/
import Derived.Test.YtbeefabboabfgaaGreatPairSort
import Derived.Test.YtbeefabboabfgaaGreatGenusOf
namespace Go.Proofs.YtbeefabboabfgaaGreat
set_option linter.unusedVariables false
set_option linter.unusedSimpArgs false
open Go.RowKit
theorem infoTwo : (Tryz.prog.info? 79).map (fun i => (i.zero, i.size, i.bytes)) = some (some (.agg #[.int .i64 0, .int .i64 0]), 2, 16) := by kernel_rfl
/-- Borders and genus of the first k shells. -/
def kindL (Φ : Nat → Int) (k : Nat) : List (Int × Int) := (List.range k).map fun s => (Φ (s * 6 + 3), Φ (s * 6 + 5))
theorem kindL_length (Φ : Nat → Int) (k : Nat) : (kindL Φ k).length = k := by simp [kindL]
theorem kindL_succ (Φ : Nat → Int) (k : Nat) : kindL Φ (k + 1) = kindL Φ k ++ [(Φ (k * 6 + 3), Φ (k * 6 + 5))] := by simp [kindL, List.range_succ]
set_option maxRecDepth 100000 in
set_option maxHeartbeats 2000000 in
theorem kinds_no (N : Int) (ao : Option Addr) (cap : Nat) (T : List Tr) (w : World) (hT : TrisAt w ao T) (hl : T.length ≤ 8192) (hs : ¬ Surf N T) :
    Calls Tryz.prog 40 #[.agg #[.int .i64 N, .slice ao T.length cap]] w fun e w' => e = .returned (.tuple #[.slice none 0 0, .bool false]) ∧ Below w.heap.size w w' := by
  obtain ⟨W0, hW0⟩ : ∃ W0, W0 = w.alloc (.cells #[.int .i64 N, .slice ao T.length cap] 24) := ⟨_, rfl⟩
  have hb0 : Below w.heap.size w W0 := by rw [hW0]; exact (Below.refl _ _).alloc (Nat.le_refl _) _
  have hr0 : RowIs W0 w.heap.size 24 [.int .i64 N, .slice ao T.length cap] := by rw [hW0]; exact RowIs.made w 24 [.int .i64 N, .slice ao T.length cap]
  have HN := Lib.hid (new_none N ao cap T W0 (hT.mono (Nat.le_refl _) hb0) hl hs)
  have c0 := hr0.cell (i := 0) rfl
  have c1 := hr0.cell (i := 1) rfl
  have HB0 := Lib.hid hb0
  have HW0 := Lib.hid hW0
  clear hT hs hb0 hr0 hW0
  generalize T.length = len at *
  go_enter Tryz.func40, Tryz.ntmps40
  go_upto_region 1 with fail
  rw [← HW0.out]
  go_wp2_with fail
  refine HN.out.mono ?_
  rintro e w1 ⟨k, a, b, rfl, -, -, hb1⟩
  have HB1 := Lib.hid (below_more HB0.out hb1 HB0.out.size)
  clear hb1 c0 c1 HN
  go_wp2
  exact bodyPost_ret (v := .tuple #[.slice none 0 0, .bool false]) (by simp [results, Tryz.results40, go_sem]) rfl ⟨rfl, HB1.out.alloc HB1.out.size _⟩
set_option maxRecDepth 100000 in
set_option maxHeartbeats 2000000 in
theorem kinds_yes (n m : Nat) (ao : Option Addr) (cap : Nat) (T : List Tr) (L : Nat → Int) (w : World) (hT : TrisAt w ao T) (hs : Surf n T) (hL : IsShells (Adj T) T.length L) (hm : (m : Int) = cnt L T.length) :
    Calls Tryz.prog 40 #[.agg #[.int .i64 n, .slice ao T.length cap]] w fun e w' => ∃ bo cap', e = .returned (.tuple #[.slice bo m cap', .bool true]) ∧ EdgesAt w' bo (sortP (kindL (genF T L n) m)) ∧ Below w.heap.size w w' := by
  obtain ⟨i0, hi, hz0, hz1, hz2⟩ := info_parts infoTwo
  obtain ⟨W0, hW0⟩ : ∃ W0, W0 = w.alloc (.cells #[.int .i64 n, .slice ao T.length cap] 24) := ⟨_, rfl⟩
  have hb0 : Below w.heap.size w W0 := by rw [hW0]; exact (Below.refl _ _).alloc (Nat.le_refl _) _
  have hr0 : RowIs W0 w.heap.size 24 [.int .i64 n, .slice ao T.length cap] := by rw [hW0]; exact RowIs.made w 24 [.int .i64 n, .slice ao T.length cap]
  have HN := Lib.hid (new_first n ao cap T W0 (hT.mono (Nat.le_refl _) hb0) hs)
  have HG := Lib.hid (show ∀ b X, Tab X b n T → FirstAt X b T n → _ from fun b X h1 h2 => genus_of b n m T L X h1 h2 hs hL hm)
  have hmle : m ≤ 8192 := by have := hL.cnt_le; have := hs.t1; omega
  obtain ⟨Φ, hΦ⟩ : ∃ Φ, Φ = genF T L n := ⟨_, rfl⟩
  rw [← hΦ] at HG ⊢
  have c0 := hr0.cell (i := 0) rfl
  have c1 := hr0.cell (i := 1) rfl
  have HB0 := Lib.hid hb0
  have HW0 := Lib.hid hW0
  obtain ⟨len, hlen⟩ : ∃ l, l = T.length := ⟨_, rfl⟩
  simp only [← hlen] at HN c0 c1 HW0 ⊢
  clear hT hs hL hm hb0 hr0 hW0 hΦ hlen
  go_enter Tryz.func40, Tryz.ntmps40
  go_upto_region 1 with fail
  rw [← HW0.out]
  go_wp2_with fail
  refine HN.out.mono ?_
  rintro e w1 ⟨p, rfl, hp, ⟨htab, hfst⟩, hb1⟩
  obtain ⟨W1, hW1⟩ : ∃ W1, W1 = (w1.alloc (.cells #[.int .i64 0, .int .i64 0, .int .i64 0] 52)) := ⟨_, rfl⟩
  have hb11 : Below w1.heap.size w1 W1 := by rw [hW1]; exact (Below.refl _ _).alloc (Nat.le_refl _) _
  have HTB := Lib.hid (show Tab W1 p n T ∧ FirstAt W1 p T n from ⟨htab.mono (Nat.le_refl _) hb11, (hfst n rfl).mono (Nat.le_refl _) hb11⟩)
  have HB1 := Lib.hid (below_more HB0.out hb1 HB0.out.size)
  have HB11 := Lib.hid (below_more HB1.out hb11 HB1.out.size)
  have HW1 := Lib.hid hW1
  clear htab hfst c0 c1 HN hb1 hp hb11 hW1
  go_upto_region 5 with fail
  rw [← HW1.out]
  go_wp2_with fail
  refine (HG.out p W1 HTB.out.1 HTB.out.2).mono ?_
  rintro e W2 ⟨g, rfl, hg, hrow, hb2⟩
  have hlt := hrow.lt
  have HROW := Lib.hid hrow
  have HB2 := Lib.hid (below_more HB11.out hb2 HB11.out.size)
  clear hrow hb2 hg HG HTB HB11 HB1
  go_wp2
  go_loopw [6, 19] (fun u c ws => ∃ k : Nat, k ≤ m ∧ c = .int .i64 k ∧ ws.ownsRow W2.heap.size 79 2 u (kindL Φ k).length (ecells (kindL Φ k)) ∧ Below W2.heap.size W2 ws) (fun _ c _ => m - (intOf c).toNat)
  case atStart => exact ⟨0, by omega, rfl, by exact World.ownsRow_nil _ _ _ _, Below.refl _ _⟩
  case round =>
  obtain ⟨k, hk, rfl, hown, hb⟩ := hrel
  obtain ⟨X, rfl⟩ : ∃ X : World, X = wr := ⟨_, rfl⟩
  have HOWN := Lib.hid hown
  have HB := Lib.hid hb
  by_cases hkm : k < m
  case neg =>
    obtain rfl : m = k := by omega
    obtain ⟨a, c, e, he⟩ := owns_edges hown
    subst e
    simp only [kindL_length] at hown ⊢
    have HS := Lib.hid (sort_pairs X W2.heap.size (.slice a m c) (kindL Φ m) (by rw [kindL_length]; omega) (by rw [kindL_length]; exact hown))
    clear hown hb he HOWN
    go_wp2_with fail
    refine HS.out.mono ?_
    rintro e X2 ⟨rfl, ao', cap', hsl, hE, hb3⟩
    simp only [kindL_length, Value.slice.injEq, true_and] at hsl
    obtain ⟨rfl, rfl⟩ := hsl
    have HE := Lib.hid hE
    have HB3 := Lib.hid (below_more HB2.out (HB.out.trans hb3) HB2.out.size)
    clear hE hb3 HS
    go_wp2
    exact bodyPost_ret (v := .tuple #[.slice a m c, .bool true]) (by simp [results, Tryz.results40, go_sem]) rfl ⟨a, c, rfl, HE.out, HB3.out⟩
  case pos =>
  have hro := HROW.out.after hb
  have p0 := hro.cell (iv_get Φ (show k * 6 < 6 * m by omega))
  have p1 := hro.cell (iv_get Φ (show k * 6 + 1 < 6 * m by omega))
  have p2 := hro.cell (iv_get Φ (show k * 6 + 2 < 6 * m by omega))
  have p3 := hro.cell (iv_get Φ (show k * 6 + 3 < 6 * m by omega))
  have p4 := hro.cell (iv_get Φ (show k * 6 + 4 < 6 * m by omega))
  have p5 := hro.cell (iv_get Φ (show k * 6 + 5 < 6 * m by omega))
  obtain ⟨f0, hf0⟩ : ∃ x, x = Φ (k * 6) := ⟨_, rfl⟩
  obtain ⟨f1, hf1⟩ : ∃ x, x = Φ (k * 6 + 1) := ⟨_, rfl⟩
  obtain ⟨f2, hf2⟩ : ∃ x, x = Φ (k * 6 + 2) := ⟨_, rfl⟩
  obtain ⟨f3, hf3⟩ : ∃ x, x = Φ (k * 6 + 3) := ⟨_, rfl⟩
  obtain ⟨f4, hf4⟩ : ∃ x, x = Φ (k * 6 + 4) := ⟨_, rfl⟩
  obtain ⟨f5, hf5⟩ : ∃ x, x = Φ (k * 6 + 5) := ⟨_, rfl⟩
  rw [← hf0] at p0
  rw [← hf1] at p1
  rw [← hf2] at p2
  rw [← hf3] at p3
  rw [← hf4] at p4
  rw [← hf5] at p5
  have HK := Lib.hid (show kindL Φ (k + 1) = kindL Φ k ++ [(f3, f5)] from by rw [hf3, hf5]; exact kindL_succ Φ k)
  obtain ⟨X1, hX1⟩ : ∃ X1, X1 = X.alloc (.cells #[.int .i64 f0, .int .i64 f1, .int .i64 f2, .int .i64 f3, .int .i64 f4, .int .i64 f5] 33) := ⟨_, rfl⟩
  have hbX : Below X.heap.size X X1 := by rw [hX1]; exact (Below.refl _ _).alloc (Nat.le_refl _) _
  have hrX : RowIs X1 X.heap.size 33 [.int .i64 f0, .int .i64 f1, .int .i64 f2, .int .i64 f3, .int .i64 f4, .int .i64 f5] := by rw [hX1]; exact RowIs.made X 33 [.int .i64 f0, .int .i64 f1, .int .i64 f2, .int .i64 f3, .int .i64 f4, .int .i64 f5]
  have HX1 := Lib.hid hX1
  have HW3 := Lib.hid (owns_below hown hbX)
  have HBX := Lib.hid (below_more hb hbX hb.size)
  have q3 := hrX.cell (i := 3) rfl
  have q5 := hrX.cell (i := 5) rfl
  clear hown hb hbX hX1 hrX hf0 hf1 hf2 hf3 hf4 hf5 HOWN HB hro
  go_upto_region 8 with fail
  rw [← HX1.out]
  clear p0 p1 p2 p3 p4 p5
  go_wp2_with (at_builtin; refine wpList_append_new _ rfl _ _ 75 rfl W2.heap.size 79 i0 _ 2 16 (by kernel_rfl) hi hz0 hz1 hz2 rfl (by decide) _ _ _ rfl HW3.out _ _ _ rfl (by first | rfl | simp) rfl ?_ ?_ ?_ ?_ ?_)
  all_goals first | rfl | omega | (unfold maxLen; omega) | exact ⟨rfl, rfl⟩ | exact ⟨rfl, rfl, rfl⟩ | exact HBX.out.size | (rw [kindL_length]; unfold maxLen; omega) | (rw [kindL_length]; omega) | skip
  · intro v' w5 hown5 hbel hgr
    have HW5 := Lib.hid hown5
    have HB5 := Lib.hid (hbel W2.heap.size _ (Nat.le_refl _) HBX.out)
    clear hown5 hbel hgr
    go_wp2
    go_roundw
    case rel => exact ⟨k + 1, by omega, by go_num, by
      rw [HK.out, ecells_snoc, List.length_append]
      exact HW5.out, HB5.out⟩
    case measure => simp [intOf]; omega
/-- The kinds of a list of triangles: those of a surface's shells, in order. -/
def KindIs (N : Int) (T : List Tr) (E : List (Int × Int)) (ok : Bool) : Prop :=
  (∃ (n m : Nat) (L : Nat → Int), N = n ∧ Surf n T ∧ IsShells (Adj T) T.length L ∧ (m : Int) = cnt L T.length ∧ E = sortP (kindL (genF T L n) m) ∧ ok = true) ∨ (¬ Surf N T ∧ E = [] ∧ ok = false)
theorem kind_exists (N : Int) (T : List Tr) : ∃ E ok, KindIs N T E ok := by
  by_cases hs : Surf N T
  · obtain ⟨n, hn⟩ : ∃ n : Nat, N = n := ⟨N.toNat, by have := hs.n0; omega⟩
    subst hn
    obtain ⟨L, hL⟩ := shells_exist (Adj T) T.length
    obtain ⟨m, hm⟩ : ∃ m : Nat, (m : Int) = cnt L T.length := ⟨(cnt L T.length).toNat, by have := cnt_nonneg L T.length; omega⟩
    exact ⟨_, _, Or.inl ⟨n, m, L, rfl, hs, hL, hm, rfl, rfl⟩⟩
  · exact ⟨_, _, Or.inr ⟨hs, rfl, rfl⟩⟩
theorem KindIs.ok {N : Int} {T : List Tr} {E : List (Int × Int)} {ok : Bool} (h : KindIs N T E ok) : ok = true ↔ Surf N T := by
  rcases h with ⟨n, m, L, rfl, hs, -, -, -, rfl⟩ | ⟨hs, -, rfl⟩
  · exact ⟨fun _ => hs, fun _ => rfl⟩
  · exact ⟨fun h => (by cases h), fun h => absurd h hs⟩
theorem kinds_any (N : Int) (ao : Option Addr) (cap : Nat) (T : List Tr) (E : List (Int × Int)) (ok : Bool) (w : World) (hT : TrisAt w ao T) (hl : T.length ≤ 8192) (hk : KindIs N T E ok) :
    Calls Tryz.prog 40 #[.agg #[.int .i64 N, .slice ao T.length cap]] w fun e w' => ∃ bo cap', e = .returned (.tuple #[.slice bo E.length cap', .bool ok]) ∧ EdgesAt w' bo E ∧ Below w.heap.size w w' := by
  rcases hk with ⟨n, m, L, rfl, hs, hL, hm, rfl, rfl⟩ | ⟨hs, rfl, rfl⟩
  · refine (kinds_yes n m ao cap T L w hT hs hL hm).mono ?_
    rintro e w' ⟨bo, c, rfl, h⟩
    exact ⟨bo, c, by rw [sortP_length, kindL_length], h⟩
  · refine (kinds_no N ao cap T w hT hl hs).mono ?_
    rintro e w' ⟨rfl, h⟩
    exact ⟨none, 0, rfl, fun hn => absurd rfl hn, h⟩
theorem KindIs.le {N : Int} {T : List Tr} {E : List (Int × Int)} {ok : Bool} (h : KindIs N T E ok) : E.length ≤ T.length := by
  rcases h with ⟨n, m, L, rfl, hs, hL, hm, rfl, rfl⟩ | ⟨hs, rfl, rfl⟩
  · rw [sortP_length, kindL_length]
    have := hL.cnt_le
    omega
  · simp
set_option maxRecDepth 100000 in
set_option maxHeartbeats 2000000 in
theorem gsame_any (N M : Int) (ao bo : Option Addr) (cap cap' : Nat) (T U : List Tr) (E F : List (Int × Int)) (p q : Bool) (w : World) (hT : TrisAt w ao T) (hU : TrisAt w bo U) (hl : T.length ≤ 8192) (hl' : U.length ≤ 8192) (hk : KindIs N T E p) (hk' : KindIs M U F q) :
    Calls Tryz.prog 17 #[.agg #[.int .i64 N, .slice ao T.length cap], .agg #[.int .i64 M, .slice bo U.length cap']] w fun e w' => e = .returned (.bool (p && (q && decide (E = F)))) ∧ Below w.heap.size w w' := by
  obtain ⟨W0, hW0⟩ : ∃ W0, W0 = (w.alloc (.cells #[.int .i64 N, .slice ao T.length cap] 24)).alloc (.cells #[.int .i64 M, .slice bo U.length cap'] 24) := ⟨_, rfl⟩
  have hb0 : Below w.heap.size w W0 := by rw [hW0]; exact ((Below.refl _ _).alloc (Nat.le_refl _) _).alloc (by simp) _
  have hr0 : RowIs W0 w.heap.size 24 [.int .i64 N, .slice ao T.length cap] := by rw [hW0]; exact (RowIs.made w 24 [.int .i64 N, .slice ao T.length cap]).alloc _
  have hr1 : RowIs W0 (w.heap.size + 1) 24 [.int .i64 M, .slice bo U.length cap'] := by rw [hW0]; exact RowIs.made' _ _ [.int .i64 M, .slice bo U.length cap'] _ (by simp)
  have HK1 := Lib.hid (kinds_any N ao cap T E p W0 (hT.mono (Nat.le_refl _) hb0) hl hk)
  have HK2 := Lib.hid (show ∀ X, Below W0.heap.size W0 X → _ from fun X hX => kinds_any M bo cap' U F q X ((hU.mono (Nat.le_refl _) hb0).mono (Nat.le_refl _) hX) hl' hk')
  have hle := hk.le
  have hle' := hk'.le
  have HEL := Lib.hid (show E.length ≤ 1000000 ∧ F.length ≤ 1000000 from ⟨by omega, by omega⟩)
  obtain ⟨l, hlen⟩ : ∃ l, l = T.length := ⟨_, rfl⟩
  obtain ⟨l', hlen'⟩ : ∃ l, l = U.length := ⟨_, rfl⟩
  obtain ⟨r, hr⟩ : ∃ r, r = decide (E = F) := ⟨_, rfl⟩
  simp only [← hlen] at HK1 hr0 hW0 ⊢
  simp only [← hlen'] at HK2 hr1 hW0 ⊢
  rw [← hr]
  have c0 := hr0.cell (i := 0) rfl
  have c1 := hr0.cell (i := 1) rfl
  have HR1 := Lib.hid hr1
  have HB0 := Lib.hid hb0
  have HW0 := Lib.hid hW0
  have HR := Lib.hid hr
  clear hT hU hl hl' hk hk' hb0 hr0 hr1 hW0 hlen hlen' hr hle hle'
  go_enter Tryz.func17, Tryz.ntmps17
  go_upto_region 1 with fail
  rw [← HW0.out]
  go_wp2_with fail
  refine HK1.out.mono ?_
  rintro e W1 ⟨ao1, c1', rfl, hE, hb1⟩
  have hr1 := HR1.out.after hb1
  have d0 := hr1.cell (i := 0) rfl
  have d1 := hr1.cell (i := 1) rfl
  have HE := Lib.hid hE
  have HB1 := Lib.hid hb1
  have HBW := Lib.hid (below_more HB0.out hb1 HB0.out.size)
  clear hE hb1 hr1 c0 c1 HK1
  go_upto_region 2 with fail
  go_wp2_with fail
  refine (HK2.out W1 HB1.out).mono ?_
  rintro e W2 ⟨ao2, c2', rfl, hF, hb2⟩
  have HF := Lib.hid hF
  have HE2 := Lib.hid (HE.out.mono (Nat.le_refl _) hb2)
  have HB2 := Lib.hid (below_more HBW.out hb2 HBW.out.size)
  have HQ := Lib.hid (pairs_equal ao1 ao2 c1' c2' E F W2 HEL.out.1 HEL.out.2 HE2.out hF)
  rw [← HR.out] at HQ
  clear hF hb2 d0 d1 HK2
  cases p
  case false =>
    go_wp2_with fail
    exact bodyPost_ret (v := .bool false) (by simp [results, Tryz.results17, go_sem]) rfl ⟨rfl, HB2.out⟩
  case true =>
  cases q
  case false =>
    go_wp2_with fail
    exact bodyPost_ret (v := .bool false) (by simp [results, Tryz.results17, go_sem]) rfl ⟨rfl, HB2.out⟩
  case true =>
    go_wp2_with fail
    refine HQ.out.mono ?_
    rintro e X ⟨rfl, nq, rfl⟩
    go_wp2
    exact bodyPost_ret (v := .bool r) (by simp [results, Tryz.results17, go_sem]) rfl ⟨by simp, HB2.out.trans ⟨rfl, rfl, rfl, Nat.le_refl _, fun _ _ => rfl⟩⟩
end Go.Proofs.YtbeefabboabfgaaGreat

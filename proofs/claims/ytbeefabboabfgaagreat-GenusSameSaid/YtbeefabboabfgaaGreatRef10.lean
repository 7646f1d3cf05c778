/- gypsumref10: Vertex, Next, Prev, Edge, Facing, Opp, Corner. gypsumref10: Facing, Opp, Corner. gypsumref14.loops: the walk. -/
import Derived.Test.YtbeefabboabfgaaGreatFaceLaw
import Derived.Test.YtbeefabboabfgaaGreatCmpW
import Derived.Test.YtbeefabboabfgaaGreatGenusA
import Derived.ChangeKeysEq
import Derived.Laws.StructEq
import Derived.Deep.RegionHeld3
import Derived.Deep.DeepCutAuto
import Derived.BigQuiet
import Derived.Test.YtbeefabboabfgaaGreatCycLaw
namespace Go.Proofs.YtbeefabboabfgaaGreat
set_option linter.unusedVariables false
set_option linter.unusedSimpArgs false
open Go.RowKit
set_option maxHeartbeats 400000 in
theorem next10 (c : Nat) (w : World) (hc : c ≤ 100000) :
    Calls Tryz.prog 87 #[.int .i64 (c : Int)] w fun e w' => e = .returned (.int .i64 (nxn c : Nat)) ∧ w = w' := by
  by_cases h : c % 3 = 2
  · have h1 : ((c : Int) % 3 == 2) = true := by simp; omega
    have h2 : (c : Int) - 2 = (nxn c : Nat) := by unfold nxn; omega
    have hc2 : 2 ≤ c := by omega
    clear h
    go_enter Tryz.func87, Tryz.ntmps87
    go_wp2
    go_ret
    exact ⟨rfl, rfl⟩
  · have h1 : ((c : Int) % 3 == 2) = false := by simp; omega
    have h2 : (c : Int) + 1 = (nxn c : Nat) := by unfold nxn; omega
    clear h
    go_enter Tryz.func87, Tryz.ntmps87
    go_wp2
    go_ret
    exact ⟨rfl, rfl⟩
set_option maxHeartbeats 400000 in
theorem prev10 (c : Nat) (w : World) (hc : c ≤ 100000) :
    Calls Tryz.prog 88 #[.int .i64 (c : Int)] w fun e w' => e = .returned (.int .i64 (pvn c : Nat)) ∧ w = w' := by
  by_cases h : c % 3 = 0
  · have h1 : ((c : Int) % 3 == 0) = true := by simp; omega
    have h2 : (c : Int) + 2 = (pvn c : Nat) := by unfold pvn; omega
    clear h
    go_enter Tryz.func88, Tryz.ntmps88
    go_wp2
    go_ret
    exact ⟨rfl, rfl⟩
  · have h1 : ((c : Int) % 3 == 0) = false := by simp; omega
    have h2 : (c : Int) - 1 = (pvn c : Nat) := by unfold pvn; omega
    have hc2 : 1 ≤ c := by omega
    clear h
    go_enter Tryz.func88, Tryz.ntmps88
    go_wp2
    go_ret
    exact ⟨rfl, rfl⟩
set_option maxHeartbeats 400000 in
theorem v10 (N : Int) (ao : Option Addr) (cap : Nat) (T : List Tr) (c : Nat) (w : World) (hT : TrisAt w ao T) (hl : T.length ≤ 10000) (hc : c < 3 * T.length) :
    Calls Tryz.prog 63 #[.agg #[.int .i64 N, .slice ao T.length cap], .int .i64 (c : Int)] w fun e w' => e = .returned (.int .i64 (vt T (c : Nat))) ∧ Below w.heap.size w w' := by
  obtain ⟨g, off, rfl, hcell, hg⟩ := hT.at (i := c / 3) (j := c % 3) (by omega) (by omega)
  obtain ⟨v, hv⟩ : ∃ v, v = tg (T! T (c / 3)) (c % 3) := ⟨_, rfl⟩
  obtain ⟨len, hlen⟩ : ∃ n, n = T.length := ⟨_, rfl⟩
  have e0 : vt T ((c : Nat) : Int) = v := by rw [hv]; rfl
  rw [e0]
  rw [← hv] at hcell
  rw [← hlen] at hl hc ⊢
  have h3 : (c : Int) / 3 = ((c / 3 : Nat) : Int) := by omega
  have h4 : (c : Int) % 3 = ((c % 3 : Nat) : Int) := by omega
  obtain ⟨i, hi⟩ : ∃ i, i = c / 3 := ⟨_, rfl⟩
  obtain ⟨j, hj⟩ : ∃ j, j = c % 3 := ⟨_, rfl⟩
  rw [← hi] at h3 hcell
  rw [← hj] at h4 hcell
  have hil : i < len := by omega
  have hj3 : j < 3 := by omega
  have hc' := ((Below.refl w.heap.size w).alloc (Nat.le_refl _) (.cells #[.int .i64 N, .slice (some ⟨g, off, none⟩) len cap] 24)).cell (p := ⟨g, off + i * 3 + j, none⟩) hg
  rw [hcell] at hc'
  clear hv hlen hT e0 hi hj
  go_enter Tryz.func63, Tryz.ntmps63
  go_wp2
  go_ret
  exact ⟨rfl, (Below.refl _ _).alloc (Nat.le_refl _) _⟩
set_option maxRecDepth 100000 in
set_option maxHeartbeats 1500000 in
theorem edge10 (N : Int) (ao : Option Addr) (cap : Nat) (T : List Tr) (c : Nat) (w : World) (hT : TrisAt w ao T) (hl : T.length ≤ 10000) (hc : c < 3 * T.length) :
    Calls Tryz.prog 64 #[.agg #[.int .i64 N, .slice ao T.length cap], .int .i64 (c : Int)] w fun e w' => e = .returned (.agg #[.int .i64 (vt T (nxn c : Nat)), .int .i64 (vt T (pvn c : Nat))]) ∧ Below w.heap.size w w' := by
  obtain ⟨W0, hW0⟩ : ∃ W0, W0 = (w.alloc (.cells #[.int .i64 N, .slice ao T.length cap] 24)).alloc (.cells #[.int .i64 0, .int .i64 0] 81) := ⟨_, rfl⟩
  have hb0 : Below w.heap.size w W0 := by rw [hW0]; exact ((Below.refl _ _).alloc (Nat.le_refl _) _).alloc (by simp) _
  have hr0 : RowIs W0 w.heap.size 24 [.int .i64 N, .slice ao T.length cap] := by rw [hW0]; exact (RowIs.made w 24 [.int .i64 N, .slice ao T.length cap]).alloc _
  have hr1 : RowIs W0 (w.heap.size + 1) 81 [.int .i64 0, .int .i64 0] := by rw [hW0]; exact RowIs.made' _ _ [.int .i64 0, .int .i64 0] _ (by simp)
  have hT0 := hT.mono (Nat.le_refl _) hb0
  obtain ⟨p, hp⟩ : ∃ p, p = vt T (nxn c : Nat) := ⟨_, rfl⟩
  obtain ⟨q, hq⟩ : ∃ q, q = vt T (pvn c : Nat) := ⟨_, rfl⟩
  obtain ⟨nc, hnc⟩ : ∃ x, x = nxn c := ⟨_, rfl⟩
  obtain ⟨pc, hpc⟩ : ∃ x, x = pvn c := ⟨_, rfl⟩
  have HN := Lib.hid (show ∀ w', Calls Tryz.prog 87 #[.int .i64 (c : Int)] w' fun e w'' => e = .returned (.int .i64 (nc : Int)) ∧ w' = w'' from fun w' => by rw [hnc]; exact next10 c w' (by omega))
  have HP := Lib.hid (show ∀ w', Calls Tryz.prog 88 #[.int .i64 (c : Int)] w' fun e w'' => e = .returned (.int .i64 (pc : Int)) ∧ w' = w'' from fun w' => by rw [hpc]; exact prev10 c w' (by omega))
  have HV1 := Lib.hid (show ∀ w', Hid (Below W0.heap.size W0 w') → Calls Tryz.prog 63 #[.agg #[.int .i64 N, .slice ao T.length cap], .int .i64 (nc : Int)] w' fun e w'' => e = .returned (.int .i64 p) ∧ Hid (Below W0.heap.size W0 w'') from fun w' h => by
    rw [hp, hnc]
    exact (v10 N ao cap T (nxn c) w' (hT0.mono (Nat.le_refl _) h.out) hl (nxn_lt hc)).mono fun e w'' h2 => ⟨h2.1, below_more h.out h2.2 h.out.size⟩)
  have HV2 := Lib.hid (show ∀ w', Hid (Below W0.heap.size W0 w') → Calls Tryz.prog 63 #[.agg #[.int .i64 N, .slice ao T.length cap], .int .i64 (pc : Int)] w' fun e w'' => e = .returned (.int .i64 q) ∧ Hid (Below W0.heap.size W0 w'') from fun w' h => by
    rw [hq, hpc]
    exact (v10 N ao cap T (pvn c) w' (hT0.mono (Nat.le_refl _) h.out) hl (pvn_lt hc)).mono fun e w'' h2 => ⟨h2.1, below_more h.out h2.2 h.out.size⟩)
  have HK := Lib.hid (show ∀ w', Hid (Below W0.heap.size W0 w') → w'.cell? ⟨w.heap.size, 0, none⟩ = some (.int .i64 N) ∧ w'.cell? ⟨w.heap.size, 1, none⟩ = some (.slice ao T.length cap) from fun w' h => ⟨(hr0.after h.out).cell (i := 0) rfl, (hr0.after h.out).cell (i := 1) rfl⟩)
  have HR1 := Lib.hid hr1
  have HK2 := Lib.hid (show ∀ w', Hid (Below W0.heap.size W0 w') → ∀ x y : Value, ((w'.setCell ⟨w.heap.size + 1, 0, none⟩ x).setCell ⟨w.heap.size + 1, 1, none⟩ y).cell? ⟨w.heap.size, 0, none⟩ = some (.int .i64 N) ∧ ((w'.setCell ⟨w.heap.size + 1, 0, none⟩ x).setCell ⟨w.heap.size + 1, 1, none⟩ y).cell? ⟨w.heap.size, 1, none⟩ = some (.slice ao T.length cap) from fun w' h x y => by
    have hk := ((hr0.after h.out).other (p := ⟨w.heap.size + 1, 0, none⟩) (by simp) x).other (p := ⟨w.heap.size + 1, 1, none⟩) (by simp) y
    exact ⟨hk.cell (i := 0) rfl, hk.cell (i := 1) rfl⟩)
  have HB0 := Lib.hid hb0
  have HW0 := Lib.hid hW0
  have HRF := Lib.hid (Below.refl W0.heap.size W0)
  have HD0 := Lib.hid (show Below W0.heap.size W0 W0.drew from ⟨rfl, rfl, rfl, Nat.le_refl _, fun _ _ => rfl⟩)
  obtain ⟨len, hlen⟩ : ∃ n, n = T.length := ⟨_, rfl⟩
  rw [← hlen] at HV1 HV2 HK HW0 hl ⊢
  simp only [← hlen] at HK2
  rw [← hp, ← hq]
  obtain ⟨xb, hxb⟩ : ∃ x, x = w.heap.size := ⟨_, rfl⟩
  rw [← hxb] at HK HR1
  simp only [← hxb] at HK2
  have HXB := Lib.hid hxb
  have hc3 : (c : Int) ≤ 30000 := by omega
  clear hT hb0 hr0 hr1 hT0 hW0 hp hq hnc hpc hlen hc hxb
  go_enter Tryz.func64, Tryz.ntmps64
  go_upto_region 1 with fail
  simp only [← HXB.out]
  rw [← HW0.out]
  go_region_held3 (fun w' => w'.cell? ⟨xb, 0, none⟩ = some (.int .i64 N) ∧ w'.cell? ⟨xb, 1, none⟩ = some (.slice ao len cap))
    (first | exact HK.out _ (by assumption) | exact HK2.out _ (by assumption) _ _)
    (first
      | (go_at_call 87; (with_reducible refine (HN.out _).mono ?_); rintro e wN ⟨rfl, rfl⟩)
      | (go_at_call 88; (with_reducible refine (HP.out _).mono ?_); rintro e wP ⟨rfl, rfl⟩)
      | (go_at_call 63; (with_reducible refine (HV1.out _ (by assumption)).mono ?_); rintro e wV ⟨rfl, hV⟩; have hr1 := HR1.out.after hV.out; have r0 := hr1.cell (i := 0) rfl; have r1 := hr1.cell (i := 1) rfl; have f0 := hr1.free 0; have f1 := hr1.free 1; have HRR := Lib.hid hr1)
      | (go_at_call 63; (with_reducible refine (HV2.out _ (by assumption)).mono ?_); rintro e wV ⟨rfl, hV⟩; have hr1 := HR1.out.after hV.out; have r0 := hr1.cell (i := 0) rfl; have r1 := hr1.cell (i := 1) rfl; have f0 := hr1.free 0; have f1 := hr1.free 1; have HRR := Lib.hid hr1))
  all_goals
    go_wp2
    have hx := (HRR.out.set 0 (.int .i64 p)).set 1 (.int .i64 q)
    have x0 := hx.cell (i := 0) rfl
    have x1 := hx.cell (i := 1) rfl
    exact bodyPost_ret (v := .agg #[.int .i64 p, .int .i64 q]) (by simp [results, Tryz.results64, go_sem, x0, x1]) rfl ⟨rfl, ((below_more HB0.out hV.out HB0.out.size).setCell (p := ⟨xb + 1, 0, none⟩) (by have := HXB.out; simp; omega) (.int .i64 p)).setCell (p := ⟨xb + 1, 1, none⟩) (by have := HXB.out; simp; omega) (.int .i64 q)⟩
theorem part_ed (a b : Value) (w : World) : (part 3 #[a, b] 0).run Tryz.prog w = .ok a w ∧ (part 3 #[a, b] 1).run Tryz.prog w = .ok b w := ⟨by kernel_rfl, by kernel_rfl⟩
theorem edge_equal (x y x' y' : Int) (w : World) :
    (Op.equalIn 10000 81 (.agg #[.int .i64 x, .int .i64 y]) (.agg #[.int .i64 x', .int .i64 y'])).run Tryz.prog w = .ok (x == x' && y == y') w := by
  obtain ⟨i0, hi, -⟩ := info_parts info3
  have hc : Tryz.prog.cellsOf 3 = 1 := by kernel_rfl
  have hu : Tryz.prog.underlying 3 = some (.int .i64) := by kernel_rfl
  rw [run_equalIn_array (P := Tryz.prog) w 9999 (t := 81) (e := 3) (n := 2) (i := i0) _ _ (by kernel_rfl) hi, hc]
  simp only [List.range_succ, List.range_zero, List.nil_append, List.cons_append, Op.eqItems, Sem.run_bind, Nat.mul_one, (part_ed _ _ _).1, (part_ed _ _ _).2, Result.andThen_ok, run_equalIn_int (P := Tryz.prog) _ _ _ _ _ _ _ hu]
  by_cases h1 : x = x' <;> by_cases h2 : y = y' <;> simp [h1, h2, (part_ed _ _ _).1, (part_ed _ _ _).2, run_equalIn_int (P := Tryz.prog) _ _ _ _ _ _ _ hu]
/-- What is told of the corner that faces an edge. -/
def FaceP (T : List Tr) (a b r : Int) : Prop := (∃ c : Nat, r = c ∧ c < 3 * T.length ∧ edgeAt T (c : Nat) = (a, b)) ∨ (r = -1 ∧ ∀ c : Nat, c < 3 * T.length → edgeAt T (c : Nat) ≠ (a, b))
set_option maxRecDepth 100000 in
set_option maxHeartbeats 1500000 in
theorem facing10 (N : Int) (ao : Option Addr) (cap : Nat) (T : List Tr) (a b : Int) (w : World) (hT : TrisAt w ao T) (hl : T.length ≤ 10000) :
    Calls Tryz.prog 65 #[.agg #[.int .i64 N, .slice ao T.length cap], .agg #[.int .i64 a, .int .i64 b]] w fun e w' => ∃ r, e = .returned (.int .i64 r) ∧ FaceP T a b r ∧ Below w.heap.size w w' := by
  obtain ⟨W0, hW0⟩ : ∃ W0, W0 = (w.alloc (.cells #[.int .i64 N, .slice ao T.length cap] 24)).alloc (.cells #[.int .i64 a, .int .i64 b] 81) := ⟨_, rfl⟩
  have hb0 : Below w.heap.size w W0 := by rw [hW0]; exact ((Below.refl _ _).alloc (Nat.le_refl _) _).alloc (by simp) _
  have hr0 : RowIs W0 w.heap.size 24 [.int .i64 N, .slice ao T.length cap] := by rw [hW0]; exact (RowIs.made w 24 [.int .i64 N, .slice ao T.length cap]).alloc _
  have hr1 : RowIs W0 (w.heap.size + 1) 81 [.int .i64 a, .int .i64 b] := by rw [hW0]; exact RowIs.made' _ _ [.int .i64 a, .int .i64 b] _ (by simp)
  have HT := Lib.hid (hT.mono (Nat.le_refl _) hb0)
  have HE := Lib.hid (fun (X : World) (c : Nat) (h : TrisAt X ao T) (hc : c < 3 * T.length) => edge10 N ao cap T c X h hl hc)
  obtain ⟨xb, hxb⟩ : ∃ x, x = w.heap.size := ⟨_, rfl⟩
  obtain ⟨len, hlen⟩ : ∃ n, n = T.length := ⟨_, rfl⟩
  obtain ⟨l3, hl3⟩ : ∃ x, x = 3 * len := ⟨_, rfl⟩
  rw [← hlen] at hl hW0 hr0 ⊢
  simp only [← hlen] at HE
  rw [← hxb] at hr0 hr1
  have h3 : (3 : Int) * (len : Int) = (l3 : Int) := by omega
  have hl3' : l3 ≤ 30000 := by omega
  have HL := Lib.hid hlen
  have HL3 := Lib.hid hl3
  have HB0 := Lib.hid hb0
  have HR0 := Lib.hid hr0
  have HR1 := Lib.hid hr1
  have HW0 := Lib.hid hW0
  have HXB := Lib.hid hxb
  clear hT hb0 hr0 hr1 hlen hl3 hW0 hxb
  go_enter Tryz.func65, Tryz.ntmps65
  go_upto_region 1 with fail
  simp only [← HXB.out]
  rw [← HW0.out]
  go_wp2
  go_loopw [5] (fun i ws => ∃ c : Nat, c ≤ l3 ∧ i = .int .i64 c ∧ (∀ d : Nat, d < c → edgeAt T (d : Nat) ≠ (a, b)) ∧ Below W0.heap.size W0 ws) (fun i _ => l3 - (intOf i).toNat)
  case atStart => exact ⟨0, by omega, rfl, fun d h => by omega, Below.refl _ _⟩
  case round =>
  obtain ⟨c, hc, rfl, hno, hb⟩ := hrel
  obtain ⟨X, rfl⟩ : ∃ X : World, X = wr := ⟨_, rfl⟩
  have hbox := HR0.out.after hb
  have hbox1 := HR1.out.after hb
  have c0 := hbox.cell (i := 0) rfl
  have c1 := hbox.cell (i := 1) rfl
  have HNO := Lib.hid hno
  have HB := Lib.hid hb
  by_cases hlt : c < l3
  case neg =>
    obtain rfl : l3 = c := by omega
    have HF := Lib.hid (show FaceP T a b (-1) from .inr ⟨rfl, fun d hd => HNO.out d (by have := HL3.out; have := HL.out; omega)⟩)
    have HBF := Lib.hid (below_more HB0.out hb HB0.out.size)
    clear hno hb hbox hbox1
    go_wp2
    go_ret
    exact ⟨-1, rfl, HF.out, HBF.out⟩
  case pos =>
  have hcT : c < 3 * T.length := by have := HL3.out; have := HL.out; omega
  obtain ⟨p, hp⟩ : ∃ p, p = vt T (nxn c : Nat) := ⟨_, rfl⟩
  obtain ⟨q, hq⟩ : ∃ q, q = vt T (pvn c : Nat) := ⟨_, rfl⟩
  have hed : edgeAt T (c : Nat) = (p, q) := by rw [edgeAt_nat, hp, hq]
  have HED := Lib.hid hed
  have HK := Lib.hid (show ∀ w', Hid (Below X.heap.size X w') → w'.cell? ⟨xb, 0, none⟩ = some (.int .i64 N) ∧ w'.cell? ⟨xb, 1, none⟩ = some (.slice ao len cap) ∧ w'.cell? ⟨xb + 1, 0, none⟩ = some (.int .i64 a) ∧ w'.cell? ⟨xb + 1, 1, none⟩ = some (.int .i64 b) from fun w' h => ⟨(hbox.after h.out).cell (i := 0) rfl, (hbox.after h.out).cell (i := 1) rfl, (hbox1.after h.out).cell (i := 0) rfl, (hbox1.after h.out).cell (i := 1) rfl⟩)
  have HEC := Lib.hid (show ∀ w', Hid (Below X.heap.size X w') → Calls Tryz.prog 64 #[.agg #[.int .i64 N, .slice ao len cap], .int .i64 (c : Int)] w' fun e w'' => e = .returned (.agg #[.int .i64 p, .int .i64 q]) ∧ Hid (Below X.heap.size X w'') from fun w' h => by
    rw [hp, hq]
    exact (HE.out w' c (HT.out.mono (Nat.le_refl _) (below_more hb h.out hb.size)) (by have := HL3.out; omega)).mono fun e w'' h2 => ⟨h2.1, below_more h.out h2.2 h.out.size⟩)
  have HRF := Lib.hid (Below.refl X.heap.size X)
  have HDR := Lib.hid (show Below X.heap.size X X.drew from ⟨rfl, rfl, rfl, Nat.le_refl _, fun _ _ => rfl⟩)
  obtain ⟨t, ht⟩ : ∃ t, t = (p == a && q == b) := ⟨_, rfl⟩
  have hte : ∀ w, (Op.equalIn 10000 81 (.agg #[.int .i64 p, .int .i64 q]) (.agg #[.int .i64 a, .int .i64 b])).run Tryz.prog w = .ok t w := fun w => by rw [ht]; exact edge_equal p q a b w
  have HTT := Lib.hid (show (t = false → (p, q) ≠ (a, b)) ∧ (t = true → (p, q) = (a, b)) from ⟨fun h e => by simp only [Prod.mk.injEq] at e; rw [h, e.1, e.2] at ht; simp at ht, fun h => by
    rw [h] at ht
    simp only [Bool.true_eq, Bool.and_eq_true, beq_iff_eq] at ht
    rw [ht.1, ht.2]⟩)
  clear hp hq hed hno hb hbox hbox1 HE c0 c1 ht
  cases t
  case false =>
    have HNO2 := Lib.hid (show ∀ d : Nat, d < c + 1 → edgeAt T (d : Nat) ≠ (a, b) from fun d hd => by
      by_cases e : d = c
      · subst e; rw [HED.out]; exact HTT.out.1 rfl
      · exact HNO.out d (by omega))
    have hcc := (HK.out X HRF).1
    have hcd := (HK.out X HRF).2.1
    go_upto_region 4 with fail
    clear hcc hcd
    go_region_held3 (fun w' => w'.cell? ⟨xb, 0, none⟩ = some (.int .i64 N) ∧ w'.cell? ⟨xb, 1, none⟩ = some (.slice ao len cap) ∧ w'.cell? ⟨xb + 1, 0, none⟩ = some (.int .i64 a) ∧ w'.cell? ⟨xb + 1, 1, none⟩ = some (.int .i64 b))
      (exact HK.out _ (by assumption))
      (first | (go_at_call 64; (with_reducible refine (HEC.out _ (by assumption)).mono ?_); rintro e wE ⟨rfl, hE⟩))
    all_goals
      have HBF := Lib.hid (below_more HB.out hE.out HB.out.size)
      go_wp2
      go_roundw
      case rel => exact ⟨c + 1, by omega, by go_num, HNO2.out, HBF.out⟩
      case measure => simp [intOf]; omega
  case true =>
    have HF := Lib.hid (show FaceP T a b (c : Int) from .inl ⟨c, rfl, hcT, HED.out.trans (HTT.out.2 rfl)⟩)
    have hcc := (HK.out X HRF).1
    have hcd := (HK.out X HRF).2.1
    go_upto_region 4 with fail
    clear hcc hcd
    go_region_held3 (fun w' => w'.cell? ⟨xb, 0, none⟩ = some (.int .i64 N) ∧ w'.cell? ⟨xb, 1, none⟩ = some (.slice ao len cap) ∧ w'.cell? ⟨xb + 1, 0, none⟩ = some (.int .i64 a) ∧ w'.cell? ⟨xb + 1, 1, none⟩ = some (.int .i64 b))
      (exact HK.out _ (by assumption))
      (first | (go_at_call 64; (with_reducible refine (HEC.out _ (by assumption)).mono ?_); rintro e wE ⟨rfl, hE⟩))
    all_goals
      have HBF := Lib.hid (below_more HB0.out (below_more HB.out hE.out HB.out.size) HB0.out.size)
      go_wp2
      go_ret
      exact ⟨c, rfl, HF.out, HBF.out⟩
theorem Surf.face10 {N : Int} {T : List Tr} (hs : Surf N T) {a b r : Int} (h : FaceP T a b r) : r = facing T (a, b) := by
  rcases h with ⟨c, rfl, hc, he⟩ | ⟨rfl, hno⟩
  · obtain ⟨d, hd, hdl, hde⟩ := facing_some (facing_of hc he)
    rw [hd]
    have := hs.edge_c hc hdl (he.trans hde.symm)
    omega
  · rcases facing_lt T (a, b) with h | h
    · by_cases h0 : 0 ≤ facing T (a, b)
      · obtain ⟨d, hd, hdl, hde⟩ := facing_some h0
        exact absurd hde (hno d hdl)
      · unfold facing at h h0 ⊢
        unfold faceFrom at h h0 ⊢
        cases hh : (List.range' 0 (3 * T.length - 0)).find? fun c : Nat => edgeAt T c == (a, b) with
        | none => rfl
        | some v => rw [hh] at h0; simp at h0
    · exact h.symm
set_option maxRecDepth 100000 in
set_option maxHeartbeats 1500000 in
theorem opp10 (N : Int) (ao : Option Addr) (cap : Nat) (T : List Tr) (c : Nat) (w : World) (hT : TrisAt w ao T) (hs : Surf N T) (hc : c < 3 * T.length) :
    Calls Tryz.prog 37 #[.agg #[.int .i64 N, .slice ao T.length cap], .int .i64 (c : Int)] w fun e w' => e = .returned (.int .i64 (opp T (c : Nat))) ∧ Below w.heap.size w w' := by
  have hl : T.length ≤ 10000 := by have := hs.t1; omega
  obtain ⟨W0, hW0⟩ : ∃ W0, W0 = w.alloc (.cells #[.int .i64 N, .slice ao T.length cap] 24) := ⟨_, rfl⟩
  have hb0 : Below w.heap.size w W0 := by rw [hW0]; exact (Below.refl _ _).alloc (Nat.le_refl _) _
  have hr0 : RowIs W0 w.heap.size 24 [.int .i64 N, .slice ao T.length cap] := by rw [hW0]; exact RowIs.made w 24 [.int .i64 N, .slice ao T.length cap]
  have hT0 := hT.mono (Nat.le_refl _) hb0
  obtain ⟨p, hp⟩ : ∃ p, p = vt T (nxn c : Nat) := ⟨_, rfl⟩
  obtain ⟨q, hq⟩ : ∃ q, q = vt T (pvn c : Nat) := ⟨_, rfl⟩
  obtain ⟨r, hr⟩ : ∃ r, r = opp T (c : Nat) := ⟨_, rfl⟩
  have HE := Lib.hid (edge10 N ao cap T c W0 hT0 hl hc)
  have HFC := Lib.hid (show ∀ w', Below W0.heap.size W0 w' → Calls Tryz.prog 65 #[.agg #[.int .i64 N, .slice ao T.length cap], .agg #[.int .i64 q, .int .i64 p]] w' fun e w'' => e = .returned (.int .i64 r) ∧ Below w'.heap.size w' w'' from fun w' h =>
    (facing10 N ao cap T q p w' (hT0.mono (Nat.le_refl _) h) hl).mono fun e w'' ⟨r', he, hf, h2⟩ => ⟨by rw [he, hs.face10 hf, hr, opp_nat, hp, hq], h2⟩)
  rw [← hp, ← hq] at HE
  have HR0 := Lib.hid hr0
  have HB0 := Lib.hid hb0
  have HW0 := Lib.hid hW0
  have c0 := hr0.cell (i := 0) rfl
  have c1 := hr0.cell (i := 1) rfl
  obtain ⟨len, hlen⟩ : ∃ n, n = T.length := ⟨_, rfl⟩
  simp only [← hlen] at HE HFC HR0 HW0 c0 c1 ⊢
  rw [← hr]
  clear hT hb0 hr0 hT0 hW0 hp hq hr hlen hs hc hl
  go_enter Tryz.func37, Tryz.ntmps37
  go_upto_region 1 with fail
  rw [← HW0.out]
  go_wp2_with fail
  refine HE.out.mono ?_
  rintro e w1 ⟨rfl, hb1⟩
  clear c0 c1
  have hr1 := HR0.out.after hb1
  have hlt := HR0.out.lt
  have hsz := hb1.size
  obtain ⟨W2, hW2⟩ : ∃ W2, W2 = w1.alloc (.cells #[.int .i64 p, .int .i64 q] 81) := ⟨_, rfl⟩
  have hb2 : Below W0.heap.size W0 W2 := by
    rw [hW2]
    exact hb1.alloc hsz _
  have k0 := (HR0.out.after hb2).cell (i := 0) rfl
  have k1 := (HR0.out.after hb2).cell (i := 1) rfl
  have hre : RowIs W2 w1.heap.size 81 [.int .i64 p, .int .i64 q] := by
    rw [hW2]
    exact RowIs.made w1 81 [.int .i64 p, .int .i64 q]
  have e0 := hre.cell (i := 0) rfl
  have e1 := hre.cell (i := 1) rfl
  have HW2 := Lib.hid hW2
  have HB2 := Lib.hid hb2
  clear hb1 hr1 hlt hsz hW2 hb2 hre
  go_upto_region 2 with fail
  rw [← HW2.out]
  go_wp2_with fail
  refine (HFC.out _ HB2.out).mono ?_
  rintro e w3 ⟨rfl, hb3⟩
  have HBF := Lib.hid (below_more HB0.out (below_more HB2.out hb3 HB2.out.size) HB0.out.size)
  clear k0 k1 e0 e1 hb3
  go_wp2
  go_ret
  exact ⟨rfl, HBF.out⟩
/-- What is told of the least corner at a vertex. -/
def FirstP (T : List Tr) (v r : Int) : Prop := (∃ c : Nat, r = c ∧ c < 3 * T.length ∧ vt T (c : Nat) = v) ∨ (r = -1 ∧ ∀ c : Nat, c < 3 * T.length → vt T (c : Nat) ≠ v)
set_option maxRecDepth 100000 in
set_option maxHeartbeats 1500000 in
theorem corner10 (N : Int) (ao : Option Addr) (cap : Nat) (T : List Tr) (v : Int) (w : World) (hT : TrisAt w ao T) (hl : T.length ≤ 10000) :
    Calls Tryz.prog 36 #[.agg #[.int .i64 N, .slice ao T.length cap], .int .i64 v] w fun e w' => ∃ r, e = .returned (.int .i64 r) ∧ FirstP T v r ∧ Below w.heap.size w w' := by
  obtain ⟨W0, hW0⟩ : ∃ W0, W0 = w.alloc (.cells #[.int .i64 N, .slice ao T.length cap] 24) := ⟨_, rfl⟩
  have hb0 : Below w.heap.size w W0 := by rw [hW0]; exact (Below.refl _ _).alloc (Nat.le_refl _) _
  have hr0 : RowIs W0 w.heap.size 24 [.int .i64 N, .slice ao T.length cap] := by rw [hW0]; exact RowIs.made w 24 [.int .i64 N, .slice ao T.length cap]
  have HT := Lib.hid (hT.mono (Nat.le_refl _) hb0)
  have HV := Lib.hid (fun (X : World) (c : Nat) (h : TrisAt X ao T) (hc : c < 3 * T.length) => v10 N ao cap T c X h hl hc)
  obtain ⟨len, hlen⟩ : ∃ n, n = T.length := ⟨_, rfl⟩
  obtain ⟨l3, hl3⟩ : ∃ x, x = 3 * len := ⟨_, rfl⟩
  rw [← hlen] at hl hW0 hr0 ⊢
  simp only [← hlen] at HV
  have h3 : (3 : Int) * (len : Int) = (l3 : Int) := by omega
  have hl3' : l3 ≤ 30000 := by omega
  have HL := Lib.hid hlen
  have HL3 := Lib.hid hl3
  have HB0 := Lib.hid hb0
  have HR0 := Lib.hid hr0
  have HW0 := Lib.hid hW0
  clear hT hb0 hr0 hlen hl3 hW0
  go_enter Tryz.func36, Tryz.ntmps36
  go_upto_region 1 with fail
  rw [← HW0.out]
  go_wp2
  go_loopw [5] (fun i ws => ∃ c : Nat, c ≤ l3 ∧ i = .int .i64 c ∧ (∀ d : Nat, d < c → vt T (d : Nat) ≠ v) ∧ Below W0.heap.size W0 ws) (fun i _ => l3 - (intOf i).toNat)
  case atStart => exact ⟨0, by omega, rfl, fun d h => by omega, Below.refl _ _⟩
  case round =>
  obtain ⟨c, hc, rfl, hno, hb⟩ := hrel
  obtain ⟨X, rfl⟩ : ∃ X : World, X = wr := ⟨_, rfl⟩
  have hbox := HR0.out.after hb
  have c0 := hbox.cell (i := 0) rfl
  have c1 := hbox.cell (i := 1) rfl
  have HNO := Lib.hid hno
  have HB := Lib.hid hb
  by_cases hlt : c < l3
  case neg =>
    obtain rfl : l3 = c := by omega
    have HF := Lib.hid (show FirstP T v (-1) from .inr ⟨rfl, fun d hd => HNO.out d (by have := HL3.out; have := HL.out; omega)⟩)
    have HBF := Lib.hid (below_more HB0.out hb HB0.out.size)
    clear hno hb hbox
    go_wp2
    go_ret
    exact ⟨-1, rfl, HF.out, HBF.out⟩
  case pos =>
  have hcT : c < 3 * T.length := by have := HL3.out; have := HL.out; omega
  have HVC := Lib.hid (HV.out X c (HT.out.mono (Nat.le_refl _) hb) (by have := HL3.out; omega))
  obtain ⟨x, hx⟩ : ∃ x, x = vt T (c : Nat) := ⟨_, rfl⟩
  rw [← hx] at HVC
  have HX := Lib.hid hx
  clear hno hb hbox hx HV
  by_cases hxv : x = v
  · subst hxv
    have HF := Lib.hid (show FirstP T x (c : Int) from .inl ⟨c, rfl, hcT, HX.out.symm⟩)
    go_wp2_with fail
    refine HVC.out.mono ?_
    rintro e w3 ⟨rfl, hb3⟩
    have HBF := Lib.hid (below_more HB0.out (below_more HB.out hb3 HB.out.size) HB0.out.size)
    clear c0 c1 hb3
    go_wp2
    go_ret
    exact ⟨c, rfl, HF.out, HBF.out⟩
  · have d0 : (x == v) = false := by simpa using hxv
    have HNO2 := Lib.hid (show ∀ d : Nat, d < c + 1 → vt T (d : Nat) ≠ v from fun d hd => by
      by_cases e : d = c
      · subst e; rw [← HX.out]; exact hxv
      · exact HNO.out d (by omega))
    go_wp2_with fail
    refine HVC.out.mono ?_
    rintro e w3 ⟨rfl, hb3⟩
    have HBF := Lib.hid (below_more HB.out hb3 HB.out.size)
    clear c0 c1 hb3 hxv
    go_wp2
    go_roundw
    case rel => exact ⟨c + 1, by omega, by go_num, HNO2.out, HBF.out⟩
    case measure => simp [intOf]; omega
def rdB (X : World) (g : Nat) (j : Nat) : Bool := match X.cell? ⟨g, j, none⟩ with
  | some (.bool b) => b
  | _ => false
theorem bv_rd {X : World} {g m : Nat} {G : Nat → Bool} (h : RowIs X g 4 (bv G m)) : ungone m (rdB X g) = ungone m G := ungone_congr fun i hi => by
  unfold rdB
  rw [h.cell (bv_get G hi)]
set_option maxRecDepth 100000 in
set_option maxHeartbeats 4000000 in
theorem loops10 (N : Nat) (ao : Option Addr) (cap : Nat) (T : List Tr) (L : Nat → Int) (bo : Option Addr) (cb : Nat) (k : Nat) (w : World) (hT : TrisAt w ao T) (hs : Surf N T) (hL : IsShells (Adj T) T.length L) (hI : IntsAt w bo (il L T.length)) :
    Calls Tryz.prog 38 #[.agg #[.int .i64 (N : Int), .slice ao T.length cap], .slice bo T.length cb, .int .i64 (k : Int)] w fun e w' => e = .returned (.int .i64 (nB T L N k : Int)) ∧ Below w.heap.size w w' := by
  obtain ⟨i0, hi, hz0, hz1, hz2⟩ := info_parts infoEdge
  obtain ⟨j0, hj, hy0, hy1, hy2⟩ := info_parts info4
  have hl : T.length ≤ 8192 := by have := hs.t1; omega
  obtain ⟨W0, hW0⟩ : ∃ W0, W0 = w.alloc (.cells #[.int .i64 (N : Int), .slice ao T.length cap] 24) := ⟨_, rfl⟩
  have hb0 : Below w.heap.size w W0 := by rw [hW0]; exact (Below.refl _ _).alloc (Nat.le_refl _) _
  have hr0 : RowIs W0 w.heap.size 24 [.int .i64 (N : Int), .slice ao T.length cap] := by rw [hW0]; exact RowIs.made w 24 [.int .i64 (N : Int), .slice ao T.length cap]
  have HT := Lib.hid (hT.mono (Nat.le_refl _) hb0)
  have HI := Lib.hid (hI.mono (Nat.le_refl _) hb0)
  have HO := Lib.hid (fun (X : World) (c : Nat) (h : TrisAt X ao T) (hc : c < 3 * T.length) => opp10 (N : Int) ao cap T c X h hs hc)
  have HE := Lib.hid (fun (X : World) (c : Nat) (h : TrisAt X ao T) (hc : c < 3 * T.length) => edge10 (N : Int) ao cap T c X h (by omega) hc)
  have HRES := Lib.hid (loops_cyc (k := k) hs hL)
  have HPERM := Lib.hid (next_perm (k := k) hs hL)
  obtain ⟨len, hlen⟩ : ∃ n, n = T.length := ⟨_, rfl⟩
  obtain ⟨l3, hl3⟩ : ∃ x, x = 3 * len := ⟨_, rfl⟩
  simp only [← hlen] at hl hW0 hr0 HO HE HI ⊢
  have h3 : (3 : Int) * (len : Int) = (l3 : Int) := by omega
  have hl3' : l3 ≤ 30000 := by omega
  have HL := Lib.hid hlen
  have HL3 := Lib.hid hl3
  have HB0 := Lib.hid hb0
  have HR0 := Lib.hid hr0
  have HW0 := Lib.hid hW0
  obtain ⟨res, hres⟩ : ∃ x, x = nB T L N k := ⟨_, rfl⟩
  rw [← hres] at HRES ⊢
  clear hT hb0 hr0 hlen hl3 hW0 hs hL hI hres
  go_enter Tryz.func38, Tryz.ntmps38
  go_upto_region 1 with fail
  rw [← HW0.out]
  go_wp2
  go_loopw [7, 8] (fun u i ws => ∃ c : Nat, c ≤ l3 ∧ i = .int .i64 c ∧ ws.ownsRow W0.heap.size 81 2 u (edgesP T L k c).length (ecells (edgesP T L k c)) ∧ Below W0.heap.size W0 ws) (fun _ i _ => l3 - (intOf i).toNat)
  case atStart =>
    refine ⟨0, by omega, rfl, ?_, ?_⟩
    · first
      | exact World.ownsRow_nil _ _ _ _
      | exact RowIs.owns (RowIs.made W0 81 []) (Nat.le_refl _) (by simp [edgesP]) (by unfold maxLen; simp [edgesP])
    · first
      | exact Below.refl _ _
      | exact (Below.refl _ _).alloc (Nat.le_refl _) _
  case round =>
  obtain ⟨c, hc, rfl, hown, hb⟩ := hrel
  obtain ⟨X, rfl⟩ : ∃ X : World, X = wr := ⟨_, rfl⟩
  have hbox := HR0.out.after hb
  have c0 := hbox.cell (i := 0) rfl
  have c1 := hbox.cell (i := 1) rfl
  have HOWN := Lib.hid hown
  have HB := Lib.hid hb
  clear hown hb hbox
  by_cases hcl : c < l3
  case pos =>
    obtain ⟨c3, hc3⟩ : ∃ x, x = c / 3 := ⟨_, rfl⟩
    obtain ⟨b, off, y, hbo, hy, cy, hbl, hbl2⟩ := HI.out.get (Nat.le_refl _) HB.out (i := c3) (by rw [il_length]; omega)
    have hyL : y = L (c / 3) := by rw [← hy.out, il_get L (by omega), hc3]
    subst hbo
    have hq3 : (c : Int) / 3 = (c3 : Int) := by omega
    have hc30 : (0 : Int) ≤ (c3 : Int) := by omega
    have hc31 : (c3 : Int) < (len : Int) := by omega
    have hcT : c < 3 * T.length := by rw [← HL.out]; have := HL3.out; omega
    have HYL := Lib.hid hyL
    clear hy hc3 hyL
    by_cases h1 : y = (k : Int)
    case neg =>
      have d0 : (y == (k : Int)) = false := by simpa using h1
      have HN := Lib.hid (show edgesP T L k (c + 1) = edgesP T L k c from edgesP_no fun h => h1 (by rw [HYL.out]; exact h.1))
      clear h1
      go_wp2
      go_roundw
      case rel => exact ⟨c + 1, by omega, by go_num, by rw [HN.out]; exact HOWN.out, HB.out⟩
      case measure => simp [intOf]; omega
    case pos =>
    subst h1
    have HOC := Lib.hid (HO.out X c (HT.out.mono (Nat.le_refl _) HB.out) (by have := HL3.out; omega))
    obtain ⟨o, ho⟩ : ∃ o, o = opp T (c : Nat) := ⟨_, rfl⟩
    rw [← ho] at HOC
    have HOE := Lib.hid ho
    clear ho
    by_cases h2 : o < 0
    case neg =>
      have d1 : decide (o < 0) = false := by simpa using h2
      have HN := Lib.hid (show edgesP T L k (c + 1) = edgesP T L k c from edgesP_no fun h => h2 (by rw [HOE.out]; exact h.2))
      clear h2
      go_wp2_with fail
      refine HOC.out.mono ?_
      rintro e X4 ⟨rfl, hb4⟩
      have HO4 := Lib.hid (owns_below HOWN.out hb4)
      have HB4 := Lib.hid (below_more HB.out hb4 HB.out.size)
      clear c0 c1 cy hb4
      go_wp2
      go_roundw
      case rel => exact ⟨c + 1, by omega, by go_num, by rw [HN.out]; exact HO4.out, HB4.out⟩
      case measure => simp [intOf]; omega
    case pos =>
    have d1 : decide (o < 0) = true := by simpa using h2
    obtain ⟨p, hp⟩ : ∃ p, p = vt T (nxn c : Nat) := ⟨_, rfl⟩
    obtain ⟨q, hq⟩ : ∃ q, q = vt T (pvn c : Nat) := ⟨_, rfl⟩
    have HN := Lib.hid (show edgesP T L k (c + 1) = edgesP T L k c ++ [(p, q)] from by
      rw [edgesP_yes HYL.out.symm (by rw [← HOE.out]; exact h2), edgeAt_nat, hp, hq])
    have HLE := Lib.hid (edgesP_le T L k c)
    clear h2
    go_wp2_with fail
    refine HOC.out.mono ?_
    rintro e X4 ⟨rfl, hb4⟩
    have HO4 := Lib.hid (owns_below HOWN.out hb4)
    have HB4 := Lib.hid (below_more HB.out hb4 HB.out.size)
    have hb4' := HR0.out.after HB4.out
    have k0 := hb4'.cell (i := 0) rfl
    have k1 := hb4'.cell (i := 1) rfl
    have HEC := Lib.hid (HE.out X4 c (HT.out.mono (Nat.le_refl _) HB4.out) (by have := HL3.out; omega))
    rw [← hp, ← hq] at HEC
    clear c0 c1 cy hb4 hb4' HOC hp hq
    go_wp2_with fail
    refine HEC.out.mono ?_
    rintro e X5 ⟨rfl, hb5⟩
    have HO5 := Lib.hid (owns_below HO4.out hb5)
    have HB5 := Lib.hid (below_more HB4.out hb5 HB4.out.size)
    have hle := HLE.out
    clear k0 k1 hb5 HEC
    go_wp2_with (at_builtin; refine wpList_append_new _ rfl _ _ 40 rfl W0.heap.size 81 i0 _ 2 16 (by kernel_rfl) hi hz0 hz1 hz2 rfl (by decide) _ _ _ rfl HO5.out _ _ _ rfl (by first | rfl | simp) rfl ?_ ?_ ?_ ?_ ?_)
    all_goals first | rfl | omega | (unfold maxLen; omega) | exact ⟨rfl, rfl⟩ | exact ⟨rfl, rfl, rfl⟩ | exact HB5.out.size | skip
    · intro v' w5 hown5 hbel hgr
      have HW6 := Lib.hid hown5
      have HB6 := Lib.hid (hbel W0.heap.size _ (Nat.le_refl _) HB5.out)
      clear hown5 hbel hgr hle
      go_wp2
      go_roundw
      case rel => exact ⟨c + 1, by omega, by go_num, by
        rw [HN.out, ecells_snoc, List.length_append]
        exact HW6.out, HB6.out⟩
      case measure => simp [intOf]; omega
  case neg =>
  obtain rfl : c = l3 := by omega
  have hD : edgesP T L k c = edgesOf T L k := by rw [HL3.out, HL.out]; rfl
  rw [hD] at HOWN
  have hDl : (edgesOf T L k).length ≤ 30000 := by rw [← hD]; have := edgesP_le T L k c; omega
  clear hD
  obtain ⟨D, hDD⟩ : ∃ D, D = edgesOf T L k := ⟨_, rfl⟩
  rw [← hDD] at HOWN hDl HRES HPERM
  obtain ⟨eo, ec, hu, hE⟩ := owns_edges HOWN.out
  subst hu
  obtain ⟨m, hm⟩ : ∃ m, m = D.length := ⟨_, rfl⟩
  simp only [← hm] at hDl HOWN HPERM HRES ⊢
  have HE := Lib.hid (show ∀ j, j < m → ∃ b off, eo = some ⟨b, off, none⟩ ∧ b < X.heap.size ∧ X.cell? ⟨b, off + j * 2, none⟩ = some (.int .i64 (E! D j).1) ∧ X.cell? ⟨b, off + j * 2 + 1, none⟩ = some (.int .i64 (E! D j).2) from fun j hj => by
    obtain ⟨b, off, h1, h2, h3⟩ := hE (List.ne_nil_of_length_pos (by omega))
    exact ⟨b, off, h1, h2, h3 j (by omega)⟩)
  have HM := Lib.hid hm
  clear hDD hm hE HOWN HI
  go_wp2_with (at_make; refine wpList_make_full _ rfl _ _ _ rfl X.heap.size 4 j0 (.bool false) 1 (by kernel_rfl) hj hy0 hy1 _ _ _ _ m rfl rfl rfl rfl (by rw [hy2]; omega) (by unfold maxLen; omega) (by simp) ?_)
  intro X1 hown hgr
  rw [madeCells_bv] at hown
  have hrow := RowIs.of_owns hown
  have HB1 := Lib.hid (show Below X.heap.size X X1 from (Below.refl _ _).grown hgr (by simp) (by simp))
  have HR := Lib.hid hrow
  clear hown hgr hrow c0 c1
  go_wp2
  go_loopw [9, 11] (fun nn i ws => ∃ (i' : Nat) (G : Nat → Bool), i' ≤ m ∧ i = .int .i64 i' ∧ nn = .int .i64 ((reps (nextI D) (List.range i')).length : Nat) ∧ Hid (RowIs ws X.heap.size 4 (bv G m) ∧ Gone (nextI D) m i' G) ∧ Below X.heap.size X ws) (fun _ i _ => m - (intOf i).toNat)
  case atStart => exact ⟨0, _, by omega, rfl, by first | rfl | simp [reps], ⟨HR.out, Gone.start _ _⟩, HB1.out⟩
  case round =>
  clear HR HB1
  obtain ⟨i', G, hi', rfl, rfl, HS, hb⟩ := hrel
  obtain ⟨X2, rfl⟩ : ∃ X : World, X = wr := ⟨_, rfl⟩
  have HB2 := Lib.hid hb
  clear hb
  have hrl := reps_le (s := nextI D) i'
  by_cases him : i' < m
  case neg =>
    obtain rfl : i' = m := by omega
    have HF := Lib.hid (show (reps (nextI D) (List.range i')).length = res from HRES.out)
    have HBF := Lib.hid (below_more HB0.out (below_more HB.out HB2.out HB.out.size) HB0.out.size)
    go_wp2
    go_ret
    exact ⟨by rw [HF.out]; rfl, HBF.out⟩
  case pos =>
  have cg := HS.out.1.cell (bv_get G him)
  have hi0 : (0 : Int) ≤ (i' : Int) := by omega
  have hi1 : (i' : Int) < (m : Int) := by omega
  cases hg : G i'
  case true =>
    rw [hg] at cg
    have HN := Lib.hid (show (reps (nextI D) (List.range (i' + 1))).length = (reps (nextI D) (List.range i')).length from reps_no fun h => by
      have := (HS.out.2.rep HPERM.out him).2 h
      rw [hg] at this; cases this)
    have HG := Lib.hid (HS.out.2.skip HPERM.out him hg)
    clear hg
    go_wp2
    go_roundw
    case rel => exact ⟨i' + 1, G, by omega, by go_num, by rw [HN.out], ⟨HS.out.1, HG.out⟩, HB2.out⟩
    case measure => simp [intOf]; omega
  case false =>
  rw [hg] at cg
  have HN := Lib.hid (show (reps (nextI D) (List.range (i' + 1))).length = (reps (nextI D) (List.range i')).length + 1 from reps_yes ((HS.out.2.rep HPERM.out him).1 hg))
  have HG := Lib.hid hg
  obtain ⟨rr, hrr⟩ : ∃ rr, rr = (reps (nextI D) (List.range i')).length := ⟨_, rfl⟩
  rw [← hrr] at HN hrl ⊢
  clear hg hrr
  go_wp2
  clear cg
  go_loopw [12] (fun ax ws => ∃ (q : Nat) (a : Nat) (G' : Nat → Bool), ax = .int .i64 a ∧ Hid (a = itf (nextI D) q i' ∧ a < m ∧ RowIs ws X.heap.size 4 (bv G' m) ∧ Going (nextI D) m i' q G G') ∧ Below X.heap.size X ws) (fun _ ws => ungone m (rdB ws X.heap.size))
  case atStart => exact ⟨0, i', G, rfl, ⟨rfl, him, HS.out.1, Going.start _ _ _ _⟩, HB2.out⟩
  case round =>
  have HSG := Lib.hid HS.out.2
  clear HS HB2
  obtain ⟨q, a, G', rfl, HS, hb⟩ := hrel
  obtain ⟨X3, rfl⟩ : ∃ X : World, X = wr := ⟨_, rfl⟩
  have HB2 := Lib.hid hb
  clear hb
  have ham := HS.out.2.1
  have ca := HS.out.2.2.1.cell (bv_get G' ham)
  have fa := HS.out.2.2.1.free a
  have ha0 : (0 : Int) ≤ (a : Int) := by omega
  have ha1 : (a : Int) < (m : Int) := by omega
  cases hga : G' a
  case true =>
    rw [hga] at ca
    have HD := Lib.hid (HS.out.2.2.2.done HSG.out HPERM.out him HG.out (by rw [← HS.out.1]; exact hga))
    clear hga
    go_wp2
    go_roundw
    case rel => exact ⟨i' + 1, G', by omega, by go_num, by rw [HN.out]; go_num, ⟨HS.out.2.2.1, HD.out⟩, HB2.out⟩
    case measure => simp [intOf]; omega
  case false =>
  rw [hga] at ca
  have hrs := HS.out.2.2.1.set a (.bool true)
  rw [bv_set] at hrs
  have HRS := Lib.hid hrs
  have HGO := Lib.hid (HS.out.2.2.2.step a HS.out.1)
  have HME := Lib.hid (show ungone m (updB G' a true) < ungone m (rdB X3 X.heap.size) from by rw [bv_rd HS.out.2.2.1]; exact ungone_upd ham hga)
  have HB3 := Lib.hid (HB2.out.setCell (p := ⟨X.heap.size, a, none⟩) (Nat.le_refl _) (.bool true))
  obtain ⟨X4, hX4⟩ : ∃ X4, X4 = X3.setCell ⟨X.heap.size, a, none⟩ (.bool true) := ⟨_, rfl⟩
  rw [← hX4] at HRS HB3
  have HX4 := Lib.hid hX4
  have HA := Lib.hid HS.out.1
  clear hga hrs hX4
  go_upto_region 17 with fail
  rw [← HX4.out]
  clear ca fa
  go_wp2
  go_loopw [12, 13] (fun ax j ws => ax = .int .i64 a ∧ ∃ j' : Nat, j' ≤ m ∧ j = .int .i64 j' ∧ (∃ n, ws = X4.drewN n) ∧ Hid (∀ x, x < j' → (E! D x).1 ≠ (E! D a).2)) (fun _ j _ => m - (intOf j).toNat)
  case atStart => exact ⟨rfl, 0, by omega, rfl, ⟨0, rfl⟩, fun x h => by omega⟩
  case round =>
  obtain ⟨rfl, j, hjm, rfl, ⟨dn, rfl⟩, HNO⟩ := hrel
  have HR4 := Lib.hid (show RowIs (X4.drewN dn) X.heap.size 4 (bv (updB G' a true) m) from HRS.out.drew dn)
  have HB4 := Lib.hid (show Below X.heap.size X (X4.drewN dn) from HB3.out.trans ⟨rfl, rfl, rfl, Nat.le_refl _, fun _ _ => rfl⟩)
  by_cases hjl : j < m
  case neg =>
    obtain rfl : j = m := by omega
    have HNX := Lib.hid (show a = itf (nextI D) (q + 1) i' from by
      show a = nextI D (itf (nextI D) q i')
      rw [← HA.out]
      exact (nextI_none (by rw [← HM.out]; exact HNO.out)).symm)
    go_wp2
    go_roundw
    case rel => exact ⟨q + 1, a, _, rfl, ⟨HNX.out, ham, HR4.out, HGO.out⟩, HB4.out⟩
    case measure => rw [bv_rd HR4.out]; exact HME.out
  case pos =>
  obtain ⟨b, off, heo, hbl, e0, -⟩ := HE.out j hjl
  obtain ⟨b', off', heo', -, -, e1⟩ := HE.out a ham
  rw [heo] at heo'
  simp only [Option.some.injEq, Addr.mk.injEq, and_true] at heo'
  obtain ⟨rfl, rfl⟩ := heo'
  subst heo
  have g0 : X4.cell? ⟨b, off + j * 2, none⟩ = _ := (HB3.out.cell (p := ⟨b, off + j * 2, none⟩) hbl).trans e0
  have g1 : X4.cell? ⟨b, off + a * 2 + 1, none⟩ = _ := (HB3.out.cell (p := ⟨b, off + a * 2 + 1, none⟩) hbl).trans e1
  obtain ⟨x, hx⟩ : ∃ x, x = (E! D j).1 := ⟨_, rfl⟩
  obtain ⟨y, hy⟩ : ∃ y, y = (E! D a).2 := ⟨_, rfl⟩
  rw [← hx] at g0
  rw [← hy] at g1
  have hj0 : (0 : Int) ≤ (j : Int) := by omega
  have hj1 : (j : Int) < (m : Int) := by omega
  clear e0 e1
  by_cases hxy : x = y
  · have d0 : (x == y) = true := by simpa using hxy
    have HNX := Lib.hid (show j = itf (nextI D) (q + 1) i' from by
      show j = nextI D (itf (nextI D) q i')
      rw [← HA.out]
      exact (nextI_at (by rw [← HM.out]; exact hjl) (by rw [← hx, ← hy]; exact hxy) HNO.out).symm)
    clear hxy hx hy
    go_upto_region 20 with fail
    go_quiet (fail)
    go_wp2
    go_roundw
    case rel => exact ⟨q + 1, j, _, rfl, ⟨HNX.out, hjl, HR4.out.drew _, HGO.out⟩, HB4.out.trans ⟨rfl, rfl, rfl, Nat.le_refl _, fun _ _ => rfl⟩⟩
    case measure => rw [bv_rd (HR4.out.drew _)]; exact HME.out
  · have d0 : (x == y) = false := by simpa using hxy
    have HNO2 := Lib.hid (show ∀ x, x < j + 1 → (E! D x).1 ≠ (E! D a).2 from fun z hz => by
      by_cases e : z = j
      · subst e; rw [← hx, ← hy]; exact hxy
      · exact HNO.out z (by omega))
    clear hxy hx hy
    go_upto_region 20 with fail
    go_quiet (fail)
    go_wp2
    go_roundw
    case rel => exact ⟨rfl, j + 1, by omega, by go_num, ⟨_, rfl⟩, HNO2⟩
    case measure => simp [intOf]; omega
end Go.Proofs.YtbeefabboabfgaaGreat

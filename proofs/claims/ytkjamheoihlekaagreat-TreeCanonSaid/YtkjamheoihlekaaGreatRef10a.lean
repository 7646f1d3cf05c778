/- gypsumref10: Vertex, Next, Prev, Edge, Facing, Opp, Corner. gypsumref10: Facing, Opp, Corner. gypsumref14.loops: the walk. -/
import Derived.Test.YtkjamheoihlekaaGreatFaceLaw
import Derived.Test.YtkjamheoihlekaaGreatCmpW
import Derived.ChangeKeysEq
import Derived.Laws.StructEq
import Derived.Deep.RegionHeld3
import Derived.Deep.DeepCutAuto
import Derived.BigQuiet
namespace Go.Proofs.YtkjamheoihlekaaGreat
set_option linter.unusedVariables false
set_option linter.unusedSimpArgs false
open Go.RowKit
set_option maxHeartbeats 400000 in
theorem next10 (c : Nat) (w : World) (hc : c ≤ 100000) :
    Calls Tryz.prog 39 #[.int .i64 (c : Int)] w fun e w' => e = .returned (.int .i64 (nxn c : Nat)) ∧ w = w' := by
  by_cases h : c % 3 = 2
  · have h1 : ((c : Int) % 3 == 2) = true := by simp; omega
    have h2 : (c : Int) - 2 = (nxn c : Nat) := by unfold nxn; omega
    have hc2 : 2 ≤ c := by omega
    clear h
    go_enter Tryz.func39, Tryz.ntmps39
    go_wp2
    go_ret
    exact ⟨rfl, rfl⟩
  · have h1 : ((c : Int) % 3 == 2) = false := by simp; omega
    have h2 : (c : Int) + 1 = (nxn c : Nat) := by unfold nxn; omega
    clear h
    go_enter Tryz.func39, Tryz.ntmps39
    go_wp2
    go_ret
    exact ⟨rfl, rfl⟩
set_option maxHeartbeats 400000 in
theorem prev10 (c : Nat) (w : World) (hc : c ≤ 100000) :
    Calls Tryz.prog 40 #[.int .i64 (c : Int)] w fun e w' => e = .returned (.int .i64 (pvn c : Nat)) ∧ w = w' := by
  by_cases h : c % 3 = 0
  · have h1 : ((c : Int) % 3 == 0) = true := by simp; omega
    have h2 : (c : Int) + 2 = (pvn c : Nat) := by unfold pvn; omega
    clear h
    go_enter Tryz.func40, Tryz.ntmps40
    go_wp2
    go_ret
    exact ⟨rfl, rfl⟩
  · have h1 : ((c : Int) % 3 == 0) = false := by simp; omega
    have h2 : (c : Int) - 1 = (pvn c : Nat) := by unfold pvn; omega
    have hc2 : 1 ≤ c := by omega
    clear h
    go_enter Tryz.func40, Tryz.ntmps40
    go_wp2
    go_ret
    exact ⟨rfl, rfl⟩
set_option maxHeartbeats 400000 in
theorem v10 (N : Int) (ao : Option Addr) (cap : Nat) (T : List Tr) (c : Nat) (w : World) (hT : TrisAt w ao T) (hl : T.length ≤ 10000) (hc : c < 3 * T.length) :
    Calls Tryz.prog 88 #[.agg #[.int .i64 N, .slice ao T.length cap], .int .i64 (c : Int)] w fun e w' => e = .returned (.int .i64 (vt T (c : Nat))) ∧ Below w.heap.size w w' := by
  obtain ⟨g, off, rfl, hcell, hg⟩ := hT.at (i := c / 3) (j := c % 3) (by omega) (by omega)
  obtain ⟨v, hv⟩ : ∃ v, v = tg (T! T (c / 3)) (c % 3) := ⟨_, rfl⟩
  obtain ⟨len, hlen⟩ : ∃ n, n = T.length := ⟨_, rfl⟩
  have e0 : vt T ((c : Nat) : Int) = v := by rw [hv]; rfl
  rw [e0]
  rw [← hv] at hcell
  rw [← hlen] at hl hc ⊢
  have h3 : (c : Int) / 3 = ((c / 3 : Nat) : Int) := by omega
  have h4 : (c : Int) % 3 = ((c % 3 : Nat) : Int) := by omega
  obtain ⟨i, hi⟩ : ∃ i, i = c / 3 := ⟨_, rfl⟩
  obtain ⟨j, hj⟩ : ∃ j, j = c % 3 := ⟨_, rfl⟩
  rw [← hi] at h3 hcell
  rw [← hj] at h4 hcell
  have hil : i < len := by omega
  have hj3 : j < 3 := by omega
  have hc' := ((Below.refl w.heap.size w).alloc (Nat.le_refl _) (.cells #[.int .i64 N, .slice (some ⟨g, off, none⟩) len cap] 24)).cell (p := ⟨g, off + i * 3 + j, none⟩) hg
  rw [hcell] at hc'
  clear hv hlen hT e0 hi hj
  go_enter Tryz.func88, Tryz.ntmps88
  go_wp2
  go_ret
  exact ⟨rfl, (Below.refl _ _).alloc (Nat.le_refl _) _⟩
set_option maxRecDepth 100000 in
set_option maxHeartbeats 1500000 in
theorem edge10 (N : Int) (ao : Option Addr) (cap : Nat) (T : List Tr) (c : Nat) (w : World) (hT : TrisAt w ao T) (hl : T.length ≤ 10000) (hc : c < 3 * T.length) :
    Calls Tryz.prog 48 #[.agg #[.int .i64 N, .slice ao T.length cap], .int .i64 (c : Int)] w fun e w' => e = .returned (.agg #[.int .i64 (vt T (nxn c : Nat)), .int .i64 (vt T (pvn c : Nat))]) ∧ Below w.heap.size w w' := by
  obtain ⟨W0, hW0⟩ : ∃ W0, W0 = (w.alloc (.cells #[.int .i64 N, .slice ao T.length cap] 24)).alloc (.cells #[.int .i64 0, .int .i64 0] 40) := ⟨_, rfl⟩
  have hb0 : Below w.heap.size w W0 := by rw [hW0]; exact ((Below.refl _ _).alloc (Nat.le_refl _) _).alloc (by simp) _
  have hr0 : RowIs W0 w.heap.size 24 [.int .i64 N, .slice ao T.length cap] := by rw [hW0]; exact (RowIs.made w 24 [.int .i64 N, .slice ao T.length cap]).alloc _
  have hr1 : RowIs W0 (w.heap.size + 1) 40 [.int .i64 0, .int .i64 0] := by rw [hW0]; exact RowIs.made' _ _ [.int .i64 0, .int .i64 0] _ (by simp)
  have hT0 := hT.mono (Nat.le_refl _) hb0
  obtain ⟨p, hp⟩ : ∃ p, p = vt T (nxn c : Nat) := ⟨_, rfl⟩
  obtain ⟨q, hq⟩ : ∃ q, q = vt T (pvn c : Nat) := ⟨_, rfl⟩
  obtain ⟨nc, hnc⟩ : ∃ x, x = nxn c := ⟨_, rfl⟩
  obtain ⟨pc, hpc⟩ : ∃ x, x = pvn c := ⟨_, rfl⟩
  have HN := Lib.hid (show ∀ w', Calls Tryz.prog 39 #[.int .i64 (c : Int)] w' fun e w'' => e = .returned (.int .i64 (nc : Int)) ∧ w' = w'' from fun w' => by rw [hnc]; exact next10 c w' (by omega))
  have HP := Lib.hid (show ∀ w', Calls Tryz.prog 40 #[.int .i64 (c : Int)] w' fun e w'' => e = .returned (.int .i64 (pc : Int)) ∧ w' = w'' from fun w' => by rw [hpc]; exact prev10 c w' (by omega))
  have HV1 := Lib.hid (show ∀ w', Hid (Below W0.heap.size W0 w') → Calls Tryz.prog 88 #[.agg #[.int .i64 N, .slice ao T.length cap], .int .i64 (nc : Int)] w' fun e w'' => e = .returned (.int .i64 p) ∧ Hid (Below W0.heap.size W0 w'') from fun w' h => by
    rw [hp, hnc]
    exact (v10 N ao cap T (nxn c) w' (hT0.mono (Nat.le_refl _) h.out) hl (nxn_lt hc)).mono fun e w'' h2 => ⟨h2.1, below_more h.out h2.2 h.out.size⟩)
  have HV2 := Lib.hid (show ∀ w', Hid (Below W0.heap.size W0 w') → Calls Tryz.prog 88 #[.agg #[.int .i64 N, .slice ao T.length cap], .int .i64 (pc : Int)] w' fun e w'' => e = .returned (.int .i64 q) ∧ Hid (Below W0.heap.size W0 w'') from fun w' h => by
    rw [hq, hpc]
    exact (v10 N ao cap T (pvn c) w' (hT0.mono (Nat.le_refl _) h.out) hl (pvn_lt hc)).mono fun e w'' h2 => ⟨h2.1, below_more h.out h2.2 h.out.size⟩)
  have HK := Lib.hid (show ∀ w', Hid (Below W0.heap.size W0 w') → w'.cell? ⟨w.heap.size, 0, none⟩ = some (.int .i64 N) ∧ w'.cell? ⟨w.heap.size, 1, none⟩ = some (.slice ao T.length cap) from fun w' h => ⟨(hr0.after h.out).cell (i := 0) rfl, (hr0.after h.out).cell (i := 1) rfl⟩)
  have HR1 := Lib.hid hr1
  have HK2 := Lib.hid (show ∀ w', Hid (Below W0.heap.size W0 w') → ∀ x y : Value, ((w'.setCell ⟨w.heap.size + 1, 0, none⟩ x).setCell ⟨w.heap.size + 1, 1, none⟩ y).cell? ⟨w.heap.size, 0, none⟩ = some (.int .i64 N) ∧ ((w'.setCell ⟨w.heap.size + 1, 0, none⟩ x).setCell ⟨w.heap.size + 1, 1, none⟩ y).cell? ⟨w.heap.size, 1, none⟩ = some (.slice ao T.length cap) from fun w' h x y => by
    have hk := ((hr0.after h.out).other (p := ⟨w.heap.size + 1, 0, none⟩) (by simp) x).other (p := ⟨w.heap.size + 1, 1, none⟩) (by simp) y
    exact ⟨hk.cell (i := 0) rfl, hk.cell (i := 1) rfl⟩)
  have HB0 := Lib.hid hb0
  have HW0 := Lib.hid hW0
  have HRF := Lib.hid (Below.refl W0.heap.size W0)
  have HD0 := Lib.hid (show Below W0.heap.size W0 W0.drew from ⟨rfl, rfl, rfl, Nat.le_refl _, fun _ _ => rfl⟩)
  obtain ⟨len, hlen⟩ : ∃ n, n = T.length := ⟨_, rfl⟩
  rw [← hlen] at HV1 HV2 HK HW0 hl ⊢
  simp only [← hlen] at HK2
  rw [← hp, ← hq]
  obtain ⟨xb, hxb⟩ : ∃ x, x = w.heap.size := ⟨_, rfl⟩
  rw [← hxb] at HK HR1
  simp only [← hxb] at HK2
  have HXB := Lib.hid hxb
  have hc3 : (c : Int) ≤ 30000 := by omega
  clear hT hb0 hr0 hr1 hT0 hW0 hp hq hnc hpc hlen hc hxb
  go_enter Tryz.func48, Tryz.ntmps48
  go_upto_region 1 with fail
  simp only [← HXB.out]
  rw [← HW0.out]
  go_region_held3 (fun w' => w'.cell? ⟨xb, 0, none⟩ = some (.int .i64 N) ∧ w'.cell? ⟨xb, 1, none⟩ = some (.slice ao len cap))
    (first | exact HK.out _ (by assumption) | exact HK2.out _ (by assumption) _ _)
    (first
      | (go_at_call 39; (with_reducible refine (HN.out _).mono ?_); rintro e wN ⟨rfl, rfl⟩)
      | (go_at_call 40; (with_reducible refine (HP.out _).mono ?_); rintro e wP ⟨rfl, rfl⟩)
      | (go_at_call 88; (with_reducible refine (HV1.out _ (by assumption)).mono ?_); rintro e wV ⟨rfl, hV⟩; have hr1 := HR1.out.after hV.out; have r0 := hr1.cell (i := 0) rfl; have r1 := hr1.cell (i := 1) rfl; have f0 := hr1.free 0; have f1 := hr1.free 1; have HRR := Lib.hid hr1)
      | (go_at_call 88; (with_reducible refine (HV2.out _ (by assumption)).mono ?_); rintro e wV ⟨rfl, hV⟩; have hr1 := HR1.out.after hV.out; have r0 := hr1.cell (i := 0) rfl; have r1 := hr1.cell (i := 1) rfl; have f0 := hr1.free 0; have f1 := hr1.free 1; have HRR := Lib.hid hr1))
  all_goals
    go_wp2
    have hx := (HRR.out.set 0 (.int .i64 p)).set 1 (.int .i64 q)
    have x0 := hx.cell (i := 0) rfl
    have x1 := hx.cell (i := 1) rfl
    exact bodyPost_ret (v := .agg #[.int .i64 p, .int .i64 q]) (by simp [results, Tryz.results48, go_sem, x0, x1]) rfl ⟨rfl, ((below_more HB0.out hV.out HB0.out.size).setCell (p := ⟨xb + 1, 0, none⟩) (by have := HXB.out; simp; omega) (.int .i64 p)).setCell (p := ⟨xb + 1, 1, none⟩) (by have := HXB.out; simp; omega) (.int .i64 q)⟩
theorem part_ed (a b : Value) (w : World) : (part 3 #[a, b] 0).run Tryz.prog w = .ok a w ∧ (part 3 #[a, b] 1).run Tryz.prog w = .ok b w := ⟨by kernel_rfl, by kernel_rfl⟩
theorem edge_equal (x y x' y' : Int) (w : World) :
    (Op.equalIn 10000 40 (.agg #[.int .i64 x, .int .i64 y]) (.agg #[.int .i64 x', .int .i64 y'])).run Tryz.prog w = .ok (x == x' && y == y') w := by
  obtain ⟨i0, hi, -⟩ := info_parts info3
  have hc : Tryz.prog.cellsOf 3 = 1 := by kernel_rfl
  have hu : Tryz.prog.underlying 3 = some (.int .i64) := by kernel_rfl
  rw [run_equalIn_array (P := Tryz.prog) w 9999 (t := 40) (e := 3) (n := 2) (i := i0) _ _ (by kernel_rfl) hi, hc]
  simp only [List.range_succ, List.range_zero, List.nil_append, List.cons_append, Op.eqItems, Sem.run_bind, Nat.mul_one, (part_ed _ _ _).1, (part_ed _ _ _).2, Result.andThen_ok, run_equalIn_int (P := Tryz.prog) _ _ _ _ _ _ _ hu]
  by_cases h1 : x = x' <;> by_cases h2 : y = y' <;> simp [h1, h2, (part_ed _ _ _).1, (part_ed _ _ _).2, run_equalIn_int (P := Tryz.prog) _ _ _ _ _ _ _ hu]
/-- What is told of the corner that faces an edge. -/
def FaceP (T : List Tr) (a b r : Int) : Prop := (∃ c : Nat, r = c ∧ c < 3 * T.length ∧ edgeAt T (c : Nat) = (a, b)) ∨ (r = -1 ∧ ∀ c : Nat, c < 3 * T.length → edgeAt T (c : Nat) ≠ (a, b))
set_option maxRecDepth 100000 in
set_option maxHeartbeats 1500000 in
theorem facing10 (N : Int) (ao : Option Addr) (cap : Nat) (T : List Tr) (a b : Int) (w : World) (hT : TrisAt w ao T) (hl : T.length ≤ 10000) :
    Calls Tryz.prog 81 #[.agg #[.int .i64 N, .slice ao T.length cap], .agg #[.int .i64 a, .int .i64 b]] w fun e w' => ∃ r, e = .returned (.int .i64 r) ∧ FaceP T a b r ∧ Below w.heap.size w w' := by
  obtain ⟨W0, hW0⟩ : ∃ W0, W0 = (w.alloc (.cells #[.int .i64 N, .slice ao T.length cap] 24)).alloc (.cells #[.int .i64 a, .int .i64 b] 40) := ⟨_, rfl⟩
  have hb0 : Below w.heap.size w W0 := by rw [hW0]; exact ((Below.refl _ _).alloc (Nat.le_refl _) _).alloc (by simp) _
  have hr0 : RowIs W0 w.heap.size 24 [.int .i64 N, .slice ao T.length cap] := by rw [hW0]; exact (RowIs.made w 24 [.int .i64 N, .slice ao T.length cap]).alloc _
  have hr1 : RowIs W0 (w.heap.size + 1) 40 [.int .i64 a, .int .i64 b] := by rw [hW0]; exact RowIs.made' _ _ [.int .i64 a, .int .i64 b] _ (by simp)
  have HT := Lib.hid (hT.mono (Nat.le_refl _) hb0)
  have HE := Lib.hid (fun (X : World) (c : Nat) (h : TrisAt X ao T) (hc : c < 3 * T.length) => edge10 N ao cap T c X h hl hc)
  obtain ⟨xb, hxb⟩ : ∃ x, x = w.heap.size := ⟨_, rfl⟩
  obtain ⟨len, hlen⟩ : ∃ n, n = T.length := ⟨_, rfl⟩
  obtain ⟨l3, hl3⟩ : ∃ x, x = 3 * len := ⟨_, rfl⟩
  rw [← hlen] at hl hW0 hr0 ⊢
  simp only [← hlen] at HE
  rw [← hxb] at hr0 hr1
  have h3 : (3 : Int) * (len : Int) = (l3 : Int) := by omega
  have hl3' : l3 ≤ 30000 := by omega
  have HL := Lib.hid hlen
  have HL3 := Lib.hid hl3
  have HB0 := Lib.hid hb0
  have HR0 := Lib.hid hr0
  have HR1 := Lib.hid hr1
  have HW0 := Lib.hid hW0
  have HXB := Lib.hid hxb
  clear hT hb0 hr0 hr1 hlen hl3 hW0 hxb
  go_enter Tryz.func81, Tryz.ntmps81
  go_upto_region 1 with fail
  simp only [← HXB.out]
  rw [← HW0.out]
  go_wp2
  go_loopw [5] (fun i ws => ∃ c : Nat, c ≤ l3 ∧ i = .int .i64 c ∧ (∀ d : Nat, d < c → edgeAt T (d : Nat) ≠ (a, b)) ∧ Below W0.heap.size W0 ws) (fun i _ => l3 - (intOf i).toNat)
  case atStart => exact ⟨0, by omega, rfl, fun d h => by omega, Below.refl _ _⟩
  case round =>
  obtain ⟨c, hc, rfl, hno, hb⟩ := hrel
  obtain ⟨X, rfl⟩ : ∃ X : World, X = wr := ⟨_, rfl⟩
  have hbox := HR0.out.after hb
  have hbox1 := HR1.out.after hb
  have c0 := hbox.cell (i := 0) rfl
  have c1 := hbox.cell (i := 1) rfl
  have HNO := Lib.hid hno
  have HB := Lib.hid hb
  by_cases hlt : c < l3
  case neg =>
    obtain rfl : l3 = c := by omega
    have HF := Lib.hid (show FaceP T a b (-1) from .inr ⟨rfl, fun d hd => HNO.out d (by have := HL3.out; have := HL.out; omega)⟩)
    have HBF := Lib.hid (below_more HB0.out hb HB0.out.size)
    clear hno hb hbox hbox1
    go_wp2
    go_ret
    exact ⟨-1, rfl, HF.out, HBF.out⟩
  case pos =>
  have hcT : c < 3 * T.length := by have := HL3.out; have := HL.out; omega
  obtain ⟨p, hp⟩ : ∃ p, p = vt T (nxn c : Nat) := ⟨_, rfl⟩
  obtain ⟨q, hq⟩ : ∃ q, q = vt T (pvn c : Nat) := ⟨_, rfl⟩
  have hed : edgeAt T (c : Nat) = (p, q) := by rw [edgeAt_nat, hp, hq]
  have HED := Lib.hid hed
  have HK := Lib.hid (show ∀ w', Hid (Below X.heap.size X w') → w'.cell? ⟨xb, 0, none⟩ = some (.int .i64 N) ∧ w'.cell? ⟨xb, 1, none⟩ = some (.slice ao len cap) ∧ w'.cell? ⟨xb + 1, 0, none⟩ = some (.int .i64 a) ∧ w'.cell? ⟨xb + 1, 1, none⟩ = some (.int .i64 b) from fun w' h => ⟨(hbox.after h.out).cell (i := 0) rfl, (hbox.after h.out).cell (i := 1) rfl, (hbox1.after h.out).cell (i := 0) rfl, (hbox1.after h.out).cell (i := 1) rfl⟩)
  have HEC := Lib.hid (show ∀ w', Hid (Below X.heap.size X w') → Calls Tryz.prog 48 #[.agg #[.int .i64 N, .slice ao len cap], .int .i64 (c : Int)] w' fun e w'' => e = .returned (.agg #[.int .i64 p, .int .i64 q]) ∧ Hid (Below X.heap.size X w'') from fun w' h => by
    rw [hp, hq]
    exact (HE.out w' c (HT.out.mono (Nat.le_refl _) (below_more hb h.out hb.size)) (by have := HL3.out; omega)).mono fun e w'' h2 => ⟨h2.1, below_more h.out h2.2 h.out.size⟩)
  have HRF := Lib.hid (Below.refl X.heap.size X)
  have HDR := Lib.hid (show Below X.heap.size X X.drew from ⟨rfl, rfl, rfl, Nat.le_refl _, fun _ _ => rfl⟩)
  obtain ⟨t, ht⟩ : ∃ t, t = (p == a && q == b) := ⟨_, rfl⟩
  have hte : ∀ w, (Op.equalIn 10000 40 (.agg #[.int .i64 p, .int .i64 q]) (.agg #[.int .i64 a, .int .i64 b])).run Tryz.prog w = .ok t w := fun w => by rw [ht]; exact edge_equal p q a b w
  have HTT := Lib.hid (show (t = false → (p, q) ≠ (a, b)) ∧ (t = true → (p, q) = (a, b)) from ⟨fun h e => by simp only [Prod.mk.injEq] at e; rw [h, e.1, e.2] at ht; simp at ht, fun h => by
    rw [h] at ht
    simp only [Bool.true_eq, Bool.and_eq_true, beq_iff_eq] at ht
    rw [ht.1, ht.2]⟩)
  clear hp hq hed hno hb hbox hbox1 HE c0 c1 ht
  cases t
  case false =>
    have HNO2 := Lib.hid (show ∀ d : Nat, d < c + 1 → edgeAt T (d : Nat) ≠ (a, b) from fun d hd => by
      by_cases e : d = c
      · subst e; rw [HED.out]; exact HTT.out.1 rfl
      · exact HNO.out d (by omega))
    have hcc := (HK.out X HRF).1
    have hcd := (HK.out X HRF).2.1
    go_upto_region 4 with fail
    clear hcc hcd
    go_region_held3 (fun w' => w'.cell? ⟨xb, 0, none⟩ = some (.int .i64 N) ∧ w'.cell? ⟨xb, 1, none⟩ = some (.slice ao len cap) ∧ w'.cell? ⟨xb + 1, 0, none⟩ = some (.int .i64 a) ∧ w'.cell? ⟨xb + 1, 1, none⟩ = some (.int .i64 b))
      (exact HK.out _ (by assumption))
      (first | (go_at_call 48; (with_reducible refine (HEC.out _ (by assumption)).mono ?_); rintro e wE ⟨rfl, hE⟩))
    all_goals
      have HBF := Lib.hid (below_more HB.out hE.out HB.out.size)
      go_wp2
      go_roundw
      case rel => exact ⟨c + 1, by omega, by go_num, HNO2.out, HBF.out⟩
      case measure => simp [intOf]; omega
  case true =>
    have HF := Lib.hid (show FaceP T a b (c : Int) from .inl ⟨c, rfl, hcT, HED.out.trans (HTT.out.2 rfl)⟩)
    have hcc := (HK.out X HRF).1
    have hcd := (HK.out X HRF).2.1
    go_upto_region 4 with fail
    clear hcc hcd
    go_region_held3 (fun w' => w'.cell? ⟨xb, 0, none⟩ = some (.int .i64 N) ∧ w'.cell? ⟨xb, 1, none⟩ = some (.slice ao len cap) ∧ w'.cell? ⟨xb + 1, 0, none⟩ = some (.int .i64 a) ∧ w'.cell? ⟨xb + 1, 1, none⟩ = some (.int .i64 b))
      (exact HK.out _ (by assumption))
      (first | (go_at_call 48; (with_reducible refine (HEC.out _ (by assumption)).mono ?_); rintro e wE ⟨rfl, hE⟩))
    all_goals
      have HBF := Lib.hid (below_more HB0.out (below_more HB.out hE.out HB.out.size) HB0.out.size)
      go_wp2
      go_ret
      exact ⟨c, rfl, HF.out, HBF.out⟩
theorem Surf.face10 {N : Int} {T : List Tr} (hs : Surf N T) {a b r : Int} (h : FaceP T a b r) : r = facing T (a, b) := by
  rcases h with ⟨c, rfl, hc, he⟩ | ⟨rfl, hno⟩
  · obtain ⟨d, hd, hdl, hde⟩ := facing_some (facing_of hc he)
    rw [hd]
    have := hs.edge_c hc hdl (he.trans hde.symm)
    omega
  · rcases facing_lt T (a, b) with h | h
    · by_cases h0 : 0 ≤ facing T (a, b)
      · obtain ⟨d, hd, hdl, hde⟩ := facing_some h0
        exact absurd hde (hno d hdl)
      · unfold facing at h h0 ⊢
        unfold faceFrom at h h0 ⊢
        cases hh : (List.range' 0 (3 * T.length - 0)).find? fun c : Nat => edgeAt T c == (a, b) with
        | none => rfl
        | some v => rw [hh] at h0; simp at h0
    · exact h.symm
set_option maxRecDepth 100000 in
set_option maxHeartbeats 1500000 in
theorem opp10 (N : Int) (ao : Option Addr) (cap : Nat) (T : List Tr) (c : Nat) (w : World) (hT : TrisAt w ao T) (hs : Surf N T) (hc : c < 3 * T.length) :
    Calls Tryz.prog 41 #[.agg #[.int .i64 N, .slice ao T.length cap], .int .i64 (c : Int)] w fun e w' => e = .returned (.int .i64 (opp T (c : Nat))) ∧ Below w.heap.size w w' := by
  have hl : T.length ≤ 10000 := by have := hs.t1; omega
  obtain ⟨W0, hW0⟩ : ∃ W0, W0 = w.alloc (.cells #[.int .i64 N, .slice ao T.length cap] 24) := ⟨_, rfl⟩
  have hb0 : Below w.heap.size w W0 := by rw [hW0]; exact (Below.refl _ _).alloc (Nat.le_refl _) _
  have hr0 : RowIs W0 w.heap.size 24 [.int .i64 N, .slice ao T.length cap] := by rw [hW0]; exact RowIs.made w 24 [.int .i64 N, .slice ao T.length cap]
  have hT0 := hT.mono (Nat.le_refl _) hb0
  obtain ⟨p, hp⟩ : ∃ p, p = vt T (nxn c : Nat) := ⟨_, rfl⟩
  obtain ⟨q, hq⟩ : ∃ q, q = vt T (pvn c : Nat) := ⟨_, rfl⟩
  obtain ⟨r, hr⟩ : ∃ r, r = opp T (c : Nat) := ⟨_, rfl⟩
  have HE := Lib.hid (edge10 N ao cap T c W0 hT0 hl hc)
  have HFC := Lib.hid (show ∀ w', Below W0.heap.size W0 w' → Calls Tryz.prog 81 #[.agg #[.int .i64 N, .slice ao T.length cap], .agg #[.int .i64 q, .int .i64 p]] w' fun e w'' => e = .returned (.int .i64 r) ∧ Below w'.heap.size w' w'' from fun w' h =>
    (facing10 N ao cap T q p w' (hT0.mono (Nat.le_refl _) h) hl).mono fun e w'' ⟨r', he, hf, h2⟩ => ⟨by rw [he, hs.face10 hf, hr, opp_nat, hp, hq], h2⟩)
  rw [← hp, ← hq] at HE
  have HR0 := Lib.hid hr0
  have HB0 := Lib.hid hb0
  have HW0 := Lib.hid hW0
  have c0 := hr0.cell (i := 0) rfl
  have c1 := hr0.cell (i := 1) rfl
  obtain ⟨len, hlen⟩ : ∃ n, n = T.length := ⟨_, rfl⟩
  simp only [← hlen] at HE HFC HR0 HW0 c0 c1 ⊢
  rw [← hr]
  clear hT hb0 hr0 hT0 hW0 hp hq hr hlen hs hc hl
  go_enter Tryz.func41, Tryz.ntmps41
  go_upto_region 1 with fail
  rw [← HW0.out]
  go_wp2_with fail
  refine HE.out.mono ?_
  rintro e w1 ⟨rfl, hb1⟩
  clear c0 c1
  have hr1 := HR0.out.after hb1
  have hlt := HR0.out.lt
  have hsz := hb1.size
  obtain ⟨W2, hW2⟩ : ∃ W2, W2 = w1.alloc (.cells #[.int .i64 p, .int .i64 q] 40) := ⟨_, rfl⟩
  have hb2 : Below W0.heap.size W0 W2 := by
    rw [hW2]
    exact hb1.alloc hsz _
  have k0 := (HR0.out.after hb2).cell (i := 0) rfl
  have k1 := (HR0.out.after hb2).cell (i := 1) rfl
  have hre : RowIs W2 w1.heap.size 40 [.int .i64 p, .int .i64 q] := by
    rw [hW2]
    exact RowIs.made w1 40 [.int .i64 p, .int .i64 q]
  have e0 := hre.cell (i := 0) rfl
  have e1 := hre.cell (i := 1) rfl
  have HW2 := Lib.hid hW2
  have HB2 := Lib.hid hb2
  clear hb1 hr1 hlt hsz hW2 hb2 hre
  go_upto_region 2 with fail
  rw [← HW2.out]
  go_wp2_with fail
  refine (HFC.out _ HB2.out).mono ?_
  rintro e w3 ⟨rfl, hb3⟩
  have HBF := Lib.hid (below_more HB0.out (below_more HB2.out hb3 HB2.out.size) HB0.out.size)
  clear k0 k1 e0 e1 hb3
  go_wp2
  go_ret
  exact ⟨rfl, HBF.out⟩
end Go.Proofs.YtkjamheoihlekaaGreat

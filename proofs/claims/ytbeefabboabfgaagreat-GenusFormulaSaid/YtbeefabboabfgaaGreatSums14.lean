/- gypsumlaw14.GenusFormula, plain: the shells' numbers together. gypsumlaw14.GenusFormula: the walk. -/
import Derived.Test.YtbeefabboabfgaaGreatCycLaw
import Derived.Test.YtbeefabboabfgaaGreatEdgesW
import Derived.Test.YtbeefabboabfgaaGreatSolid14
import Derived.Test.YtbeefabboabfgaaGreatTabSoup
import Derived.Test.YtbeefabboabfgaaGreatNumEq
import Derived.Deep.RegionHeld3
import Derived.BigQuiet
namespace Go.Proofs.YtbeefabboabfgaaGreat
set_option linter.unusedVariables false
set_option linter.unusedSimpArgs false
open Go.RowKit
def sumN (f : Nat → Nat) : Nat → Nat
  | 0 => 0
  | k + 1 => sumN f k + f k
theorem sumN_add (f g : Nat → Nat) : ∀ m, sumN (fun k => f k + g k) m = sumN f m + sumN g m
  | 0 => rfl
  | m + 1 => by
    show sumN _ m + (f m + g m) = sumN f m + f m + (sumN g m + g m)
    rw [sumN_add f g m]; omega
theorem sumN_zero : ∀ m, sumN (fun _ => 0) m = 0
  | 0 => rfl
  | m + 1 => by show sumN _ m + 0 = 0; rw [sumN_zero m]
theorem sumN_congr {f g : Nat → Nat} : ∀ {m}, (∀ k, k < m → f k = g k) → sumN f m = sumN g m
  | 0, _ => rfl
  | m + 1, h => by show sumN f m + f m = sumN g m + g m; rw [sumN_congr fun k hk => h k (by omega), h m (by omega)]
theorem sumN_ind {x : Int} : ∀ {m : Nat}, (0 ≤ x ∧ x < m) → sumN (fun k => if x = (k : Int) then 1 else 0) m = 1
  | 0, h => by omega
  | m + 1, h => by
    show sumN _ m + (if x = (m : Int) then 1 else 0) = 1
    by_cases e : x = (m : Int)
    · rw [if_pos e, sumN_congr (g := fun _ => 0) fun k hk => if_neg (by omega), sumN_zero]
    · rw [if_neg e, sumN_ind (by omega)]
/-- All keys in range: together as many as there are. -/
theorem sumN_cntK {key : Nat → Int} {m : Nat} : ∀ {i : Nat}, (∀ j, j < i → 0 ≤ key j ∧ key j < m) → sumN (cntK key i) m = i
  | 0, _ => by
    rw [sumN_congr (g := fun _ => 0) fun k _ => cntK_zero key k, sumN_zero]
  | i + 1, h => by
    rw [sumN_congr (g := fun k => cntK key i k + if key i = (k : Int) then 1 else 0) fun k _ => cntK_succ key i k, sumN_add, sumN_cntK fun j hj => h j (by omega), sumN_ind (h i (by omega))]
theorem sumF_sumN {Φ : Nat → Int} {f : Nat → Nat} {j : Nat} : ∀ {m : Nat}, (∀ k, k < m → Φ (k * 6 + j) = (f k : Int)) → sumF Φ m j = (sumN f m : Int)
  | 0, _ => rfl
  | m + 1, h => by
    show sumF Φ m j + Φ (6 * m + j) = ((sumN f m + f m : Nat) : Int)
    rw [sumF_sumN fun k hk => h k (by omega), show 6 * m + j = m * 6 + j by omega, h m (by omega)]
    omega
/-- The edges, each once. -/
def eAll (T : List Tr) : Nat := ((List.range (3 * T.length)).filter fun x : Nat => decide (opp T (x : Nat) < (x : Nat))).length
section
variable {n : Nat} {T : List Tr} {L : Nat → Int} {m : Nat}
theorem lab_range (hL : IsShells (Adj T) T.length L) (hm : (m : Int) = cnt L T.length) {i : Nat} (hi : i < T.length) : 0 ≤ L i ∧ L i < m := ⟨hL.nonneg i hi, by rw [hm]; exact cnt_lt L T.length i hi⟩
theorem sum_V (hs : Surf n T) (hL : IsShells (Adj T) T.length L) (hm : (m : Int) = cnt L T.length) : sumF (genF T L n) m 0 = (n : Int) := by
  rw [sumF_sumN (f := nV T L n) fun k _ => gen0 T L n k]
  congr 1
  refine sumN_cntK fun v hv => ?_
  obtain ⟨c, c1, -, c3⟩ := shV_corner (L := L) hs hv
  rw [c3]
  exact lab_range hL hm (by omega)
theorem sum_F (hL : IsShells (Adj T) T.length L) (hm : (m : Int) = cnt L T.length) : sumF (genF T L n) m 2 = (T.length : Int) := by
  rw [sumF_sumN (f := nF T L) fun k _ => gen2 T L n k]
  congr 1
  exact sumN_cntK fun i hi => lab_range hL hm hi
theorem sum_B (hs : Surf n T) (hL : IsShells (Adj T) T.length L) (hm : (m : Int) = cnt L T.length) : sumF (genF T L n) m 3 = ((loopsL (bordE T (3 * T.length)) n).length : Int) := by
  rw [sumF_sumN (f := nB T L n) fun k _ => gen3 T L n k, loopsL_heads, List.length_map]
  congr 1
  refine sumN_cntK fun j hj => ?_
  have hmem : (headsB (bordE T (3 * T.length)) n).getD j 0 ∈ headsB (bordE T (3 * T.length)) n := by
    have : (headsB (bordE T (3 * T.length)) n).getD j 0 = (headsB (bordE T (3 * T.length)) n)[j] := by simp [hj]
    rw [this]; exact List.getElem_mem hj
  obtain ⟨c, c1, -, c3⟩ := shV_corner (L := L) hs (headsB_mem.1 hmem).1
  unfold keyB
  rw [c3]
  exact lab_range hL hm (by omega)
theorem ecP_sum (hL : IsShells (Adj T) T.length L) (hm : (m : Int) = cnt L T.length) : ∀ i, i ≤ 3 * T.length → sumN (ecP T L i) m = ((List.range i).filter fun x : Nat => decide (opp T (x : Nat) < (x : Nat))).length
  | 0, _ => by
    rw [show ecP T L 0 = fun _ => 0 from rfl, sumN_zero]; rfl
  | i + 1, h => by
    rw [sumN_congr (g := fun k => ecP T L i k + if L (i / 3) = (k : Int) ∧ opp T (i : Nat) < (i : Int) then 1 else 0) fun k _ => ecP_succ T L i k, sumN_add, ecP_sum hL hm i (by omega), List.range_succ, List.filter_append, List.length_append]
    congr 1
    by_cases e : opp T (i : Nat) < (i : Int)
    · rw [sumN_congr (g := fun k => if L (i / 3) = (k : Int) then 1 else 0) fun k _ => by simp [e], sumN_ind (lab_range hL hm (by omega))]
      simp [e]
    · rw [sumN_congr (g := fun _ => 0) fun k _ => by simp [e], sumN_zero]
      simp [e]
theorem sum_E (hs : Surf n T) (hL : IsShells (Adj T) T.length L) (hm : (m : Int) = cnt L T.length) : sumF (genF T L n) m 1 = (eAll T : Int) := by
  rw [sumF_sumN (f := fun k => nT T L k / 2) fun k _ => gen1 T L n k, sumN_congr (g := ecP T L (3 * T.length)) fun k _ => (edge_count hs hL k).symm, ecP_sum hL hm _ (Nat.le_refl _)]
  rfl
/-- Each triangle has three edges, each edge two triangles, but those of the border. -/
theorem edges_tris (hs : Surf n T) : 3 * T.length + (bordE T (3 * T.length)).length = 2 * eAll T := by
  have e1 := filt_split (fun x : Nat => decide (opp T (x : Nat) < (x : Nat))) (List.range (3 * T.length))
  have e2 := filt_len3 (p := fun x : Nat => decide (opp T (x : Nat) < (x : Nat))) (q := fun x : Nat => decide (opp T (x : Nat) < 0)) (List.range (3 * T.length))
  have e3 : ((List.range (3 * T.length)).filter fun x : Nat => decide (opp T (x : Nat) < (x : Nat)) && decide (opp T (x : Nat) < 0)).length = (bordE T (3 * T.length)).length := by
    unfold bordE
    rw [List.length_map]
    congr 1
    refine List.filter_congr fun x _ => ?_
    by_cases h2 : opp T (x : Nat) < 0
    · simp [h2]; omega
    · simp [h2]
  rw [List.length_range] at e1
  obtain ⟨A, hA⟩ : ∃ A, A = (List.range (3 * T.length)).filter fun x : Nat => decide (opp T (x : Nat) < (x : Nat)) && !decide (opp T (x : Nat) < 0) := ⟨_, rfl⟩
  obtain ⟨B, hB⟩ : ∃ B, B = (List.range (3 * T.length)).filter fun x : Nat => !decide (opp T (x : Nat) < (x : Nat)) := ⟨_, rfl⟩
  rw [← hA] at e2
  rw [← hB] at e1
  have mA : ∀ x, x ∈ A ↔ x < 3 * T.length ∧ opp T (x : Nat) < (x : Nat) ∧ 0 ≤ opp T (x : Nat) := fun x => by rw [hA]; simp
  have mB : ∀ x, x ∈ B ↔ x < 3 * T.length ∧ (x : Int) ≤ opp T (x : Nat) := fun x => by rw [hB]; simp
  have nA : A.Nodup := by rw [hA]; exact nodup_rf _ _
  have nBd : B.Nodup := by rw [hB]; exact nodup_rf _ _
  have hinj : ∀ a, a < 3 * T.length → 0 ≤ opp T (a : Nat) → ∀ b, b < 3 * T.length → 0 ≤ opp T (b : Nat) → (opp T (a : Nat)).toNat = (opp T (b : Nat)).toNat → a = b := fun a ha h0 b hb h1 e => by
    obtain ⟨o, o1, o2, o3, -, -⟩ := hs.opp_opp ha h0
    obtain ⟨o', p1, p2, p3, -, -⟩ := hs.opp_opp hb h1
    rw [o1, p1] at e
    have : o = o' := by simpa using e
    subst this
    rw [o3] at p3
    omega
  have l1 := sub_len (A.map fun x : Nat => (opp T (x : Nat)).toNat) B (nodup_on (fun a ha b hb e => hinj a ((mA a).1 ha).1 ((mA a).1 ha).2.2 b ((mA b).1 hb).1 ((mA b).1 hb).2.2 e) nA) (fun y hy => by
    obtain ⟨x, hx, rfl⟩ := List.mem_map.1 hy
    obtain ⟨x1, x3, x4⟩ := (mA x).1 hx
    obtain ⟨o, o1, o2, o3, -, -⟩ := hs.opp_opp x1 x4
    try dsimp only
    rw [o1, Int.toNat_natCast]
    exact (mB o).2 ⟨o2, by omega⟩)
  have l2 := sub_len (B.map fun x : Nat => (opp T (x : Nat)).toNat) A (nodup_on (fun a ha b hb e => hinj a ((mB a).1 ha).1 (by have := ((mB a).1 ha).2; omega) b ((mB b).1 hb).1 (by have := ((mB b).1 hb).2; omega) e) nBd) (fun y hy => by
    obtain ⟨x, hx, rfl⟩ := List.mem_map.1 hy
    obtain ⟨x1, x3⟩ := (mB x).1 hx
    obtain ⟨o, o1, o2, o3, o4, o5⟩ := hs.opp_opp x1 (by omega)
    have hne : o ≠ x := fun e => by
      subst e
      exact ends_ne hs x1 o4
    try dsimp only
    rw [o1, Int.toNat_natCast]
    exact (mA o).2 ⟨o2, by omega, by omega⟩)
  rw [List.length_map] at l1 l2
  have he : eAll T = ((List.range (3 * T.length)).filter fun x : Nat => decide (opp T (x : Nat) < (x : Nat))).length := rfl
  omega
theorem ukey_same (hs : Surf n T) {c d : Nat} (hc : c < 3 * T.length) (hd : d < 3 * T.length) (e : ukey T c = ukey T d) : c = d ∨ opp T (c : Nat) = (d : Int) := by
  unfold ukey at e
  simp only [Prod.mk.injEq] at e
  have h : (vt T (nxn c : Nat) = vt T (nxn d : Nat) ∧ vt T (pvn c : Nat) = vt T (pvn d : Nat)) ∨ (vt T (nxn c : Nat) = vt T (pvn d : Nat) ∧ vt T (pvn c : Nat) = vt T (nxn d : Nat)) := by omega
  rcases h with h | h
  · exact .inl (hs.edge_c hc hd (by rw [edgeAt_nat, edgeAt_nat, h.1, h.2]))
  · right
    have h0 : 0 ≤ opp T (c : Nat) := by
      rw [opp_nat]
      exact facing_of hd (by rw [edgeAt_nat, h.1, h.2])
    obtain ⟨o, o1, o2, -, o4, o5⟩ := hs.opp_opp hc h0
    rw [o1]
    have := hs.edge_c o2 hd (by rw [edgeAt_nat, edgeAt_nat, o4, o5, h.1, h.2])
    omega
/-- A list of all edges, each once, is as long. -/
theorem keys_len (hs : Surf n T) {D : List (Int × Int)} (hn : D.Nodup) (hD : ∀ e, e ∈ D ↔ ∃ c, c < 3 * T.length ∧ e = ukey T c) : D.length = eAll T := by
  obtain ⟨A, hA⟩ : ∃ A, A = (List.range (3 * T.length)).filter fun x : Nat => decide (opp T (x : Nat) < (x : Nat)) := ⟨_, rfl⟩
  have mA : ∀ x, x ∈ A ↔ x < 3 * T.length ∧ opp T (x : Nat) < (x : Nat) := fun x => by rw [hA]; simp
  have he : eAll T = A.length := by rw [hA]; rfl
  have nA : A.Nodup := by rw [hA]; exact nodup_rf _ _
  have l1 := sub_len (A.map (ukey T)) D (nodup_on (fun a ha b hb e => by
    obtain ⟨a1, a2⟩ := (mA a).1 ha
    obtain ⟨b1, b2⟩ := (mA b).1 hb
    rcases ukey_same hs a1 b1 e with h | h
    · exact h
    · have := ukey_same hs b1 a1 e.symm
      rcases this with h' | h'
      · exact h'.symm
      · omega) nA) (fun e he => by
    obtain ⟨c, hc, rfl⟩ := List.mem_map.1 he
    exact (hD _).2 ⟨c, ((mA c).1 hc).1, rfl⟩)
  have l2 := sub_len D (A.map (ukey T)) hn (fun e he => by
    obtain ⟨c, hc, rfl⟩ := (hD e).1 he
    by_cases h : opp T (c : Nat) < (c : Nat)
    · exact List.mem_map.2 ⟨c, (mA c).2 ⟨hc, h⟩, rfl⟩
    · obtain ⟨o, o1, o2, o3, o4, o5⟩ := hs.opp_opp hc (by omega)
      have hne : o ≠ c := fun e => by
        subst e
        exact ends_ne hs hc o4
      refine List.mem_map.2 ⟨o, (mA o).2 ⟨o2, by omega⟩, ?_⟩
      unfold ukey
      rw [o4, o5]
      simp only [Prod.mk.injEq]
      omega)
  rw [List.length_map] at l1 l2
  omega
end
theorem num_alike (a b c d e f : Int) (w : World) : (Op.equalIn 10000 33 (.agg #[.int .i64 a, .int .i64 b, .int .i64 c, .int .i64 d, .int .i64 e, .int .i64 f]) (.agg #[.int .i64 a, .int .i64 b, .int .i64 c, .int .i64 d, .int .i64 e, .int .i64 f])).run Tryz.prog w = .ok true w := by
  have := num_equal a b c d e f a b c d e f w
  simpa using this
/-- What GenusFormula asks of a shell. -/
def FormOK (V E F B Q G : Int) : Prop := Q = V - E + F ∧ Q = 2 - B - 2 * G ∧ 0 ≤ G ∧ 0 ≤ B ∧ 3 ≤ V ∧ 1 ≤ F
theorem nV_three {n : Nat} {T : List Tr} {L : Nat → Int} (hs : Surf n T) (hL : IsShells (Adj T) T.length L) {k : Nat} (hk : (k : Int) < cnt L T.length) : 3 ≤ nV T L n k := by
  obtain ⟨i, hi, hLi⟩ := hL.has hk
  obtain ⟨c, hc⟩ : ∃ c, c = 3 * i := ⟨_, rfl⟩
  have hc3 : c < 3 * T.length := by omega
  have hci : L (c / 3) = (k : Int) := by rw [show c / 3 = i by omega]; exact hLi
  obtain ⟨a, ha, ma⟩ := end_in hs hL hc3 hc3 rfl hci
  obtain ⟨u, hu, mu⟩ := end_in hs hL hc3 (nxn_lt hc3) (nxn_div c) hci
  obtain ⟨v, hv, mv⟩ := end_in hs hL hc3 (pvn_lt hc3) (pvn_div c) hci
  have n1 : a ≠ u := fun e => by
    have := hs.corner_one (x := c) (y := nxn c) hc3 (by rw [nxn_div]) (by rw [ha, hu, e])
    unfold nxn at this; omega
  have n2 : a ≠ v := fun e => by
    have := hs.corner_one (x := c) (y := pvn c) hc3 (by rw [pvn_div]) (by rw [ha, hv, e])
    unfold pvn at this; omega
  have n3 : u ≠ v := fun e => ends_ne hs hc3 (by rw [hu, hv, e])
  have := sub_len [a, u, v] (vertsOf T L n k) (by simp [n1, n2, n3]) (fun x hx => by
    simp only [List.mem_cons, List.not_mem_nil, or_false] at hx
    rcases hx with rfl | rfl | rfl <;> assumption)
  rw [verts_length] at this
  exact this
theorem form_ok {n : Nat} {T : List Tr} {L : Nat → Int} (hs : Surf n T) (hL : IsShells (Adj T) T.length L) {k : Nat} (hk : (k : Int) < cnt L T.length) : FormOK (nV T L n k) ((nT T L k / 2 : Nat) : Int) (nF T L k) (nB T L n k) (euK T L n k) (gnK T L n k) := by
  obtain ⟨h1, h2⟩ := euler_ok hs hL hk
  have h3 := nV_three hs hL hk
  have h4 : 0 < nF T L k := by
    obtain ⟨i, hi, e⟩ := hL.has hk
    exact cntK_pos.2 ⟨i, hi, e⟩
  exact ⟨rfl, h2, h1, by omega, by omega, by omega⟩
set_option maxRecDepth 100000 in
set_option maxHeartbeats 8000000 in
theorem formula14 (N : Int) (ao : Option Addr) (cap : Nat) (T : List Tr) (w : World) (hT : TrisAt w ao T) (hm : T.length ≤ 9223372036854775807) :
    Calls Tryz.prog 5 #[.agg #[.int .i64 N, .slice ao T.length cap]] w fun e w' => e = .returned (.bool true) ∧ Below w.heap.size w w' := by
  obtain ⟨W0, hW0⟩ : ∃ W0, W0 = w.alloc (.cells #[.int .i64 N, .slice ao T.length cap] 24) := ⟨_, rfl⟩
  have hb0 : Below w.heap.size w W0 := by rw [hW0]; exact (Below.refl _ _).alloc (Nat.le_refl _) _
  have hr0 : RowIs W0 w.heap.size 24 [.int .i64 N, .slice ao T.length cap] := by rw [hW0]; exact RowIs.made w 24 [.int .i64 N, .slice ao T.length cap]
  have HT := Lib.hid (hT.mono (Nat.le_refl _) hb0)
  have HM := Lib.hid hm
  obtain ⟨xb, hxb⟩ : ∃ x, x = w.heap.size := ⟨_, rfl⟩
  rw [← hxb] at hr0
  have HXB := Lib.hid hxb
  have HR := Lib.hid hr0
  have HB0 := Lib.hid hb0
  have HW0 := Lib.hid hW0
  clear hb0 hr0 hW0 hT hm hxb
  go_enter Tryz.func5, Tryz.ntmps5
  go_upto_region 1 with fail
  simp only [← HXB.out]
  rw [← HW0.out]
  go_wp2_with fail
  refine (awake14 _).mono ?_
  rintro e w1 ⟨rfl, hb1⟩
  have HB1 := Lib.hid hb1
  have hr1 := HR.out.after hb1
  have x0 := hr1.cell (i := 0) rfl
  have x1 := hr1.cell (i := 1) rfl
  clear hb1 hr1
  go_wp2_with fail
  refine (laid_any N ao cap T w1 (HT.out.mono (Nat.le_refl _) HB1.out) HM.out).mono ?_
  intro e w2 hpost
  clear x0 x1
  rcases hpost with ⟨n, p, rfl, rfl, hp, htab, hfst, hs, hl40, hn60, hb2⟩ | ⟨rfl, -, hb2⟩
  case inr =>
    have HF := Lib.hid (below_more HB0.out (below_more HB1.out hb2 HB1.out.size) HB0.out.size)
    clear hb2
    go_wp2
    exact bodyPost_ret (v := .bool true) (by simp [results, Tryz.results5, go_sem]) rfl ⟨rfl, HF.out⟩
  case inl =>
  have HB12 := Lib.hid (below_more HB1.out hb2 HB1.out.size)
  have HB2 := Lib.hid (below_more HB0.out HB12.out HB0.out.size)
  obtain ⟨L, hL⟩ := shells_exist (Adj T) T.length
  obtain ⟨m, hm⟩ := Int.eq_ofNat_of_zero_le (cnt_nonneg L T.length)
  have hmn : m ≤ 40 := by have := hL.cnt_le; omega
  have hTW := HT.out.mono (Nat.le_refl _) HB12.out
  have hbx := HR.out.after HB12.out
  obtain ⟨W3, hW3⟩ : ∃ W3, W3 = w2.alloc (.cells #[.int .i64 0, .int .i64 0, .int .i64 0, .int .i64 0, .int .i64 0, .int .i64 0] 33) := ⟨_, rfl⟩
  have hb3 : Below w2.heap.size w2 W3 := by rw [hW3]; exact (Below.refl _ _).alloc (Nat.le_refl _) _
  have hr3 : RowIs W3 w2.heap.size 33 (iv (sumF (genF T L n) 0) 6) := by
    rw [hW3]; exact RowIs.made w2 33 (iv (fun _ => 0) 6)
  have HG := Lib.hid (genus_of p n m T L W3 (htab.mono (Nat.le_refl _) hb3) (hfst.mono (Nat.le_refl _) hb3) hs hL hm.symm)
  have HLE := Lib.hid (show ∀ i, -300000 ≤ genF T L n i ∧ genF T L n i ≤ 300000 from fun i => genF_le (by omega) (by omega) i)
  have HFO := Lib.hid (show ∀ k : Nat, k < m → _ from fun k hk => form_ok hs hL (k := k) (by omega))
  have HWA := Lib.hid (show ∀ X, Hid (Below w2.heap.size w2 X) → Calls Tryz.prog 12 #[.pointer (some ⟨p, 0, none⟩)] X fun e w' => e = .returned (.agg #[.int .i64 (sumF (genF T L n) m 0), .int .i64 (sumF (genF T L n) m 1), .int .i64 (sumF (genF T L n) m 2), .int .i64 (sumF (genF T L n) m 3), .int .i64 (sumF (genF T L n) m 4), .int .i64 (sumF (genF T L n) m 5)]) ∧ Hid (Below X.heap.size X w') ∧ Hid (Below w2.heap.size w2 w') from fun X h =>
    (whole_ok p n m T L X (htab.mono (Nat.le_refl _) h.out) (hfst.mono (Nat.le_refl _) h.out) hs hL hm.symm).mono fun e w' ⟨h1, h3⟩ => ⟨h1, h3, below_more h.out h3 h.out.size⟩)
  have HED := Lib.hid (show ∀ X, Hid (Below w2.heap.size w2 X) → Calls Tryz.prog 18 #[.agg #[.int .i64 (n : Int), .slice ao T.length cap]] X fun e w' => (∃ ea ec, e = .returned (.slice ea (eAll T) ec)) ∧ Hid (Below X.heap.size X w') ∧ Hid (Below w2.heap.size w2 w') from fun X h =>
    (soupedges_any n ao cap T X hs (hTW.mono (Nat.le_refl _) h.out)).mono fun e w' ⟨ea, ec, D, hD, h1, h2, h3⟩ => ⟨⟨ea, ec, by rw [h1, keys_len hs hD.1 hD.2]⟩, h3, below_more h.out h3 h.out.size⟩)
  have HLO := Lib.hid (show ∀ X, Hid (Below w2.heap.size w2 X) → Calls Tryz.prog 19 #[.pointer (some ⟨p, 0, none⟩)] X fun e w' => (∃ la lc, e = .returned (.slice la (loopsL (bordE T (3 * T.length)) n).length lc)) ∧ Hid (Below X.heap.size X w') ∧ Hid (Below w2.heap.size w2 w') from fun X h =>
    (loops_ok p n T X (htab.mono (Nat.le_refl _) h.out) hs).mono fun e w' ⟨v, vs, h1, h2, _, h3⟩ => by
      obtain ⟨la, lc, rfl⟩ := owns_slice h2
      exact ⟨⟨la, lc, h1⟩, h3, below_more h.out h3 h.out.size⟩)
  have HBE := Lib.hid (show ∀ X, Hid (Below w2.heap.size w2 X) → Calls Tryz.prog 20 #[.pointer (some ⟨p, 0, none⟩)] X fun e w' => (∃ la lc, e = .returned (.slice la (bordE T (3 * T.length)).length lc)) ∧ Hid (Below X.heap.size X w') ∧ Hid (Below w2.heap.size w2 w') from fun X h =>
    (edges_any p n T X (htab.mono (Nat.le_refl _) h.out)).mono fun e w' ⟨la, lc, h1, _, h3⟩ => ⟨⟨la, lc, h1⟩, h3, below_more h.out h3 h.out.size⟩)
  have hV := sum_V hs hL hm.symm
  have hE := sum_E hs hL hm.symm
  have hF := sum_F (n := n) hL hm.symm
  have hB := sum_B hs hL hm.symm
  have h3E := edges_tris hs
  have hEl : eAll T ≤ 1000 := by have := bordE_le T (3 * T.length); omega
  have hBl := bordE_le T (3 * T.length)
  have hLl : (loopsL (bordE T (3 * T.length)) n).length ≤ 100 := by rw [loopsL_heads, List.length_map]; have := headsB_le (bordE T (3 * T.length)) n; omega
  obtain ⟨Φ, hΦ⟩ : ∃ Φ, Φ = genF T L n := ⟨_, rfl⟩
  have HG0 := Lib.hid (show ∀ k : Nat, Φ (k * 6) = (nV T L n k : Int) ∧ Φ (k * 6 + 1) = ((nT T L k / 2 : Nat) : Int) ∧ Φ (k * 6 + 2) = (nF T L k : Int) ∧ Φ (k * 6 + 3) = (nB T L n k : Int) ∧ Φ (k * 6 + 4) = euK T L n k ∧ Φ (k * 6 + 5) = gnK T L n k from fun k => by
    rw [hΦ]; exact ⟨gen0 T L n k, gen1 T L n k, gen2 T L n k, gen3 T L n k, gen4 T L n k, gen5 T L n k⟩)
  have HFO := Lib.hid (show ∀ k : Nat, k < m → FormOK (Φ (k * 6)) (Φ (k * 6 + 1)) (Φ (k * 6 + 2)) (Φ (k * 6 + 3)) (Φ (k * 6 + 4)) (Φ (k * 6 + 5)) from fun k hk => by
    obtain ⟨g0, g1, g2, g3, g4, g5⟩ := HG0.out k
    rw [g0, g1, g2, g3, g4, g5]; exact HFO.out k hk)
  rw [← hΦ] at HG HLE HWA hr3 hV hE hF hB
  obtain ⟨E, hEE⟩ : ∃ E, E = eAll T := ⟨_, rfl⟩
  obtain ⟨t, ht⟩ : ∃ t, t = T.length := ⟨_, rfl⟩
  obtain ⟨lb, hlb⟩ : ∃ lb, lb = (loopsL (bordE T (3 * T.length)) n).length := ⟨_, rfl⟩
  obtain ⟨be, hbe⟩ : ∃ be, be = (bordE T (3 * T.length)).length := ⟨_, rfl⟩
  rw [← hEE] at HED hE h3E hEl
  rw [← hlb] at HLO hB hLl
  rw [← hbe] at HBE h3E hBl
  rw [← ht] at HED hF h3E hBl hl40 hbx
  obtain ⟨s4, hs4⟩ : ∃ x, x = sumF Φ m 4 := ⟨_, rfl⟩
  obtain ⟨s5, hs5⟩ : ∃ x, x = sumF Φ m 5 := ⟨_, rfl⟩
  rw [hV, hE, hF, hB, ← hs4, ← hs5] at HWA
  have HV := Lib.hid (show sumF Φ m 0 = (n : Int) ∧ sumF Φ m 1 = (E : Int) ∧ sumF Φ m 2 = (t : Int) ∧ sumF Φ m 3 = (lb : Int) ∧ sumF Φ m 4 = s4 ∧ sumF Φ m 5 = s5 from ⟨hV, hE, hF, hB, hs4.symm, hs5.symm⟩)
  have HX := Lib.hid hbx
  have HR3 := Lib.hid hr3
  have HB3 := Lib.hid hb3
  have HW3 := Lib.hid hW3
  obtain ⟨xa, hxa⟩ : ∃ x, x = w2.heap.size := ⟨_, rfl⟩
  have HXA := Lib.hid hxa
  rw [← hxa] at HR3
  have hxl := HX.out.lt
  clear hs4 hs5 htab hfst hs hL hm hTW hbx hΦ hb2 hp HT HR HB12 hb3 hr3 hW3 hxa hV hE hF hB hEE hlb hbe ht HG0
  go_upto_region 7 with fail
  simp only [← HXA.out]
  rw [← HW3.out]
  go_wp2_with fail
  refine HG.out.mono ?_
  rintro e W4 ⟨go, rfl, hgo, hro, hb4⟩
  have HRO := Lib.hid hro
  have hlt := hro.lt
  have HB4 := Lib.hid (below_more HB3.out hb4 HB3.out.size)
  have HROW4 := Lib.hid (HR3.out.after hb4)
  have hxa4 : xa < go := by have := HR3.out.lt; omega
  have HXB4 := Lib.hid (show xb < xa from by rw [HXA.out]; exact hxl)
  clear hro hb4 HG hgo hxl
  go_wp2
  go_loopw [16] (fun i ws => ∃ k : Nat, k ≤ m ∧ i = .int .i64 k ∧ RowIs ws xa 33 (iv (sumF Φ k) 6) ∧ But W4.heap.size xa W4 ws ∧ W4.heap.size ≤ ws.heap.size) (fun i _ => m - (intOf i).toNat)
  case atStart => exact ⟨0, by omega, rfl, HROW4.out, But.refl _ _ _, Nat.le_refl _⟩
  case round =>
  obtain ⟨k, hk, rfl, hrow, hbut, hsz⟩ := hrel
  obtain ⟨X, rfl⟩ : ∃ X : World, X = wr := ⟨_, rfl⟩
  have HROW := Lib.hid hrow
  have HBUT := Lib.hid hbut
  have HSZ := Lib.hid hsz
  clear hrow hbut hsz
  by_cases hkm : k < m
  case neg =>
    obtain rfl : m = k := by omega
    have HBW := Lib.hid (show Below w2.heap.size w2 X from HB4.out.trans (HBUT.out.below HB4.out.size (by rw [HXA.out]; exact Nat.le_refl _)))
    have p0 := HROW.out.cell (iv_get (sumF Φ m) (show 0 < 6 by omega))
    have p1 := HROW.out.cell (iv_get (sumF Φ m) (show 1 < 6 by omega))
    have p2 := HROW.out.cell (iv_get (sumF Φ m) (show 2 < 6 by omega))
    have p3 := HROW.out.cell (iv_get (sumF Φ m) (show 3 < 6 by omega))
    have p4 := HROW.out.cell (iv_get (sumF Φ m) (show 4 < 6 by omega))
    have p5 := HROW.out.cell (iv_get (sumF Φ m) (show 5 < 6 by omega))
    obtain ⟨v0, v1, v2, v3, v4, v5⟩ := HV.out
    rw [v0] at p0
    rw [v1] at p1
    rw [v2] at p2
    rw [v3] at p3
    rw [v4] at p4
    rw [v5] at p5
    have HP := Lib.hid (show X.cell? ⟨xa, 0, none⟩ = some (.int .i64 (n : Int)) ∧ X.cell? ⟨xa, 1, none⟩ = some (.int .i64 (E : Int)) ∧ X.cell? ⟨xa, 2, none⟩ = some (.int .i64 (t : Int)) ∧ X.cell? ⟨xa, 3, none⟩ = some (.int .i64 (lb : Int)) ∧ X.cell? ⟨xa, 4, none⟩ = some (.int .i64 s4) ∧ X.cell? ⟨xa, 5, none⟩ = some (.int .i64 s5) from ⟨p0, p1, p2, p3, p4, p5⟩)
    have hxl2 := HROW.out.lt
    have HKS := Lib.hid (show ∀ Y, Hid (Below X.heap.size X Y) → Y.cell? ⟨xa, 0, none⟩ = some (.int .i64 (n : Int)) ∧ Y.cell? ⟨xa, 1, none⟩ = some (.int .i64 (E : Int)) ∧ Y.cell? ⟨xa, 2, none⟩ = some (.int .i64 (t : Int)) ∧ Y.cell? ⟨xa, 3, none⟩ = some (.int .i64 (lb : Int)) ∧ Y.cell? ⟨xa, 4, none⟩ = some (.int .i64 s4) ∧ Y.cell? ⟨xa, 5, none⟩ = some (.int .i64 s5) ∧ Y.cell? ⟨xb, 0, none⟩ = some (.int .i64 (n : Int)) ∧ Y.cell? ⟨xb, 1, none⟩ = some (.slice ao t cap) from fun Y h => by
      obtain ⟨p0, p1, p2, p3, p4, p5⟩ := HP.out
      have hx := ((HX.out.after HBW.out).after h.out)
      exact ⟨(h.out.cell (p := ⟨xa, 0, none⟩) hxl2).trans p0, (h.out.cell (p := ⟨xa, 1, none⟩) hxl2).trans p1, (h.out.cell (p := ⟨xa, 2, none⟩) hxl2).trans p2, (h.out.cell (p := ⟨xa, 3, none⟩) hxl2).trans p3, (h.out.cell (p := ⟨xa, 4, none⟩) hxl2).trans p4, (h.out.cell (p := ⟨xa, 5, none⟩) hxl2).trans p5, hx.cell (i := 0) rfl, hx.cell (i := 1) rfl⟩)
    have HWA' := Lib.hid (show ∀ Y, Hid (Below X.heap.size X Y) → Calls Tryz.prog 12 #[.pointer (some ⟨p, 0, none⟩)] Y fun e w' => e = .returned (.agg #[.int .i64 (n : Int), .int .i64 (E : Int), .int .i64 (t : Int), .int .i64 (lb : Int), .int .i64 s4, .int .i64 s5]) ∧ Hid (Below X.heap.size X w') from fun Y h =>
      (HWA.out Y (Lib.hid (below_more HBW.out h.out HBW.out.size))).mono fun e w' ⟨h1, h2, _⟩ => ⟨h1, Lib.hid (below_more h.out h2.out h.out.size)⟩)
    have HED' := Lib.hid (show ∀ Y, Hid (Below X.heap.size X Y) → Calls Tryz.prog 18 #[.agg #[.int .i64 (n : Int), .slice ao t cap]] Y fun e w' => (∃ ea ec, e = .returned (.slice ea E ec)) ∧ Hid (Below X.heap.size X w') from fun Y h =>
      (HED.out Y (Lib.hid (below_more HBW.out h.out HBW.out.size))).mono fun e w' ⟨h1, h2, _⟩ => ⟨h1, Lib.hid (below_more h.out h2.out h.out.size)⟩)
    have HLO' := Lib.hid (show ∀ Y, Hid (Below X.heap.size X Y) → Calls Tryz.prog 19 #[.pointer (some ⟨p, 0, none⟩)] Y fun e w' => (∃ ea ec, e = .returned (.slice ea lb ec)) ∧ Hid (Below X.heap.size X w') from fun Y h =>
      (HLO.out Y (Lib.hid (below_more HBW.out h.out HBW.out.size))).mono fun e w' ⟨h1, h2, _⟩ => ⟨h1, Lib.hid (below_more h.out h2.out h.out.size)⟩)
    have HBE' := Lib.hid (show ∀ Y, Hid (Below X.heap.size X Y) → Calls Tryz.prog 20 #[.pointer (some ⟨p, 0, none⟩)] Y fun e w' => (∃ ea ec, e = .returned (.slice ea be ec)) ∧ Hid (Below X.heap.size X w') from fun Y h =>
      (HBE.out Y (Lib.hid (below_more HBW.out h.out HBW.out.size))).mono fun e w' ⟨h1, h2, _⟩ => ⟨h1, Lib.hid (below_more h.out h2.out h.out.size)⟩)
    have hcmp : ∀ Y : World, (Op.equalIn 10000 33 (.agg #[.int .i64 (n : Int), .int .i64 (E : Int), .int .i64 (t : Int), .int .i64 (lb : Int), .int .i64 s4, .int .i64 s5]) (.agg #[.int .i64 (n : Int), .int .i64 (E : Int), .int .i64 (t : Int), .int .i64 (lb : Int), .int .i64 s4, .int .i64 s5])).run Tryz.prog Y = .ok true Y := fun Y => num_alike (n : Int) (E : Int) (t : Int) (lb : Int) s4 s5 Y
    have HRF := Lib.hid (Below.refl X.heap.size X)
    have HDR := Lib.hid (show Below X.heap.size X X.drew from ⟨rfl, rfl, rfl, Nat.le_refl _, fun _ _ => rfl⟩)
    have hsum : ((3 : Int) * (t : Int) == 2 * (E : Int) - (be : Int)) = true := by simp; omega
    have hw1 : IntKind.i64.wrap (3 * (t : Int)) = 3 * (t : Int) := IntWalk.i64_in _ (by omega)
    have hw2 : IntKind.i64.wrap (2 * (E : Int)) = 2 * (E : Int) := IntWalk.i64_in _ (by omega)
    have hw3 : IntKind.i64.wrap (2 * (E : Int) - (be : Int)) = 3 * (t : Int) := by
      have : 2 * (E : Int) - (be : Int) = 3 * (t : Int) := by omega
      rw [this]; exact IntWalk.i64_in _ (by omega)
    have HF0 := Lib.hid (below_more HB0.out (HB1.out) HB0.out.size)
    clear p0 p1 p2 p3 p4 p5 v0 v1 v2 v3 v4 v5 h3E hlt hkm hk
    go_upto_region 14 with fail
    go_region_held3 (fun Y => Y.cell? ⟨xa, 0, none⟩ = some (.int .i64 (n : Int)) ∧ Y.cell? ⟨xa, 1, none⟩ = some (.int .i64 (E : Int)) ∧ Y.cell? ⟨xa, 2, none⟩ = some (.int .i64 (t : Int)) ∧ Y.cell? ⟨xa, 3, none⟩ = some (.int .i64 (lb : Int)) ∧ Y.cell? ⟨xa, 4, none⟩ = some (.int .i64 s4) ∧ Y.cell? ⟨xa, 5, none⟩ = some (.int .i64 s5) ∧ Y.cell? ⟨xb, 0, none⟩ = some (.int .i64 (n : Int)) ∧ Y.cell? ⟨xb, 1, none⟩ = some (.slice ao t cap))
      (exact HKS.out _ (by assumption))
      (first
        | (go_at_call 12; (with_reducible refine (HWA'.out _ (by assumption)).mono ?_); rintro e wG ⟨rfl, hG⟩)
        | (go_at_call 18; (with_reducible refine (HED'.out _ (by assumption)).mono ?_); rintro e wE ⟨⟨ea, ec, rfl⟩, hE⟩)
        | (go_at_call 19; (with_reducible refine (HLO'.out _ (by assumption)).mono ?_); rintro e wL ⟨⟨la, lc, rfl⟩, hL⟩)
        | (go_at_call 20; (with_reducible refine (HBE'.out _ (by assumption)).mono ?_); rintro e wB ⟨⟨ba, bc, rfl⟩, hB⟩))
    all_goals
      have HFF := Lib.hid (below_more HB2.out (below_more HBW.out hB.out HBW.out.size) HB2.out.size)
      go_wp2
      exact bodyPost_ret (v := .bool true) (by simp [results, Tryz.results5, go_sem]) rfl ⟨rfl, HFF.out⟩
  case pos =>
  have hro := HBUT.out.row HRO.out hlt (by omega)
  have p0 := hro.cell (iv_get Φ (show k * 6 < 6 * m by omega))
  have p1 := hro.cell (iv_get Φ (show k * 6 + 1 < 6 * m by omega))
  have p2 := hro.cell (iv_get Φ (show k * 6 + 2 < 6 * m by omega))
  have p3 := hro.cell (iv_get Φ (show k * 6 + 3 < 6 * m by omega))
  have p4 := hro.cell (iv_get Φ (show k * 6 + 4 < 6 * m by omega))
  have p5 := hro.cell (iv_get Φ (show k * 6 + 5 < 6 * m by omega))
  obtain ⟨f0, hf0⟩ : ∃ x, x = Φ (k * 6) := ⟨_, rfl⟩
  rw [← hf0] at p0
  obtain ⟨f1, hf1⟩ : ∃ x, x = Φ (k * 6 + 1) := ⟨_, rfl⟩
  rw [← hf1] at p1
  obtain ⟨f2, hf2⟩ : ∃ x, x = Φ (k * 6 + 2) := ⟨_, rfl⟩
  rw [← hf2] at p2
  obtain ⟨f3, hf3⟩ : ∃ x, x = Φ (k * 6 + 3) := ⟨_, rfl⟩
  rw [← hf3] at p3
  obtain ⟨f4, hf4⟩ : ∃ x, x = Φ (k * 6 + 4) := ⟨_, rfl⟩
  rw [← hf4] at p4
  obtain ⟨f5, hf5⟩ : ∃ x, x = Φ (k * 6 + 5) := ⟨_, rfl⟩
  rw [← hf5] at p5
  have hfo := HFO.out k hkm
  rw [← hf0, ← hf1, ← hf2, ← hf3, ← hf4, ← hf5] at hfo
  obtain ⟨e1, e2, e3, e4, e5, e6⟩ := hfo
  obtain ⟨X1, hX1⟩ : ∃ X1, X1 = X.alloc (.cells #[.int .i64 f0, .int .i64 f1, .int .i64 f2, .int .i64 f3, .int .i64 f4, .int .i64 f5] 33) := ⟨_, rfl⟩
  have hbX : Below X.heap.size X X1 := by rw [hX1]; exact (Below.refl _ _).alloc (Nat.le_refl _) _
  have hrX : RowIs X1 X.heap.size 33 [.int .i64 f0, .int .i64 f1, .int .i64 f2, .int .i64 f3, .int .i64 f4, .int .i64 f5] := by rw [hX1]; exact RowIs.made X 33 [.int .i64 f0, .int .i64 f1, .int .i64 f2, .int .i64 f3, .int .i64 f4, .int .i64 f5]
  have HX1 := Lib.hid hX1
  have HF0 := Lib.hid hf0
  have bf0 := HLE.out (k * 6)
  rw [← hf0] at bf0
  have o0 := (HROW.out.after hbX).cell (iv_get (sumF Φ k) (show 0 < 6 by omega))
  obtain ⟨r0, hs0⟩ : ∃ x, x = sumF Φ k 0 := ⟨_, rfl⟩
  rw [← hs0] at o0
  have bs0 := sumF_le HLE.out 0 k
  rw [← hs0] at bs0
  have HS0 := Lib.hid hs0
  have q0 := hrX.cell (i := 0) rfl
  have a0 : -4000000000 ≤ r0 ∧ r0 ≤ 4000000000 := by omega
  have c0 : -300000 ≤ f0 ∧ f0 ≤ 300000 := bf0
  have HF1 := Lib.hid hf1
  have bf1 := HLE.out (k * 6 + 1)
  rw [← hf1] at bf1
  have o1 := (HROW.out.after hbX).cell (iv_get (sumF Φ k) (show 1 < 6 by omega))
  obtain ⟨r1, hs1⟩ : ∃ x, x = sumF Φ k 1 := ⟨_, rfl⟩
  rw [← hs1] at o1
  have bs1 := sumF_le HLE.out 1 k
  rw [← hs1] at bs1
  have HS1 := Lib.hid hs1
  have q1 := hrX.cell (i := 1) rfl
  have a1 : -4000000000 ≤ r1 ∧ r1 ≤ 4000000000 := by omega
  have c1 : -300000 ≤ f1 ∧ f1 ≤ 300000 := bf1
  have HF2 := Lib.hid hf2
  have bf2 := HLE.out (k * 6 + 2)
  rw [← hf2] at bf2
  have o2 := (HROW.out.after hbX).cell (iv_get (sumF Φ k) (show 2 < 6 by omega))
  obtain ⟨r2, hs2⟩ : ∃ x, x = sumF Φ k 2 := ⟨_, rfl⟩
  rw [← hs2] at o2
  have bs2 := sumF_le HLE.out 2 k
  rw [← hs2] at bs2
  have HS2 := Lib.hid hs2
  have q2 := hrX.cell (i := 2) rfl
  have a2 : -4000000000 ≤ r2 ∧ r2 ≤ 4000000000 := by omega
  have c2 : -300000 ≤ f2 ∧ f2 ≤ 300000 := bf2
  have HF3 := Lib.hid hf3
  have bf3 := HLE.out (k * 6 + 3)
  rw [← hf3] at bf3
  have o3 := (HROW.out.after hbX).cell (iv_get (sumF Φ k) (show 3 < 6 by omega))
  obtain ⟨r3, hs3⟩ : ∃ x, x = sumF Φ k 3 := ⟨_, rfl⟩
  rw [← hs3] at o3
  have bs3 := sumF_le HLE.out 3 k
  rw [← hs3] at bs3
  have HS3 := Lib.hid hs3
  have q3 := hrX.cell (i := 3) rfl
  have a3 : -4000000000 ≤ r3 ∧ r3 ≤ 4000000000 := by omega
  have c3 : -300000 ≤ f3 ∧ f3 ≤ 300000 := bf3
  have HF4 := Lib.hid hf4
  have bf4 := HLE.out (k * 6 + 4)
  rw [← hf4] at bf4
  have o4 := (HROW.out.after hbX).cell (iv_get (sumF Φ k) (show 4 < 6 by omega))
  obtain ⟨r4, hs4⟩ : ∃ x, x = sumF Φ k 4 := ⟨_, rfl⟩
  rw [← hs4] at o4
  have bs4 := sumF_le HLE.out 4 k
  rw [← hs4] at bs4
  have HS4 := Lib.hid hs4
  have q4 := hrX.cell (i := 4) rfl
  have a4 : -4000000000 ≤ r4 ∧ r4 ≤ 4000000000 := by omega
  have c4 : -300000 ≤ f4 ∧ f4 ≤ 300000 := bf4
  have HF5 := Lib.hid hf5
  have bf5 := HLE.out (k * 6 + 5)
  rw [← hf5] at bf5
  have o5 := (HROW.out.after hbX).cell (iv_get (sumF Φ k) (show 5 < 6 by omega))
  obtain ⟨r5, hs5⟩ : ∃ x, x = sumF Φ k 5 := ⟨_, rfl⟩
  rw [← hs5] at o5
  have bs5 := sumF_le HLE.out 5 k
  rw [← hs5] at bs5
  have HS5 := Lib.hid hs5
  have q5 := hrX.cell (i := 5) rfl
  have a5 : -4000000000 ≤ r5 ∧ r5 ≤ 4000000000 := by omega
  have c5 : -300000 ≤ f5 ∧ f5 ≤ 300000 := bf5
  have of := fun i => (HROW.out.after hbX).free i
  obtain ⟨X2, hX2⟩ : ∃ X2, X2 = ((((((X1.setCell ⟨xa, 0, none⟩ (.int .i64 (r0 + f0))).setCell ⟨xa, 1, none⟩ (.int .i64 (r1 + f1))).setCell ⟨xa, 2, none⟩ (.int .i64 (r2 + f2))).setCell ⟨xa, 3, none⟩ (.int .i64 (r3 + f3))).setCell ⟨xa, 4, none⟩ (.int .i64 (r4 + f4))).setCell ⟨xa, 5, none⟩ (.int .i64 (r5 + f5))) := ⟨_, rfl⟩
  have HX2 := Lib.hid hX2
  have HR2 := Lib.hid (show RowIs X2 xa 33 (iv (sumF Φ (k + 1)) 6) from by
    have h0 := (((((((HROW.out.after hbX).set 0 (.int .i64 (r0 + f0))).set 1 (.int .i64 (r1 + f1))).set 2 (.int .i64 (r2 + f2))).set 3 (.int .i64 (r3 + f3))).set 4 (.int .i64 (r4 + f4))).set 5 (.int .i64 (r5 + f5)))
    rw [iv_set, iv_set, iv_set, iv_set, iv_set, iv_set] at h0
    rw [hX2, iv_congr (h := upd (upd (upd (upd (upd (upd (sumF Φ k) 0 (r0 + f0)) 1 (r1 + f1)) 2 (r2 + f2)) 3 (r3 + f3)) 4 (r4 + f4)) 5 (r5 + f5)) (fun i hi => ?_)]
    · exact h0
    · unfold upd
      match i, hi with
      | 0, _ => simp [sumF, hs0, hf0, Nat.mul_comm]
      | 1, _ => simp [sumF, hs1, hf1, Nat.mul_comm]
      | 2, _ => simp [sumF, hs2, hf2, Nat.mul_comm]
      | 3, _ => simp [sumF, hs3, hf3, Nat.mul_comm]
      | 4, _ => simp [sumF, hs4, hf4, Nat.mul_comm]
      | 5, _ => simp [sumF, hs5, hf5, Nat.mul_comm])
  have hb1' := HBUT.out.more hbX HSZ.out
  have HB2' := Lib.hid (show But W4.heap.size xa W4 X2 ∧ W4.heap.size ≤ X2.heap.size from by
    have hg := grown_tr (grown_tr (grown_tr (grown_tr (grown_tr (grown_set X1 xa 0 (.int .i64 (r0 + f0))) (grown_set _ xa 1 (.int .i64 (r1 + f1)))) (grown_set _ xa 2 (.int .i64 (r2 + f2)))) (grown_set _ xa 3 (.int .i64 (r3 + f3)))) (grown_set _ xa 4 (.int .i64 (r4 + f4)))) (grown_set _ xa 5 (.int .i64 (r5 + f5)))
    rw [← hX2] at hg
    have h1 := hbX.size
    have h2 := HSZ.out
    exact ⟨hb1'.grown hg (by omega) (fun q hq => .inr (by cases hq; rfl)), by have := hg.size; omega⟩)
  have d1 : (f4 != f0 - f1 + f2) = false := by simp [← e1]
  have d2 : (f4 != 2 - f3 - 2 * f5) = false := by simp [← e2]
  have d3 : decide (f5 < 0) = false := by simp; omega
  have d4 : decide (f3 < 0) = false := by simp; omega
  have d5 : decide (f0 < 3) = false := by simp; omega
  have d6 : decide (f2 < 1) = false := by simp; omega
  clear hf0 hs0 bf0 bs0 hf1 hs1 bf1 bs1 hf2 hs2 bf2 bs2 hf3 hs3 bf3 bs3 hf4 hs4 bf4 bs4 hf5 hs5 bf5 bs5 hX1 hX2 hbX hrX hro hb1' e1 e2 e3 e4 e5 e6
  go_upto_region 10 with fail
  rw [← HX1.out]
  go_upto_region 13 with fail
  rw [← HX2.out]
  go_wp2
  go_roundw
  case rel => exact ⟨k + 1, by omega, by go_num, HR2.out, HB2'.out.1, HB2'.out.2⟩
  case measure => simp [intOf]; omega
end Go.Proofs.YtbeefabboabfgaaGreat

/- border.Edges; gypsumlaw12.Table of a surface. Where a bay ends. Plain. -/
import Derived.Test.YtknioobpoieohaaGreatFaceLaw
import Derived.Test.YtknioobpoieohaaGreatCornerNew
import Derived.Test.YtknioobpoieohaaGreatRefAll
import Derived.Deep.RegionHeld3
import Derived.Deep.DeepCutAuto
import Derived.Test.YtknioobpoieohaaGreatWholeLaw
namespace Go.Proofs.YtknioobpoieohaaGreat
set_option linter.unusedVariables false
set_option linter.unusedSimpArgs false
open Go.RowKit
/-- The border edges at the first k corners. -/
def bordE (T : List Tr) (k : Nat) : List (Int × Int) := ((List.range k).filter fun (c : Nat) => decide (opp T (c : Int) < 0)).map fun (c : Nat) => edgeAt T (c : Int)
theorem bordE_yes {T : List Tr} {k : Nat} (h : opp T (k : Int) < 0) : bordE T (k + 1) = bordE T k ++ [edgeAt T (k : Int)] := by simp [bordE, List.range_succ, h]
theorem bordE_no {T : List Tr} {k : Nat} (h : ¬ opp T (k : Int) < 0) : bordE T (k + 1) = bordE T k := by simp [bordE, List.range_succ, h]
theorem bordE_mem {T : List Tr} {k : Nat} {e : Int × Int} (h : e ∈ bordE T k) : ∃ c : Nat, c < k ∧ opp T (c : Int) < 0 ∧ edgeAt T (c : Int) = e := by
  simp only [bordE, List.mem_map, List.mem_filter, List.mem_range, decide_eq_true_eq] at h
  obtain ⟨c, ⟨h1, h2⟩, h3⟩ := h
  exact ⟨c, h1, h2, h3⟩
theorem bordE_le (T : List Tr) (k : Nat) : (bordE T k).length ≤ k := by
  have := List.length_filter_le (fun (c : Nat) => decide (opp T (c : Int) < 0)) (List.range k)
  simp [bordE] at *; omega
def ecells (E : List (Int × Int)) : List Value := E.flatMap fun e => [.int .i64 e.1, .int .i64 e.2]
theorem ecells_snoc (E : List (Int × Int)) (e : Int × Int) : ecells (E ++ [e]) = ecells E ++ [.int .i64 e.1, .int .i64 e.2] := by simp [ecells]
theorem ecells_length (E : List (Int × Int)) : (ecells E).length = E.length * 2 := by
  induction E with
  | nil => rfl
  | cons a l ih => simp [ecells] at ih ⊢; omega
/-- The edge with a number. -/
def E! (E : List (Int × Int)) (i : Nat) : Int × Int := E.getD i (0, 0)
theorem E!_mem {E : List (Int × Int)} {i : Nat} (h : i < E.length) : E! E i ∈ E := by
  unfold E!
  rw [List.getD_eq_getElem?_getD, List.getElem?_eq_getElem h]
  exact List.getElem_mem h
theorem ecells_get : ∀ (E : List (Int × Int)) (i : Nat), i < E.length → (ecells E)[i * 2]? = some (.int .i64 (E! E i).1) ∧ (ecells E)[i * 2 + 1]? = some (.int .i64 (E! E i).2)
  | [], i, h => by simp at h
  | e :: l, 0, _ => ⟨rfl, rfl⟩
  | e :: l, i + 1, h => by
    have ih := ecells_get l i (by simpa using h)
    have e1 : (i + 1) * 2 = i * 2 + 1 + 1 := by omega
    have e2 : (i + 1) * 2 + 1 = i * 2 + 1 + 1 + 1 := by omega
    rw [e1]
    exact ih
def EdgesAt (w : World) (ao : Option Addr) (E : List (Int × Int)) : Prop :=
  E ≠ [] → ∃ b off, ao = some ⟨b, off, none⟩ ∧ b < w.heap.size ∧ ∀ i, i < E.length → w.cell? ⟨b, off + i * 2, none⟩ = some (.int .i64 (E! E i).1) ∧ w.cell? ⟨b, off + i * 2 + 1, none⟩ = some (.int .i64 (E! E i).2)
theorem EdgesAt.mono {w w' : World} {ao : Option Addr} {E : List (Int × Int)} {B : Nat} (h : EdgesAt w ao E) (hB : w.heap.size ≤ B) (hb : Below B w w') : EdgesAt w' ao E := by
  intro hx
  obtain ⟨b, off, rfl, hlt, hc⟩ := h hx
  exact ⟨b, off, rfl, by have := hb.size; omega, fun i hi => ⟨(hb.cell (p := ⟨b, _, none⟩) (show b < B by omega)).trans (hc i hi).1, (hb.cell (p := ⟨b, _, none⟩) (show b < B by omega)).trans (hc i hi).2⟩⟩
theorem owns_edges {w : World} {base e : Nat} {v : Value} {E : List (Int × Int)} (h : w.ownsRow base e 2 v E.length (ecells E)) : ∃ ao cap, v = .slice ao E.length cap ∧ EdgesAt w ao E := by
  by_cases hn : 0 < E.length
  · obtain ⟨g, cap, rfl, hb, hg, hc, hm, hcell, _⟩ := owns_block h hn
    refine ⟨_, cap, rfl, fun _ => ⟨g, 0, rfl, hg, fun i hi => ?_⟩⟩
    rw [Nat.zero_add]
    exact ⟨hcell _ _ (ecells_get E i hi).1, hcell _ _ (ecells_get E i hi).2⟩
  · obtain ⟨ao, cap, rfl⟩ := owns_slice h
    exact ⟨ao, cap, rfl, fun hne => absurd (List.length_pos_iff.2 hne) hn⟩
theorem infoEdge : (Tryz.prog.info? 51).map (fun i => (i.zero, i.size, i.bytes)) = some (some (.agg #[.int .i64 0, .int .i64 0]), 2, 16) := by kernel_rfl
set_option maxRecDepth 100000 in
set_option maxHeartbeats 1000000 in
theorem edges_any (b : Nat) (N : Int) (T : List Tr) (w : World) (h : Tab w b N T) :
    Calls Tryz.prog 20 #[.pointer (some ⟨b, 0, none⟩)] w fun e w' => ∃ ao cap, e = .returned (.slice ao (bordE T (3 * T.length)).length cap) ∧ EdgesAt w' ao (bordE T (3 * T.length)) ∧ Below w.heap.size w w' := by
  obtain ⟨i0, hi, hz0, hz1, hz2⟩ := info_parts infoEdge
  have H := Lib.hid h
  have hlen := h.len
  have HTC := Lib.hid (triangles_any _ _ _ _ h.s)
  obtain ⟨len, hl⟩ : ∃ n, n = T.length := ⟨_, rfl⟩
  obtain ⟨l3, hl3⟩ : ∃ n, n = 3 * len := ⟨_, rfl⟩
  rw [← hl] at hlen HTC
  have h3 : (3 : Int) * (len : Int) = (l3 : Int) := by omega
  have h3l : l3 ≤ 30000 := by omega
  have hT3 : 3 * T.length = l3 := by omega
  rw [hT3]
  have HT3 := Lib.hid hT3
  clear h hl hl3 hT3
  go_enter Tryz.func20, Tryz.ntmps20
  go_wp2_with fail
  refine HTC.out.mono ?_
  rintro e w1 ⟨rfl, rfl⟩
  go_wp2
  go_loopw [10, 3] (fun c u ws => ∃ k : Nat, k ≤ l3 ∧ c = .int .i64 k ∧ ws.ownsRow w.heap.size 51 2 u (bordE T k).length (ecells (bordE T k)) ∧ Below w.heap.size w ws) (fun c _ _ => l3 - (intOf c).toNat)
  case atStart => exact ⟨0, by omega, rfl, by exact World.ownsRow_nil _ _ _ _, Below.refl _ _⟩
  case round =>
  obtain ⟨k, hk, rfl, hown, hb⟩ := hrel
  obtain ⟨X, rfl⟩ : ∃ X : World, X = wr := ⟨_, rfl⟩
  by_cases hlt : k < l3
  case neg =>
    obtain rfl : k = l3 := by omega
    obtain ⟨a, c, e, he⟩ := owns_edges hown
    subst e
    have HE := Lib.hid he
    have HB := Lib.hid hb
    clear hown hb he
    go_wp2
    go_ret
    exact ⟨a, c, rfl, HE.out, HB.out⟩
  case pos =>
  have hOP := opp_any (k : Int) X b N T (H.out.mono (Nat.le_refl _) hb) (by omega) (by have := HT3.out; omega)
  obtain ⟨o, ho⟩ : ∃ o, o = opp T (k : Int) := ⟨_, rfl⟩
  rw [← ho] at hOP
  have HOP := Lib.hid hOP
  have HO := Lib.hid ho
  have HW := Lib.hid hown
  have HB := Lib.hid hb
  have hle := bordE_le T k
  clear hown hb hOP ho
  by_cases hneg : o < 0
  case neg =>
    have d0 : decide (o < 0) = false := by simpa using hneg
    have HE := Lib.hid (show bordE T (k + 1) = bordE T k from bordE_no (by rw [← HO.out]; exact hneg))
    clear hneg
    go_wp2_with fail
    refine HOP.out.mono ?_
    rintro e w2 ⟨rfl, hb2⟩
    have HB2 := Lib.hid (below_more HB.out hb2 HB.out.size)
    have HW2 := Lib.hid (owns_below HW.out hb2)
    clear hb2
    go_wp2
    go_roundw
    case rel => exact ⟨k + 1, by omega, by go_num, by rw [HE.out]; exact HW2.out, HB2.out⟩
    case measure => simp [intOf]; omega
  case pos =>
  have d0 : decide (o < 0) = true := by simpa using hneg
  have HE := Lib.hid (show bordE T (k + 1) = bordE T k ++ [edgeAt T (k : Int)] from bordE_yes (by rw [← HO.out]; exact hneg))
  clear hneg
  go_wp2_with fail
  refine HOP.out.mono ?_
  rintro e w2 ⟨rfl, hb2⟩
  have HB2 := Lib.hid (below_more HB.out hb2 HB.out.size)
  have HW2 := Lib.hid (owns_below HW.out hb2)
  have hED := edge_any (k : Int) w2 b N T H.out.len ((H.out.mono (Nat.le_refl _) HB2.out).s) (by omega) (by have := HT3.out; omega)
  obtain ⟨p, hp⟩ : ∃ p, p = vt T (nx (k : Int)) := ⟨_, rfl⟩
  obtain ⟨q, hq⟩ : ∃ q, q = vt T (pv (k : Int)) := ⟨_, rfl⟩
  rw [← hp, ← hq] at hED
  have HEQ := Lib.hid (show edgeAt T (k : Int) = (p, q) from by rw [hp, hq]; rfl)
  have HED := Lib.hid hED
  clear hb2 hED hp hq
  go_wp2_with fail
  refine HED.out.mono ?_
  rintro e w3 ⟨rfl, hb3⟩
  have HB3 := Lib.hid (below_more HB2.out hb3 HB2.out.size)
  have HW3 := Lib.hid (owns_below HW2.out hb3)
  clear hb3
  go_wp2_with (at_builtin; refine wpList_append_new _ rfl _ _ 48 rfl w.heap.size 51 i0 _ 2 16 (by kernel_rfl) hi hz0 hz1 hz2 rfl (by decide) _ _ _ rfl HW3.out _ _ _ rfl (by first | rfl | simp) rfl ?_ ?_ ?_ ?_ ?_)
  all_goals first | rfl | omega | (unfold maxLen; omega) | exact ⟨rfl, rfl⟩ | exact ⟨rfl, rfl, rfl⟩ | exact HB3.out.size | skip
  · intro v' w5 hown5 hbel hgr
    have HW5 := Lib.hid hown5
    have HB5 := Lib.hid (hbel w.heap.size _ (Nat.le_refl _) HB3.out)
    clear hown5 hbel hgr
    go_wp2
    go_roundw
    case rel => exact ⟨k + 1, by omega, by go_num, by
      rw [HE.out, HEQ.out, ecells_snoc, List.length_append]
      exact HW5.out, HB5.out⟩
    case measure => simp [intOf]; omega
set_option maxRecDepth 100000 in
set_option maxHeartbeats 1000000 in
theorem table12 (n : Nat) (ao : Option Addr) (cap : Nat) (T : List Tr) (w : World) (hT : TrisAt w ao T) (hs : Surf n T) (hl : T.length ≤ 40) :
    Calls Tryz.prog 19 #[.agg #[.int .i64 (n : Int), .slice ao T.length cap]] w fun e w' => ∃ p, e = .returned (.pointer (some ⟨p, 0, none⟩)) ∧ w.heap.size ≤ p ∧ Tab w' p n T ∧ Below w.heap.size w w' := by
  obtain ⟨W0, hW0⟩ : ∃ W0, W0 = w.alloc (.cells #[.int .i64 (n : Int), .slice ao T.length cap] 24) := ⟨_, rfl⟩
  have hb0 : Below w.heap.size w W0 := by rw [hW0]; exact (Below.refl _ _).alloc (Nat.le_refl _) _
  have hr0 : RowIs W0 w.heap.size 24 [.int .i64 (n : Int), .slice ao T.length cap] := by rw [hW0]; exact RowIs.made w 24 [.int .i64 (n : Int), .slice ao T.length cap]
  have HSU := Lib.hid (surface_iff (n : Int) ao cap T W0 (hT.mono (Nat.le_refl _) hb0) (by omega))
  have HNEW := Lib.hid (fun (X : World) (h : TrisAt X ao T) => new_ok n ao cap T X h hs)
  have HT := Lib.hid (hT.mono (Nat.le_refl _) hb0)
  have HS := Lib.hid hs
  obtain ⟨xb, hxb⟩ : ∃ x, x = w.heap.size := ⟨_, rfl⟩
  obtain ⟨len, hlen⟩ : ∃ l, l = T.length := ⟨_, rfl⟩
  rw [← hlen] at hl hW0 hr0 HSU HNEW ⊢
  rw [← hxb] at hr0
  have d0 : decide ((len : Int) > 40) = false := by simp; omega
  have d1 : decide ((40 : Int) < (len : Int)) = false := by simp; omega
  have HB0 := Lib.hid hb0
  have HR0 := Lib.hid hr0
  have HW0 := Lib.hid hW0
  have HXB := Lib.hid hxb
  clear hT hb0 hr0 hlen hW0 hxb hs
  go_enter Tryz.func19, Tryz.ntmps19
  go_upto_region 1 with fail
  rw [← HW0.out, ← HXB.out]
  have c0 := HR0.out.cell (i := 0) rfl
  have c1 := HR0.out.cell (i := 1) rfl
  go_wp2_with fail
  refine HSU.out.mono ?_
  rintro e w1 ⟨r, rfl, hr, hb1⟩
  obtain rfl : r = true := hr.2 HS.out
  have HB1 := Lib.hid (below_more HB0.out hb1 HB0.out.size)
  have HN1 := Lib.hid (HNEW.out w1 (HT.out.mono (Nat.le_refl _) hb1))
  have hr1 := HR0.out.after hb1
  have c0 := hr1.cell (i := 0) rfl
  have c1 := hr1.cell (i := 1) rfl
  clear hr hb1 hr1
  go_wp2_with fail
  refine HN1.out.mono ?_
  rintro e w2 ⟨p, rfl, hp, htab, hb2⟩
  have HB2 := Lib.hid (below_more HB1.out hb2 HB1.out.size)
  have HP := Lib.hid hp
  have HPW := Lib.hid (show w.heap.size ≤ p from Nat.le_trans HB1.out.size hp)
  have HF := Lib.hid (show ∀ o, Tab (w2.alloc o) p n T ∧ Below w.heap.size w (w2.alloc o) from fun o => ⟨htab.mono (Nat.le_refl _) ((Below.refl _ _).alloc (Nat.le_refl _) o), HB2.out.alloc HB2.out.size o⟩)
  clear hp htab hb2
  go_wp2
  go_ret
  exact ⟨p, rfl, HPW.out, (HF.out _).1, (HF.out _).2⟩
section
variable {n : Nat} {T : List Tr} {bays : List Int} {bay : Int} {L : Nat → Int} {F : List Nat}
theorem CutIs.ne1 (hc : CutIs T bays bay L F) (hs : Surf n T) {t : Nat} (ht : t < T.length) (hb : I! bays t = bay) : F.length ≠ 1 := by
  obtain ⟨k0, -, h0, e0⟩ := hc.old hs (c := 3 * t + 0) (by omega) (by rw [show (3 * t + 0) / 3 = t by omega]; exact hb)
  obtain ⟨k1, -, h1, e1⟩ := hc.old hs (c := 3 * t + 1) (by omega) (by rw [show (3 * t + 1) / 3 = t by omega]; exact hb)
  intro e
  obtain rfl : k0 = k1 := by omega
  rw [vt3 T t (by omega)] at e0 e1
  have := tg_inj (hs.noloop t ht) (by omega) (by omega) (e0.symm.trans e1)
  omega
/-- A corner's edge, by the bay's numbers. -/
theorem cut_edge {i x : Nat} (h : (sel bays bay T.length)[i]? = some (x / 3)) : edgeAt (cutT bays bay L F T.length) ((3 * i + x % 3 : Nat) : Int) = (ixF F (L (nxn x)), ixF F (L (pvn x))) := by
  have hd : (3 * i + x % 3) / 3 = i := by omega
  have hm : (3 * i + x % 3) % 3 = x % 3 := by omega
  rw [edgeAt_nat]
  congr 1
  · rw [vt_nat, nxn_div, hd, cutT_get T h, tg_cutTri _ (Nat.mod_lt _ (by omega))]
    have : 3 * (x / 3) + nxn (3 * i + x % 3) % 3 = nxn x := by unfold nxn; omega
    rw [this]
  · rw [vt_nat, pvn_div, hd, cutT_get T h, tg_cutTri _ (Nat.mod_lt _ (by omega))]
    have : 3 * (x / 3) + pvn (3 * i + x % 3) % 3 = pvn x := by unfold pvn; omega
    rw [this]
theorem bay_border (hc : CutIs T bays bay L F) (hs : Surf n T) {d : Int × Int} (hd : d ∈ bordE (cutT bays bay L F T.length) (3 * (cutT bays bay L F T.length).length)) :
    ∃ p q : Nat, d = ((p : Int), (q : Int)) ∧ p < F.length ∧ q < F.length ∧ ∀ o : Nat, o < 3 * T.length → edgeAt T (o : Int) = (I! (cutV T F) q, I! (cutV T F) p) →
      I! bays (o / 3) ≠ bay ∧ 0 ≤ I! (cutR T bays n F) p ∧ 0 ≤ I! (cutR T bays n F) q := by
  obtain ⟨c', h1, h2, h3⟩ := bordE_mem hd
  obtain ⟨t, ht, hb, hsel, -⟩ := cutT_at (T := T) (bays := bays) (bay := bay) (L := L) (F := F) (i := c' / 3) (by omega)
  obtain ⟨c, hcd⟩ : ∃ c, c = 3 * t + c' % 3 := ⟨_, rfl⟩
  have hc3 : c / 3 = t := by omega
  have hcl : c < 3 * T.length := by omega
  have hce : c' = 3 * (c' / 3) + c % 3 := by omega
  have he : edgeAt (cutT bays bay L F T.length) (c' : Int) = (ixF F (L (nxn c)), ixF F (L (pvn c))) := by
    have := cut_edge (T := T) (bays := bays) (bay := bay) (L := L) (F := F) (i := c' / 3) (x := c) (by rw [hc3]; exact hsel)
    rwa [← hce] at this
  obtain ⟨p, ep, hp, vp⟩ := hc.old hs (nxn_lt hcl) (by rw [nxn_div, hc3]; exact hb)
  obtain ⟨q, eq, hq, vq⟩ := hc.old hs (pvn_lt hcl) (by rw [pvn_div, hc3]; exact hb)
  refine ⟨p, q, by rw [← h3, he, ep, eq], hp, hq, fun o ho hoe => ?_⟩
  rw [vp, vq] at hoe
  have hopp : opp T (c : Int) = o := by
    rw [opp_nat]
    obtain ⟨o2, e1, o1, e2⟩ := facing_some (facing_of ho hoe)
    rw [e1]
    have := hs.edge_c o1 ho (e2.trans hoe.symm)
    omega
  have hoe' := hoe
  rw [edgeAt_nat] at hoe'
  simp only [Prod.mk.injEq] at hoe'
  have hne : I! bays (o / 3) ≠ bay := by
    intro hbo
    have s1 : SAdj T (I! bays) (nxn c) (pvn o) := ⟨nxn_lt hcl, pvn_lt ho, by rw [pvn_div, nxn_div, hc3, hb, hbo], o, .inr ⟨by rw [pvn_nxn]; exact hopp, rfl⟩⟩
    have s2 : SAdj T (I! bays) (pvn c) (nxn o) := ⟨pvn_lt hcl, nxn_lt ho, by rw [nxn_div, pvn_div, hc3, hb, hbo], o, .inl ⟨by rw [nxn_pvn]; exact hopp, rfl⟩⟩
    have n1 := (hc.num_iff (nxn_lt hcl) (by rw [nxn_div, hc3]; exact hb) (pvn_lt ho) (by rw [pvn_div]; exact hbo)).2 ((Conn.refl _).step s1)
    have n2 := (hc.num_iff (pvn_lt hcl) (by rw [pvn_div, hc3]; exact hb) (nxn_lt ho) (by rw [nxn_div]; exact hbo)).2 ((Conn.refl _).step s2)
    obtain ⟨i2, hi2⟩ := sel_ix (bays := bays) (bay := bay) (k := T.length) (t := o / 3) (by omega) hbo
    have hl2 : i2 < (cutT bays bay L F T.length).length := by simpa [cutT] using (List.getElem?_eq_some_iff.1 hi2).1
    have e2 := cut_edge (T := T) (L := L) (F := F) hi2
    have := facing_of (T := cutT bays bay L F T.length) (c := 3 * i2 + o % 3) (by omega) e2
    rw [← n1, ← n2] at this
    have h4 : opp (cutT bays bay L F T.length) (c' : Int) = facing (cutT bays bay L F T.length) (ixF F (L (pvn c)), ixF F (L (nxn c))) := by
      have h5 := he
      rw [edgeAt_nat] at h5
      simp only [Prod.mk.injEq] at h5
      rw [opp_nat, h5.1, h5.2]
    rw [h4] at h2
    omega
  have many : ∀ (i : Nat) (x y : Nat), i < F.length → x < 3 * T.length → y < 3 * T.length → I! (cutV T F) i = vt T (x : Int) → vt T (y : Int) = vt T (x : Int) → I! bays (x / 3) ≠ I! bays (y / 3) → 0 ≤ I! (cutR T bays n F) i := fun i x y hi hx hy e1 e2 hb2 => by
    obtain ⟨v, hv, ev, er, -⟩ := hc.nth (P := T) hs hi
    have hm : v ∈ rimL T bays n := rimL_mem.2 ⟨hv, manyB_iff.2 ⟨x, y, hx, hy, by rw [← e1, ev], by rw [e2, ← e1, ev], hb2⟩⟩
    obtain ⟨k, ek, -, -⟩ := idx_on hm
    rw [er, ek]
    omega
  have hnb : I! bays (c / 3) ≠ I! bays (o / 3) := by rw [hc3, hb]; exact fun e => hne e.symm
  exact ⟨hne, many p (nxn c) (pvn o) hp (nxn_lt hcl) (pvn_lt ho) vp hoe'.2 (by rw [nxn_div, pvn_div]; exact hnb), many q (pvn c) (nxn o) hq (pvn_lt hcl) (nxn_lt ho) vq hoe'.1 (by rw [nxn_div, pvn_div]; exact hnb)⟩
end
/-- What is told of any bay, of bodies without values. -/
def CutSays (n : Nat) (T : List Tr) (bays : List Int) (bay er N' : Int) (T' : List Tr) (V' R' : List Int) : Prop :=
  (er = 8 ∧ bay ∉ bays) ∨ (er = 0 ∧ bay ∈ bays ∧ ∃ (L : Nat → Int) (F : List Nat), CutIs T bays bay L F ∧ N' = F.length ∧ T' = cutT bays bay L F T.length ∧ V' = cutV T F ∧ R' = cutR T bays n F)
def CutU (n : Nat) (T : List Tr) (bays : List Int) (bay : Int) (X : World) (e : Ending) (w' : World) : Prop :=
  ∃ (er N' : Int) (T' P' : List Tr) (K' V' R' : List Int) (a1 a2 a3 a4 a5 : Option Addr) (c1 c2 c3 c4 c5 l1 l2 l3 l4 l5 : Nat),
    e = .returned (.tuple #[.agg #[.int .i64 N', .slice a1 l1 c1, .slice a2 l2 c2, .slice a3 l3 c3, .slice a4 l4 c4, .slice a5 l5 c5], .int .i64 er]) ∧
    Hid (K'.length ≠ 1 ∧ V'.length ≠ 1 ∧ R'.length ≠ 1 ∧ CutSays n T bays bay er N' T' V' R' ∧ l1 = T'.length ∧ TrisAt w' a1 T' ∧ l2 = P'.length ∧ TrisAt w' a2 P' ∧ l3 = K'.length ∧ IntsAt w' a3 K' ∧ l4 = V'.length ∧ IntsAt w' a4 V' ∧ l5 = R'.length ∧ IntsAt w' a5 R') ∧
    Below X.heap.size X w'
theorem cut_u {n : Nat} {T P : List Tr} {K bays : List Int} {bay : Int} {X w' : World} {e : Ending} (hs : Surf n T) (hok : BaysOK T.length bays) (h : CutPost n T P K bays bay X e w') : CutU n T bays bay X e w' := by
  obtain ⟨hc, hbel⟩ := h
  rcases hc with ⟨hno, he⟩ | ⟨hin, L, F, a1, a2, a3, a4, a5, c1, c2, c3, c4, c5, l1, l2, l3, l4, l5, hcut, he, -, e1, h1, e2, h2, e3, h3, e4, h4, e5, h5⟩
  · exact ⟨8, 0, [], [], [], [], [], none, none, none, none, none, 0, 0, 0, 0, 0, 0, 0, 0, 0, 0, he, Lib.hid ⟨by simp, by simp, by simp, .inl ⟨rfl, hno⟩, rfl, fun e => absurd rfl e, rfl, fun e => absurd rfl e, rfl, fun e => absurd rfl e, rfl, fun e => absurd rfl e, rfl, fun e => absurd rfl e⟩, hbel⟩
  · have hF : F.length ≠ 1 := by
      obtain ⟨t, ht, hb⟩ := List.mem_iff_getElem.1 hin
      exact hcut.ne1 hs (t := t) (by rw [← hok.1]; exact ht) (by simp [I!, List.getD_eq_getElem?_getD, ht, hb])
    exact ⟨0, _, _, _, _, _, _, a1, a2, a3, a4, a5, c1, c2, c3, c4, c5, l1, l2, l3, l4, l5, he, Lib.hid ⟨cutK_not1 _ _ _ _, by simpa [cutV] using hF, by simpa [cutR] using hF, .inr ⟨rfl, hin, L, F, hcut, rfl, rfl, rfl, rfl⟩, e1, h1, e2, h2, e3, h3, e4, h4, e5, h5⟩, hbel⟩
end Go.Proofs.YtknioobpoieohaaGreat

/- chart.Surface's comparison; slices.SortFunc by it; slices.Compact of what it leaves. chart.Surface: contract. -/
import Derived.Test.YtfbpjlfimmjieaaGreatChartPick
import Derived.Test.YtfbpjlfimmjieaaGreatRowFam
import Derived.Test.YtfbpjlfimmjieaaGreatGroups
import Derived.Deep.RegionHeld3
import Derived.Deep.RegionHeldLaw
import Derived.Deep.AppendLies
namespace Go.Proofs.YtfbpjlfimmjieaaGreat
set_option linter.unusedVariables false
set_option linter.unusedSimpArgs false
open Go.RowKit Go.Lib
open Go.RowKit
set_option maxRecDepth 100000 in
set_option maxHeartbeats 1000000 in
theorem chcmp_any (a b : Nat) (W : World) (tb p : Nat) (N : Int) (T : List Tr) (hl : T.length ≤ 10000) (h : TabS W p N T) (htl : tb < W.heap.size) (htb : W.cell? ⟨tb, 0, none⟩ = some (.pointer (some ⟨p, 0, none⟩))) :
    Calls Tryz.prog 58 #[.int .i64 (a : Int), .int .i64 (b : Int), .pointer (some ⟨tb, 0, none⟩)] W fun e w' => e = .returned (.int .i64 (cfc T a b)) ∧ Gr W w' := by
  have HV := Lib.hid (show ∀ (c : Nat) X, Hid (Below W.heap.size W X) → Calls Tryz.prog 27 #[.pointer (some ⟨p, 0, none⟩), .int .i64 (c : Int)] X fun e w' => e = .returned (.int .i64 (vtx T c)) ∧ X = w' from fun c X hX => vertexN c X p N T hl (h.mono (Nat.le_refl _) hX.out))
  have HK := Lib.hid (show ∀ X, Below W.heap.size W X → X.cell? ⟨tb, 0, none⟩ = some (.pointer (some ⟨p, 0, none⟩)) from fun X hX => (hX.cell (p := ⟨tb, 0, none⟩) htl).trans htb)
  obtain ⟨va, hva⟩ : ∃ v, v = vtx T a := ⟨_, rfl⟩
  obtain ⟨vb, hvb⟩ : ∃ v, v = vtx T b := ⟨_, rfl⟩
  have HVA := Lib.hid (HV.out a)
  have HVB := Lib.hid (HV.out b)
  rw [← hva] at HVA
  rw [← hvb] at HVB
  obtain ⟨c1, hc1⟩ : ∃ c, c = Lib.compareInt va vb := ⟨_, rfl⟩
  obtain ⟨c2, hc2⟩ : ∃ c, c = Lib.compareInt (a : Int) (b : Int) := ⟨_, rfl⟩
  have HC1 := Lib.hid (show ∀ X, Calls Tryz.prog 60 #[.int .i64 va, .int .i64 vb] X fun e w' => e = .returned (.int .i64 c1) ∧ w' = X from fun X => by rw [hc1]; exact Tryz.cmp_Compare_int va vb X)
  have HC2 := Lib.hid (show ∀ X, Calls Tryz.prog 60 #[.int .i64 (a : Int), .int .i64 (b : Int)] X fun e w' => e = .returned (.int .i64 c2) ∧ w' = X from fun X => by rw [hc2]; exact Tryz.cmp_Compare_int a b X)
  have HR := Lib.hid (show cfc T a b = orI c1 c2 from by unfold cfc; rw [hc1, hc2, hva, hvb])
  obtain ⟨r, hr⟩ : ∃ r, r = cfc T a b := ⟨_, rfl⟩
  rw [← hr] at HR ⊢
  have hbel : Below W.heap.size W W := Below.refl _ _
  have hgr := Gr.refl W
  clear hva hvb hc1 hc2 hr HV h htb
  go_enter Tryz.func58, Tryz.ntmps58
  go_upto_region 1 with fail
  go_region_held3 (fun w' => w'.cell? ⟨tb, 0, none⟩ = some (.pointer (some ⟨p, 0, none⟩)))
    (exact HK.out _ (by repeat (first | exact hbel | with_reducible apply bel_alloc | with_reducible apply bel_drew)))
    (first | (go_at_call 27; (with_reducible refine (HVA.out _ (hidB (by repeat (first | exact hbel | with_reducible apply bel_alloc | with_reducible apply bel_drew)))).mono ?_); rintro e w2 ⟨rfl, rfl⟩) | (go_at_call 27; (with_reducible refine (HVB.out _ (hidB (by repeat (first | exact hbel | with_reducible apply bel_alloc | with_reducible apply bel_drew)))).mono ?_); rintro e w2 ⟨rfl, rfl⟩) | (go_at_call 60; (with_reducible refine (HC1.out _).mono ?_); rintro e w2 ⟨rfl, rfl⟩) | (go_at_call 60; (with_reducible refine (HC2.out _).mono ?_); rintro e w2 ⟨rfl, rfl⟩) | (go_at_call 59; (with_reducible refine (or_two c1 c2 _ _ (by repeat (first | with_reducible exact RowIs.made _ _ _ | with_reducible apply RowIs.drew1))).mono ?_); rintro e w2 ⟨rfl, rfl⟩))
  all_goals
    go_wp2
    exact bodyPost_ret (v := .int .i64 (orI c1 c2)) (by simp [results, Tryz.results58, go_sem]) rfl ⟨by rw [HR.out], by repeat (first | exact hgr | with_reducible apply Gr.alloc | with_reducible apply Gr.drew)⟩
theorem chsort (W1 w : World) (base tb p gf capf : Nat) (N : Int) (T : List Tr) (F0 : List Nat) (hl : T.length ≤ 10000) (hF : F0.length ≤ 100000) (h : TabS W1 p N T) (htl : tb < W1.heap.size) (htb : W1.cell? ⟨tb, 0, none⟩ = some (.pointer (some ⟨p, 0, none⟩)))
    (hB : W1.heap.size ≤ base) (hb : Below base W1 w) (hown : w.ownsRow base 3 1 (.slice (some ⟨gf, 0, none⟩) F0.length capf) F0.length (nv F0)) :
    Calls Tryz.prog 57 #[.slice (some ⟨gf, 0, none⟩) F0.length capf, .func (.func 58) #[] #[.pointer (some ⟨tb, 0, none⟩)]] w fun e w' => e = .returned (.tuple #[]) ∧
      ∃ F : List Nat, F.Perm F0 ∧ F.Pairwise (fun a b => ¬ ltC T b a) ∧ IntsAt w' (some ⟨gf, 0, none⟩) (nl F) ∧ w.grownBy w' (some gf) ∧ gf < w.heap.size ∧ base ≤ gf ∧ ∀ j, j < F.length → w'.frozen? ⟨gf, 0 + j, none⟩ = false :=
  sort_byF 58 #[.pointer (some ⟨tb, 0, none⟩)] (enters_of Tryz.func58 (by kernel_rfl) rfl) W1 w base gf capf T F0 hF (fun X hX a b => chcmp_any a b X tb p N T hl (h.mono hB hX) (by have := hX.size; omega) ((hX.cell (p := ⟨tb, 0, none⟩) (show tb < _ by omega)).trans htb)) hb hown
theorem grown_cellsS (b : Nat) : ∀ (vs : List Value) (o : Nat) (w : World), w.grownBy (w.setCells b o vs) (some b)
  | [], _, w => ⟨rfl, rfl, rfl, Nat.le_refl _, fun _ _ _ => rfl⟩
  | v :: vs, o, w => grown_tr (grown_set w b o v) (grown_cellsS b vs (o + 1) _)
/-- slices.Compact of sorted corners. -/
theorem chcompact (T : List Tr) (F1 : List Nat) (gf capf : Nat) (w : World) (h0 : 0 < F1.length) (hl : F1.length ≤ 100000) (hcap : F1.length ≤ capf) (hI : IntsAt w (some ⟨gf, 0, none⟩) (nl F1)) (hf : ∀ j, j < F1.length → w.frozen? ⟨gf, 0 + j, none⟩ = false) (hs : F1.Pairwise fun a b => ¬ ltC T b a) :
    Calls Tryz.prog 61 #[.slice (some ⟨gf, 0, none⟩) F1.length capf] w fun e w' => ∃ F : List Nat, e = .returned (.slice (some ⟨gf, 0, none⟩) F.length capf) ∧ F.Pairwise (ltC T) ∧ (∀ x, x ∈ F ↔ x ∈ F1) ∧ IntsAt w' (some ⟨gf, 0, none⟩) (nl F) ∧ w.grownBy w' (some gf) := by
  obtain ⟨F, hF, hp, hm⟩ := compact_nl T F1 hs
  have hlen : (nl F1).length = F1.length := nl_length F1
  obtain ⟨b, off, e, hb, hc⟩ := hI (by intro e; rw [e] at hlen; simp at hlen; omega)
  simp only [Option.some.injEq, Addr.mk.injEq] at e
  obtain ⟨rfl, rfl, -⟩ := e
  have := Tryz.slices_Compact_int_cells gf 0 (nl F1).length capf (nl F1) w (Nat.le_refl _) (by omega) (by omega) hc (fun j hj => hf j (by omega))
  rw [List.take_length, hF, hlen] at this
  refine this.mono fun e w' ⟨h1, q, h2⟩ => ⟨F, by rw [h1, nl_length], hp, hm, ?_, ?_⟩
  · have hle : F.length ≤ F1.length := by
      have := Lib.compact_length_le (nl F1)
      rw [hF, nl_length, nl_length] at this
      exact this
    intro hne
    refine ⟨gf, 0, rfl, ?_, fun i hi => ?_⟩
    · rw [h2]
      have := (grown_cellsS gf ((nl F ++ List.replicate (F1.length - (nl F).length) 0).map (Value.int .i64)) 0 (w.drewN q)).size
      exact Nat.lt_of_lt_of_le hb this
    · rw [h2, World.cell?_setCells_in gf _ 0 (w.drewN q) (fun t ht => ?_) i (by simp; omega)]
      · simp [List.getElem_append_left, hi, I!, List.getD_eq_getElem?_getD]
      · simp [nl_length] at ht
        have ht' : t < F1.length := by omega
        have := hc t (by omega)
        rw [Nat.zero_add] at this ⊢
        show (w.cell? ⟨gf, t, none⟩).isSome = true
        rw [this]; rfl
  · rw [h2]
    exact grown_tr (row := some gf) (show w.grownBy (w.drewN q) (some gf) from ⟨rfl, rfl, rfl, Nat.le_refl _, fun _ _ _ => rfl⟩) (grown_cellsS gf _ 0 (w.drewN q))
/-- No chart. -/
def noSurf (c : Int) : Value := .tuple #[.agg #[.int .i64 0, .slice none 0 0], .slice none 0 0, .slice none 0 0, .int .i64 c]
def SurfP (T : List Tr) (K : List Int) (k : Int) (w : World) (e : Ending) (w' : World) : Prop :=
  (∃ M, IsShells (KAdj T K) T.length M ∧ ((sel (mL M T.length) k T.length = [] ∧ e = .returned (noSurf 8)) ∨ (sel (mL M T.length) k T.length ≠ [] ∧ ∃ L F a1 a2 a3 c1 c2 c3, Piece (KSAdj T K) T (mL M T.length) k L F ∧
    e = .returned (.tuple #[.agg #[.int .i64 (F.length : Int), .slice a1 (cutT (mL M T.length) k L F T.length).length c1], .slice a2 F.length c2, .slice a3 (sel (mL M T.length) k T.length).length c3, .int .i64 0]) ∧
    TrisAt w' a1 (cutT (mL M T.length) k L F T.length) ∧ IntsAt w' a2 (cutV T F) ∧ IntsAt w' a3 (nl (sel (mL M T.length) k T.length)) ∧ New w.heap.size a1 ∧ New w.heap.size a2 ∧ New w.heap.size a3))) ∧ Below w.heap.size w w'
theorem mL_at {w : World} {g n : Nat} {M : Nat → Int} (h : RowIs w g 3 (iv M n)) : ∀ i, i < n → w.cell? ⟨g, i, none⟩ = some (.int .i64 (M i)) := fun i hi => h.cell (iv_get M hi)
set_option maxRecDepth 100000 in
set_option maxHeartbeats 4000000 in
theorem csurf_none (n : Int) (ao : Option Addr) (cap : Nat) (T : List Tr) (ko : Option Addr) (kl kc : Nat) (k : Int) (w : World) (hT : TrisAt w ao T) (hl : T.length ≤ 8192) (hs : ¬ Surf n T) :
    Calls Tryz.prog 20 #[.agg #[.int .i64 n, .slice ao T.length cap], .slice ko kl kc, .int .i64 k] w fun e w' => e = .returned (noSurf 11) ∧ Below w.heap.size w w' := by
  obtain ⟨W0, hW0⟩ : ∃ W0, W0 = (w.alloc (.cells #[.int .i64 n, .slice ao T.length cap] 24)).alloc (.cells #[.int .i64 0, .slice none 0 0] 24) := ⟨_, rfl⟩
  obtain ⟨B, hB⟩ : ∃ B, B = w.heap.size := ⟨_, rfl⟩
  have hb0 : Below B w W0 := by rw [hW0, hB]; exact ((Below.refl _ _).alloc (Nat.le_refl _) _).alloc (by simp) _
  have hr0 : RowIs W0 B 24 [.int .i64 n, .slice ao T.length cap] := by rw [hW0, hB]; exact (RowIs.made w 24 [.int .i64 n, .slice ao T.length cap]).alloc _
  have hr1 : RowIs W0 (B + 1) 24 [.int .i64 0, .slice none 0 0] := by rw [hW0, hB]; exact RowIs.made' _ _ [.int .i64 0, .slice none 0 0] _ (by simp)
  have HN := Lib.hid (new_none n ao cap T W0 (hT.mono (by rw [hB]; exact Nat.le_refl _) hb0) hl hs)
  obtain ⟨len, hlen⟩ : ∃ l, l = T.length := ⟨_, rfl⟩
  rw [← hlen] at HN hW0 hr0 ⊢
  have c0 := hr0.cell (i := 0) rfl
  have c1 := hr0.cell (i := 1) rfl
  have HB0 := Lib.hid hb0
  have HR1 := Lib.hid hr1
  have HBB := Lib.hid hB
  clear hb0 hr0 hr1 hT hs hlen hl
  go_enter Tryz.func20, Tryz.ntmps20
  go_upto_region 1 with fail
  rw [← hW0, ← hB]
  clear hW0 hB
  go_wp2_with fail
  refine HN.out.mono ?_
  rintro e w1 ⟨q, x, y, rfl, hq1, hq2, hb1⟩
  obtain ⟨W1, hW1⟩ : ∃ W1, W1 = (w1.alloc (.cells #[.pointer none] 31)).alloc (.cells #[.int .i64 q, .int .i64 x, .int .i64 y] 75) := ⟨_, rfl⟩
  have hr2 : RowIs W1 (w1.heap.size + 1) 75 [.int .i64 q, .int .i64 x, .int .i64 y] := by rw [hW1]; exact RowIs.made' _ _ [.int .i64 q, .int .i64 x, .int .i64 y] _ (by simp)
  have hb2 : Below w1.heap.size w1 W1 := by rw [hW1]; exact ((Below.refl _ _).alloc (Nat.le_refl _) _).alloc (by simp) _
  have hr3 := (HR1.out.after hb1).after hb2
  have d0 := hr3.cell (i := 0) rfl
  have d1 := hr3.cell (i := 1) rfl
  have f0 := fun i => hr3.free i
  have e0 := hr2.cell (i := 0) rfl
  have HW1 := Lib.hid hW1
  have hne : (q != 0) = true := by simp; omega
  have hF := (hr3.set 0 (.int .i64 0)).set 1 (.slice none 0 0)
  have y0 := hF.cell (i := 0) rfl
  have y1 := hF.cell (i := 1) rfl
  have HBF := Lib.hid (show Below w.heap.size w ((W1.setCell ⟨B + 1, 0, none⟩ (.int .i64 0)).setCell ⟨B + 1, 1, none⟩ (.slice none 0 0)) from by
    have hb : Below B w W1 := HB0.out.trans ((below_more hb1 hb2 hb1.size).mono (by have := HB0.out.size; have := HR1.out.lt; omega))
    rw [HBB.out] at hb ⊢
    exact (hb.setCell (p := ⟨w.heap.size + 1, 0, none⟩) (by show w.heap.size ≤ w.heap.size + 1; omega) _).setCell (p := ⟨w.heap.size + 1, 1, none⟩) (by show w.heap.size ≤ w.heap.size + 1; omega) _)
  clear hr2 hb2 hr3 hW1 hq1 hq2 hb1 hF c0 c1
  go_upto_region 2 with fail
  rw [← HW1.out]
  go_wp2
  exact bodyPost_ret (v := noSurf 11) (by simp [results, noSurf, Tryz.results20, go_sem, y0, y1]) rfl ⟨rfl, HBF.out⟩
/- The walks. -/
set_option maxRecDepth 100000 in
set_option maxHeartbeats 4000000 in
theorem csurf_bad (n : Nat) (ao : Option Addr) (cap : Nat) (T : List Tr) (ko : Option Addr) (kl kc : Nat) (k : Int) (w : World) (hT : TrisAt w ao T) (hs : Surf n T) (hkl : kl ≠ 3 * T.length) :
    Calls Tryz.prog 20 #[.agg #[.int .i64 (n : Int), .slice ao T.length cap], .slice ko kl kc, .int .i64 k] w fun e w' => e = .returned (noSurf 1) ∧ Below w.heap.size w w' := by
  obtain ⟨W0, hW0⟩ : ∃ W0, W0 = (w.alloc (.cells #[.int .i64 (n : Int), .slice ao T.length cap] 24)).alloc (.cells #[.int .i64 0, .slice none 0 0] 24) := ⟨_, rfl⟩
  obtain ⟨B, hB⟩ : ∃ B, B = w.heap.size := ⟨_, rfl⟩
  have hb0 : Below B w W0 := by rw [hW0, hB]; exact ((Below.refl _ _).alloc (Nat.le_refl _) _).alloc (by simp) _
  have hr0 : RowIs W0 B 24 [.int .i64 (n : Int), .slice ao T.length cap] := by rw [hW0, hB]; exact (RowIs.made w 24 [.int .i64 (n : Int), .slice ao T.length cap]).alloc _
  have hr1 : RowIs W0 (B + 1) 24 [.int .i64 0, .slice none 0 0] := by rw [hW0, hB]; exact RowIs.made' _ _ [.int .i64 0, .slice none 0 0] _ (by simp)
  have hsz0 : W0.heap.size = B + 2 := by rw [hW0, hB]; simp
  have HN := Lib.hid (new_ok n ao cap T W0 (hT.mono (by rw [hB]; exact Nat.le_refl _) hb0) hs)
  have HS := Lib.hid hs
  obtain ⟨len, hlen⟩ : ∃ l, l = T.length := ⟨_, rfl⟩
  rw [← hlen] at HN hW0 hr0 ⊢
  have c0 := hr0.cell (i := 0) rfl
  have c1 := hr0.cell (i := 1) rfl
  have HB0 := Lib.hid hb0
  have HR1 := Lib.hid hr1
  have HBB := Lib.hid hB
  have HL := Lib.hid hlen
  have HSZ0 := Lib.hid hsz0
  have hl8 : len ≤ 8192 := by rw [hlen]; exact hs.t1
  have HKL := Lib.hid hkl
  clear hb0 hr0 hr1 hT hs hlen hkl hsz0
  go_enter Tryz.func20, Tryz.ntmps20
  go_upto_region 1 with fail
  rw [← hW0, ← hB]
  clear hW0 hB
  go_wp2_with fail
  refine HN.out.mono ?_
  rintro e w1 ⟨p, rfl, hp, htab, hb1⟩
  obtain ⟨W1, hW1⟩ : ∃ W1, W1 = (w1.alloc (.cells #[.pointer (some ⟨p, 0, none⟩)] 31)).alloc (.cells #[.int .i64 0, .int .i64 0, .int .i64 0] 75) := ⟨_, rfl⟩
  have hr2 : RowIs W1 (w1.heap.size + 1) 75 [.int .i64 0, .int .i64 0, .int .i64 0] := by rw [hW1]; exact RowIs.made' _ _ [.int .i64 0, .int .i64 0, .int .i64 0] _ (by simp)
  have hrp : RowIs W1 w1.heap.size 31 [.pointer (some ⟨p, 0, none⟩)] := by rw [hW1]; exact (RowIs.made w1 31 [.pointer (some ⟨p, 0, none⟩)]).alloc _
  have hb2 : Below w1.heap.size w1 W1 := by rw [hW1]; exact ((Below.refl _ _).alloc (Nat.le_refl _) _).alloc (by simp) _
  obtain ⟨tb, htb⟩ : ∃ tb, tb = w1.heap.size := ⟨_, rfl⟩
  have HTB := Lib.hid htb
  have HR3 := Lib.hid ((HR1.out.after hb1).after hb2)
  have HB1 := Lib.hid (below_more hb1 hb2 hb1.size)
  have HTAB := Lib.hid (htab.mono (Nat.le_refl _) hb2)
  rw [← htb] at hr2 hrp
  have HRP := Lib.hid hrp
  have xp := hrp.cell (i := 0) rfl
  have e0 := hr2.cell (i := 0) rfl
  have HW1 := Lib.hid hW1
  clear hr2 hb2 hrp hW1 hp htab hb1 c0 c1
  go_upto_region 2 with fail
  rw [← HW1.out, ← htb]
  clear htb
  have HOF := Lib.hid (cof_bad ko kl kc p n T W1 HTAB.out.s (by have := HS.out.t1; omega) HKL.out)
  go_wp2_with fail
  refine HOF.out.mono ?_
  rintro e w3 ⟨rfl, hb3⟩
  have hr3 := HR3.out.after hb3
  have d0 := hr3.cell (i := 0) rfl
  have d1 := hr3.cell (i := 1) rfl
  have f0 := fun i => hr3.free i
  have hF := (hr3.set 0 (.int .i64 0)).set 1 (.slice none 0 0)
  have y0 := hF.cell (i := 0) rfl
  have y1 := hF.cell (i := 1) rfl
  have HBF := Lib.hid (show Below w.heap.size w ((w3.setCell ⟨B + 1, 0, none⟩ (.int .i64 0)).setCell ⟨B + 1, 1, none⟩ (.slice none 0 0)) from by
    have hb : Below B w w3 := HB0.out.trans ((below_more HB1.out hb3 HB1.out.size).mono (by rw [HSZ0.out]; omega))
    rw [HBB.out] at hb ⊢
    exact (hb.setCell (p := ⟨w.heap.size + 1, 0, none⟩) (by show w.heap.size ≤ w.heap.size + 1; omega) _).setCell (p := ⟨w.heap.size + 1, 1, none⟩) (by show w.heap.size ≤ w.heap.size + 1; omega) _)
  clear hr3 hF hb3 xp e0
  go_wp2
  exact bodyPost_ret (v := noSurf 1) (by simp [results, noSurf, Tryz.results20, go_sem, y0, y1]) rfl ⟨rfl, HBF.out⟩
theorem belB_alloc {B : Nat} {w X : World} (hB : B ≤ w.heap.size) (h : Below B w X) (o : Obj) : Below B w (X.alloc o) := h.alloc (Nat.le_trans hB h.size) o
theorem belB_drew {B : Nat} {w X : World} (h : Below B w X) : Below B w X.drew := h.trans ⟨rfl, rfl, rfl, Nat.le_refl _, fun _ _ => rfl⟩
theorem owns_lowB {w w' : World} {b B size n : Nat} {e : TypeId} {v : Value} {xs : List Value} (h : w.ownsRow b e size v n xs) (hb : Below B w w') (hlt : ∀ q, v.ownBlock = some q → q < B) : w'.ownsRow b e size v n xs := by
  refine ⟨h.1, ?_⟩
  rcases h.2 with q | ⟨g, cap, cur, rfl, hg, hgg, rest⟩
  · exact .inl q
  · exact .inr ⟨g, cap, cur, rfl, hg, (hb.block g (hlt g rfl)).trans hgg, rest⟩
theorem owns_newS {w : World} {base n size : Nat} {e : TypeId} {a : Option Addr} {c : Nat} {xs : List Value} (h : w.ownsRow base e size (.slice a n c) n xs) : New base a := by
  intro p hp
  subst hp
  exact (h.lt p.block rfl).1
theorem infoTriS : (Tryz.prog.info? 49).map (fun i => (i.zero, i.size, i.bytes)) = some (some (.agg #[.int .i64 0, .int .i64 0, .int .i64 0]), 3, 24) := by kernel_rfl
/-- The state of the loop over the triangles. -/
structure CFSt (W X : World) (M L : Nat → Int) (T : List Tr) (k : Int) (i : Nat) (vt vf : Value) : Prop where
  rows : Rows W.heap.size X [⟨3, 1, vt, (sel (mL M T.length) k i).length, nv (sel (mL M T.length) k i)⟩, ⟨3, 1, vf, (firstL L (sel (mL M T.length) k i)).length, nv (firstL L (sel (mL M T.length) k i))⟩]
  bel : Below W.heap.size W X
set_option maxRecDepth 100000 in
set_option maxHeartbeats 8000000 in
theorem csurf_ok (n : Nat) (ao : Option Addr) (cap : Nat) (T : List Tr) (ko : Option Addr) (kc : Nat) (K : List Int) (k : Int) (w : World) (hT : TrisAt w ao T) (hs : Surf n T) (hK : IntsAt w ko K) (hkl : K.length = 3 * T.length) :
    Calls Tryz.prog 20 #[.agg #[.int .i64 (n : Int), .slice ao T.length cap], .slice ko K.length kc, .int .i64 k] w (SurfP T K k w) := by
  obtain ⟨i0, hi, hz0, hz1, hz2⟩ := info_parts info3
  have hi0 := hi
  obtain ⟨W0, hW0⟩ : ∃ W0, W0 = (w.alloc (.cells #[.int .i64 (n : Int), .slice ao T.length cap] 24)).alloc (.cells #[.int .i64 0, .slice none 0 0] 24) := ⟨_, rfl⟩
  obtain ⟨B, hB⟩ : ∃ B, B = w.heap.size := ⟨_, rfl⟩
  have hb0 : Below B w W0 := by rw [hW0, hB]; exact ((Below.refl _ _).alloc (Nat.le_refl _) _).alloc (by simp) _
  have hr0 : RowIs W0 B 24 [.int .i64 (n : Int), .slice ao T.length cap] := by rw [hW0, hB]; exact (RowIs.made w 24 [.int .i64 (n : Int), .slice ao T.length cap]).alloc _
  have hr1 : RowIs W0 (B + 1) 24 [.int .i64 0, .slice none 0 0] := by rw [hW0, hB]; exact RowIs.made' _ _ [.int .i64 0, .slice none 0 0] _ (by simp)
  have hsz0 : W0.heap.size = B + 2 := by rw [hW0, hB]; simp
  have HN := Lib.hid (new_ok n ao cap T W0 (hT.mono (by rw [hB]; exact Nat.le_refl _) hb0) hs)
  have HS := Lib.hid hs
  obtain ⟨len, hlen⟩ : ∃ l, l = T.length := ⟨_, rfl⟩
  rw [← hlen] at HN hW0 hr0 ⊢
  have c0 := hr0.cell (i := 0) rfl
  have c1 := hr0.cell (i := 1) rfl
  have HB0 := Lib.hid hb0
  have HR1 := Lib.hid hr1
  have HBB := Lib.hid hB
  have HL := Lib.hid hlen
  have HSZ0 := Lib.hid hsz0
  have hl8 : len ≤ 8192 := by rw [hlen]; exact hs.t1
  have HKL := Lib.hid hkl
  have HK := Lib.hid (hK.mono (by rw [hB]; exact Nat.le_refl _) hb0)
  obtain ⟨l3, hl3⟩ : ∃ l, l = 3 * T.length := ⟨_, rfl⟩
  have HL3 := Lib.hid hl3
  have hl3len : l3 = 3 * len := by omega
  have H3 := Lib.hid hl3len
  obtain ⟨kl, hkle⟩ : ∃ l, l = K.length := ⟨_, rfl⟩
  have HKN := Lib.hid hkle
  rw [← hkle]
  clear hb0 hr0 hr1 hT hs hlen hkl hsz0 hK hkle hl3 hl3len
  go_enter Tryz.func20, Tryz.ntmps20
  go_upto_region 1 with fail
  rw [← hW0, ← hB]
  clear hW0 hB
  go_wp2_with fail
  refine HN.out.mono ?_
  rintro e w1 ⟨p, rfl, hp, htab, hb1⟩
  obtain ⟨W1, hW1⟩ : ∃ W1, W1 = (w1.alloc (.cells #[.pointer (some ⟨p, 0, none⟩)] 31)).alloc (.cells #[.int .i64 0, .int .i64 0, .int .i64 0] 75) := ⟨_, rfl⟩
  have hr2 : RowIs W1 (w1.heap.size + 1) 75 [.int .i64 0, .int .i64 0, .int .i64 0] := by rw [hW1]; exact RowIs.made' _ _ [.int .i64 0, .int .i64 0, .int .i64 0] _ (by simp)
  have hrp : RowIs W1 w1.heap.size 31 [.pointer (some ⟨p, 0, none⟩)] := by rw [hW1]; exact (RowIs.made w1 31 [.pointer (some ⟨p, 0, none⟩)]).alloc _
  have hb2 : Below w1.heap.size w1 W1 := by rw [hW1]; exact ((Below.refl _ _).alloc (Nat.le_refl _) _).alloc (by simp) _
  obtain ⟨tb, htb⟩ : ∃ tb, tb = w1.heap.size := ⟨_, rfl⟩
  have HTB := Lib.hid htb
  have HR3 := Lib.hid ((HR1.out.after hb1).after hb2)
  have HB1 := Lib.hid (below_more hb1 hb2 hb1.size)
  have HTAB := Lib.hid (htab.mono (Nat.le_refl _) hb2)
  rw [← htb] at hr2 hrp
  have HRP := Lib.hid hrp
  have xp := hrp.cell (i := 0) rfl
  have e0 := hr2.cell (i := 0) rfl
  have HW1 := Lib.hid hW1
  clear hr2 hb2 hrp hW1 hp htab hb1 c0 c1
  go_upto_region 2 with fail
  rw [← HW1.out, ← htb]
  clear htb
  have HOF := cof_ok p n T ko kc K W1 HTAB.out HS.out HKL.out (HK.out.mono (Nat.le_refl _) HB1.out)
  rw [← HKN.out] at HOF
  have HOF := Lib.hid HOF
  go_wp2_with fail
  refine HOF.out.mono ?_
  rintro e w3 ⟨gm, M, rfl, hgm, hrM, hM, hb3⟩
  have HRM := Lib.hid hrM
  have HM := Lib.hid hM
  have HB3 := Lib.hid (below_more HB1.out hb3 HB1.out.size)
  have HTAB3 := Lib.hid (HTAB.out.mono (Nat.le_refl _) hb3)
  have HR33 := Lib.hid (HR3.out.after hb3)
  have HRP3 := Lib.hid (HRP.out.after hb3)
  have HSI := csides_ok p n T ko kc K w3 HTAB3.out HS.out HKL.out (HK.out.mono (Nat.le_refl _) HB3.out)
  rw [← HKN.out] at HSI
  have HSI := Lib.hid HSI
  have HKX := Lib.hid (show KCtx w3 p n T tb tb ko kc K ∨ True from .inr trivial)
  have xp3 := HRP3.out.cell (i := 0) rfl
  clear hgm hrM hM hb3 xp e0
  go_wp2_with fail
  refine HSI.out.mono ?_
  rintro e w4 ⟨gl, L, rfl, hgl, hrL, hL, hb4⟩
  have HRL := Lib.hid hrL
  have HLS := Lib.hid hL
  have HRM4 := Lib.hid (HRM.out.after hb4)
  have HB4 := Lib.hid (below_more HB3.out hb4 HB3.out.size)
  have HTAB4 := Lib.hid (HTAB3.out.mono (Nat.le_refl _) hb4)
  have HR34 := Lib.hid (HR33.out.after hb4)
  have HRP4 := Lib.hid (HRP3.out.after hb4)
  have hgM : gm < w4.heap.size := HRM4.out.lt
  have hgL : gl < w4.heap.size := hrL.lt
  rw [← HL.out] at HRM4
  rw [← HL3.out] at HRL
  have HST := Lib.hid (show CFSt w4 w4 M L T k 0 (.slice none 0 0) (.slice none 0 0) from ⟨⟨by
    intro r hr
    simp only [List.mem_cons, List.not_mem_nil, or_false] at hr
    rcases hr with rfl | rfl
    · exact World.ownsRow_nil _ _ _ _
    · exact World.ownsRow_nil _ _ _ _, by simp [Apart, Value.ownBlock]⟩, Below.refl _ _⟩)
  clear hgl hrL hL hb4 xp3 HSI HOF HN HTAB HR3 HRP HTAB3 HR33 HRP3 HRM HKX
  rw [← HL.out, ← H3.out]
  go_wp2
  go_loopw [54, 16, 17] (fun c v16 v17 ws => ∃ (i : Nat) (at_ af : Option Addr) (ct cf lt lf : Nat), i ≤ len ∧ c = .int .i64 i ∧ v16 = .slice at_ lt ct ∧ v17 = .slice af lf cf ∧ lt = (sel (mL M T.length) k i).length ∧ lf = 3 * lt ∧ CFSt w4 ws M L T k i (.slice at_ lt ct) (.slice af lf cf)) (fun c _ _ _ => len - (intOf c).toNat)
  case atStart => exact ⟨0, none, none, 0, 0, 0, 0, by omega, rfl, rfl, rfl, rfl, rfl, HST.out⟩
  case round =>
  obtain ⟨i, at_, af, ct, cf, lt, lf, hil, rfl, rfl, rfl, hlt, hlf, hst⟩ := hrel
  obtain ⟨X, rfl⟩ : ∃ X : World, X = wr := ⟨_, rfl⟩
  clear HST
  by_cases hin : i < len
  case pos =>
    have hm := (HRM4.out.after hst.bel).cell (iv_get M hin)
    have HSEL := Lib.hid (sel_succ (mL M T.length) k i)
    have hget : I! (mL M T.length) i = M i := mL_get (by rw [← HL.out]; exact hin)
    have hsl := sel_le (mL M T.length) k i
    rw [hget] at HSEL
    obtain ⟨q, hq⟩ : ∃ q, q = M i := ⟨_, rfl⟩
    rw [← hq] at hm HSEL
    have HST := Lib.hid hst
    cases e1 : q == k
    case false =>
      have hne : (q != k) = true := by simp [bne, e1]
      have hse : sel (mL M T.length) k (i + 1) = sel (mL M T.length) k i := by rw [HSEL.out, if_neg (by simpa using e1)]
      have HNX := Lib.hid (show CFSt w4 X M L T k (i + 1) (.slice at_ lt ct) (.slice af lf cf) from ⟨by rw [hse]; exact hst.rows, hst.bel⟩)
      have HLT := Lib.hid (show lt = (sel (mL M T.length) k (i + 1)).length from by rw [hse]; exact hlt)
      clear hst hse hget hq hlt
      go_wp2
      go_roundw
      case rel => exact ⟨i + 1, at_, af, ct, cf, lt, lf, by omega, by go_num, rfl, rfl, HLT.out, hlf, HNX.out⟩
      case measure => simp [intOf]; omega
    case true =>
      have hne : (q != k) = false := by simp [bne, e1]
      have hqk : q = k := by simpa using e1
      have HSE := Lib.hid (show sel (mL M T.length) k (i + 1) = sel (mL M T.length) k i ++ [i] from by rw [HSEL.out, if_pos hqk])
      have hltb : lt ≤ i := by omega
      have HOT := Lib.hid (hst.rows.own ⟨3, 1, .slice at_ lt ct, (sel (mL M T.length) k i).length, nv (sel (mL M T.length) k i)⟩ (by simp))
      rw [← hlt] at HOT
      have hmx := hst.bel.size
      have HLT := Lib.hid hlt
      have HLF := Lib.hid hlf
      have hi8 : i ≤ 8192 := by omega
      have hlfb : lf ≤ 24576 := by omega
      clear hst hget hq hlt hlf
      have q1 : lt + 1 ≤ maxLen := by unfold maxLen; omega
      have q2 : (lt + 1) * 8 ≤ 140737488355328 := by omega
      have q3 : w4.heap.size ≤ (X.alloc (.cells #[.int .i64 (i : Int)] 3)).heap.size := by simp; omega
      have HQ1 := Lib.hid q1
      have HQ2 := Lib.hid q2
      have HQ3 := Lib.hid q3
      clear q1 q2 q3
      go_upto_region 13 with fail
      have HX := Lib.hid (HOT.out.alloc (.cells #[.int .i64 (i : Int)] 3))
      go_wp2_with (at_builtin; refine wpList_append_lies _ rfl _ _ 25 rfl w4.heap.size 3 i0 (.int .i64 0) 1 8 (by kernel_rfl) hi0 hz0 hz1 hz2 rfl (by decide) _ _ _ rfl HX.out ⟨X.heap.size, 0, none⟩ 1 1 [.int .i64 (i : Int)] rfl rfl (World.news_of_block (heap_alloc_new X _)) (by intro u hu; simp at hu; subst hu; rfl) (by decide) HQ1.out HQ2.out HQ3.out _ rfl ?_)
      intro g2 cap2 X2 hown2 hgr2 hat2 hlt2
      have HR2 := Lib.hid (show Rows w4.heap.size X2 [⟨3, 1, .slice (some ⟨g2, 0, none⟩) (lt + 1) cap2, lt + 1, nv (sel (mL M T.length) k (i + 1))⟩, ⟨3, 1, .slice af lf cf, (firstL L (sel (mL M T.length) k i)).length, nv (firstL L (sel (mL M T.length) k i))⟩] from by
        have := (HST.out.rows.alloc (.cells #[.int .i64 (i : Int)] 3)).push 0 _ rfl hown2 hgr2 (by
          rcases hat2 with e | e
          · exact .inl e
          · exact .inr (by rw [e]; simp))
        rw [HSE.out, nv_snoc]
        exact this)
      have HB2 := Lib.hid (show Below w4.heap.size w4 X2 from (HST.out.bel.alloc hmx (.cells #[.int .i64 (i : Int)] 3)).grown hgr2 (by simp; omega) (fun q hq => (HOT.out.lt q hq).1))
      clear hown2 hgr2 hat2 hlt2 HX hm
      obtain ⟨j0, hj0⟩ : ∃ j, j = 3 * i := ⟨_, rfl⟩
      have hjl : j0 + 2 < l3 := by have := H3.out; omega
      obtain ⟨a0, ha0⟩ := Int.eq_ofNat_of_zero_le (HLS.out.nonneg j0 (by have := HL3.out; omega))
      obtain ⟨a1, ha1⟩ := Int.eq_ofNat_of_zero_le (HLS.out.nonneg (j0 + 1) (by have := HL3.out; omega))
      obtain ⟨a2, ha2⟩ := Int.eq_ofNat_of_zero_le (HLS.out.nonneg (j0 + 2) (by have := HL3.out; omega))
      have HFI := Lib.hid (show firstL L (sel (mL M T.length) k (i + 1)) = firstL L (sel (mL M T.length) k i) ++ [a0, a1, a2] from by
        rw [HSE.out, firstL_snoc, ← hj0, ha0, ha1, ha2]; rfl)
      have hrl := HRL.out.after HB2.out
      have y0 := hrl.cell (iv_get L (show j0 < l3 by omega))
      have y1 := hrl.cell (iv_get L (show j0 + 1 < l3 by omega))
      have y2 := hrl.cell (iv_get L (show j0 + 2 < l3 by omega))
      rw [ha0] at y0
      rw [ha1] at y1
      rw [ha2] at y2
      have hgl2 : gl < X2.heap.size := hrl.lt
      have HKS := Lib.hid (show ∀ Y, Below w4.heap.size X2 Y → Y.cell? ⟨gl, j0, none⟩ = some (.int .i64 (a0 : Int)) ∧ Y.cell? ⟨gl, j0 + 1, none⟩ = some (.int .i64 (a1 : Int)) ∧ Y.cell? ⟨gl, j0 + 2, none⟩ = some (.int .i64 (a2 : Int)) from fun Y h => ⟨(h.cell (p := ⟨gl, _, none⟩) hgL).trans y0, (h.cell (p := ⟨gl, _, none⟩) hgL).trans y1, (h.cell (p := ⟨gl, _, none⟩) hgL).trans y2⟩)
      have HOF2 := Lib.hid (HR2.out.own ⟨3, 1, .slice af lf cf, (firstL L (sel (mL M T.length) k i)).length, nv (firstL L (sel (mL M T.length) k i))⟩ (by simp))
      rw [firstL_length, ← HLT.out, ← HLF.out] at HOF2
      have s0 : (3 : Int) * (i : Int) = (j0 : Int) := by omega
      have wr0 : IntKind.i64.wrap (j0 : Int) = (j0 : Int) := IntWalk.i64_in _ (by omega)
      have wr1 : IntKind.i64.wrap ((j0 : Int) + 1) = (j0 : Int) + 1 := IntWalk.i64_in _ (by omega)
      have wr2 : IntKind.i64.wrap ((j0 : Int) + 2) = (j0 : Int) + 2 := IntWalk.i64_in _ (by omega)
      have b0 : (0 : Int) ≤ (j0 : Int) ∧ (j0 : Int) < (l3 : Int) := by omega
      have b1 : (0 : Int) ≤ (j0 : Int) + 1 ∧ (j0 : Int) + 1 < (l3 : Int) := by omega
      have b2 : (0 : Int) ≤ (j0 : Int) + 2 ∧ (j0 : Int) + 2 < (l3 : Int) := by omega
      have n1 : ((j0 : Int) + 1).toNat = j0 + 1 := by omega
      have n2 : ((j0 : Int) + 2).toNat = j0 + 2 := by omega
      have HQ4 := Lib.hid (show lf + 3 ≤ maxLen by unfold maxLen; omega)
      have HQ5 := Lib.hid (show (lf + 3) * 8 ≤ 140737488355328 by omega)
      have HQ6 := Lib.hid HB2.out.size
      have hrf : Below w4.heap.size X2 X2 := Below.refl _ _
      have hx42 : w4.heap.size ≤ X2.heap.size := HB2.out.size
      clear hj0 ha0 ha1 ha2 hrl y0 y1 y2
      go_upto_region 14 with fail
      go_region_held_law (fun Y => Y.cell? ⟨gl, j0, none⟩ = some (.int .i64 (a0 : Int)) ∧ Y.cell? ⟨gl, j0 + 1, none⟩ = some (.int .i64 (a1 : Int)) ∧ Y.cell? ⟨gl, j0 + 2, none⟩ = some (.int .i64 (a2 : Int)))
        (exact HKS.out _ (by repeat (first | assumption | with_reducible apply belB_drew | (with_reducible refine belB_alloc hx42 ?_ _))))
        ((refine step_append_lies _ (by rfl) _ _ _ (by rfl) w4.heap.size 3 i0 (.int .i64 0) 1 8 (by kernel_rfl) hi0 hz0 hz1 hz2 rfl (by decide) (.slice af lf cf) lf (nv (firstL L (sel (mL M T.length) k i))) (by rfl) (owns_below HOF2.out (by repeat (first | assumption | with_reducible exact Below.refl _ _ | with_reducible apply bel_drew | with_reducible apply bel_alloc))) ⟨X2.heap.size, 0, none⟩ 3 3 [.int .i64 (a0 : Int), .int .i64 (a1 : Int), .int .i64 (a2 : Int)] (by rfl) rfl (World.news_of_block (heap_alloc_new _ _)) (by intro u hu; simp at hu; rcases hu with rfl | rfl | rfl <;> rfl) (by decide) HQ4.out HQ5.out (Nat.le_trans HQ6.out (by simp)) (X2.heap.size + 1) (by simp) ?_; intro g3 cap3 X3 hown3 hgr3 hat3 hlt3; have hk3 : Below w4.heap.size X2 X3 := (show Below w4.heap.size X2 _ from (by repeat (first | assumption | with_reducible apply belB_drew | (with_reducible refine belB_alloc hx42 ?_ _)))).grown hgr3 (Nat.le_trans hx42 (by simp)) (fun q hq => (HOF2.out.lt q hq).1)))
      all_goals
        have HNX := Lib.hid (show CFSt w4 X3 M L T k (i + 1) (.slice (some ⟨g2, 0, none⟩) (lt + 1) cap2) (.slice (some ⟨g3, 0, none⟩) (lf + 3) cap3) from ⟨by
          have := (HR2.out.more (show Below X2.heap.size X2 _ from (by repeat (first | with_reducible exact Below.refl _ _ | with_reducible apply bel_drew | with_reducible apply bel_alloc)))).push 1 _ rfl hown3 hgr3 (by
            rcases hat3 with e | e
            · exact .inl e
            · exact .inr (by rw [e]; simp))
          rw [HFI.out, HSE.out, List.length_append, List.length_append, firstL_length, ← HLT.out, ← HLF.out, show nv (firstL L (sel (mL M T.length) k i) ++ [a0, a1, a2]) = nv (firstL L (sel (mL M T.length) k i)) ++ [.int .i64 (a0 : Int), .int .i64 (a1 : Int), .int .i64 (a2 : Int)] from by simp [nv]]
          rw [HSE.out] at this
          exact this, HB2.out.trans hk3⟩)
        have HL1 := Lib.hid (show lt + 1 = (sel (mL M T.length) k (i + 1)).length from by rw [HSE.out, List.length_append, ← HLT.out]; rfl)
        have HL2 := Lib.hid (show lf + 3 = 3 * (lt + 1) from by have := HLF.out; omega)
        clear hown3 hgr3 hat3 hlt3 hk3
        go_wp2
        go_roundw
        case rel => exact ⟨i + 1, _, _, cap2, cap3, lt + 1, lf + 3, by omega, by go_num, rfl, rfl, HL1.out, HL2.out, HNX.out⟩
        case measure => simp [intOf]; omega
  case neg =>
  have hie : i = T.length := by rw [← HL.out]; omega
  subst hie
  obtain ⟨S, hS⟩ : ∃ S, S = sel (mL M T.length) k T.length := ⟨_, rfl⟩
  have hrt := hst.rows.own ⟨3, 1, .slice at_ lt ct, (sel (mL M T.length) k T.length).length, nv (sel (mL M T.length) k T.length)⟩ (by simp)
  have hrf := hst.rows.own ⟨3, 1, .slice af lf cf, (firstL L (sel (mL M T.length) k T.length)).length, nv (firstL L (sel (mL M T.length) k T.length))⟩ (by simp)
  have hap : Apart (.slice at_ lt ct) (.slice af lf cf) := by
    have := hst.rows.apart
    simp only [List.pairwise_cons, List.mem_cons, List.not_mem_nil, or_false, forall_eq] at this
    exact this.1
  have hbX := hst.bel
  have hsl := sel_le (mL M T.length) k T.length
  rw [firstL_length] at hrf
  rw [← hS] at hlt hrt hrf hsl
  rw [← hlt] at hrt
  rw [← hlt, ← hlf] at hrf
  have hlb : lt ≤ 8192 := by rw [HL.out] at hl8; omega
  have hlfb : lf ≤ 24576 := by omega
  have HSS := Lib.hid hS
  have HLT := Lib.hid hlt
  have HLF := Lib.hid hlf
  have HBX := Lib.hid hbX
  have hlen' : (T.length : Int) = (len : Int) := by rw [HL.out]
  by_cases h0 : lt = 0
  case pos =>
    have hd : ((lt : Int) == 0) = true := by simp [h0]
    have hr3 := HR34.out.after hbX
    have d0 := hr3.cell (i := 0) rfl
    have d1 := hr3.cell (i := 1) rfl
    have f0 := fun i => hr3.free i
    have hF := (hr3.set 0 (.int .i64 0)).set 1 (.slice none 0 0)
    have y0 := hF.cell (i := 0) rfl
    have y1 := hF.cell (i := 1) rfl
    have HPF := Lib.hid (show SurfP T K k w (.returned (noSurf 8)) ((X.setCell ⟨B + 1, 0, none⟩ (.int .i64 0)).setCell ⟨B + 1, 1, none⟩ (.slice none 0 0)) from ⟨⟨M, HM.out, .inl ⟨by
      rw [← HSS.out]; exact List.length_eq_zero_iff.1 (by rw [← HLT.out]; exact h0), rfl⟩⟩, by
      have hb : Below B w X := HB0.out.trans ((below_more HB4.out hbX HB4.out.size).mono (by rw [HSZ0.out]; omega))
      rw [HBB.out] at hb ⊢
      exact (hb.setCell (p := ⟨w.heap.size + 1, 0, none⟩) (by show w.heap.size ≤ w.heap.size + 1; omega) _).setCell (p := ⟨w.heap.size + 1, 1, none⟩) (by show w.heap.size ≤ w.heap.size + 1; omega) _⟩)
    clear hr3 hF hst hrt hrf hap hbX hlt hlf hS hsl h0 hlen'
    go_wp2
    exact bodyPost_ret (v := noSurf 8) (by simp [results, noSurf, Tryz.results20, go_sem, y0, y1]) rfl HPF.out
  case neg =>
  have hd : ((lt : Int) == 0) = false := by simp; omega
  have hlfp : 0 < lf := by omega
  obtain ⟨gf, cf', hv, hgf1, hgf2, hcapf, -, -, -⟩ := owns_block (n := lf) hrf hlfp
  clear hlfp
  simp only [Value.slice.injEq, true_and] at hv
  obtain ⟨rfl, rfl⟩ := hv
  have hfl : (firstL L S).length = lf := by rw [firstL_length, ← HLT.out, ← HLF.out]
  have HSO := chsort w4 X w4.heap.size tb p gf cf n T (firstL L S) (by have := HS.out.t1; omega) (by rw [hfl]; omega) HTAB4.out.s HRP4.out.lt (HRP4.out.cell (i := 0) rfl) (Nat.le_refl _) hbX (by rw [hfl]; exact hrf)
  rw [hfl] at HSO
  have HSO := Lib.hid HSO
  have HRT := Lib.hid hrt
  have HAP := Lib.hid hap
  have HFL := Lib.hid hfl
  have HCF := Lib.hid hcapf
  have HN0 := Lib.hid h0
  have hmf : ∀ (fn : Fn) (first cap : Array Value) (w : World), (Instr.makeFunc fn first cap).run Tryz.prog w = .ok (.func fn first cap) w := fun _ _ _ _ => rfl
  clear hst hrt hrf hap hbX hlt hlf hS hsl h0 hlen' hgf1 hgf2 hcapf hfl
  go_wp2_with fail
  refine HSO.out.mono ?_
  rintro e w5 ⟨rfl, F1, hp1, hs1, hI1, hg1, hgfl, hgfb, hfr1⟩
  have hf1l : F1.length = lf := by rw [hp1.length_eq, HFL.out]
  have HRT5 := Lib.hid (HRT.out.kept hg1 (by rcases HAP.out with e | e; exact .inl e; exact .inr e))
  have HCO := chcompact T F1 gf cf w5 (by rw [hf1l]; have := HN0.out; have := HLF.out; omega) (by rw [hf1l]; omega) (by rw [hf1l]; exact HCF.out) hI1 hfr1 hs1
  rw [hf1l] at HCO
  have HCO := Lib.hid HCO
  have HB5 := Lib.hid (HBX.out.grown hg1 HBX.out.size (fun q hq => by cases hq; exact hgfb))
  have HM1 := Lib.hid (show ∀ x, x ∈ F1 ↔ x ∈ firstL L S from fun x => hp1.mem_iff)
  have HGB := Lib.hid hgfb
  clear hp1 hs1 hI1 hg1 hgfl hgfb hfr1 hf1l HSO HRT
  go_wp2_with fail
  refine HCO.out.mono ?_
  rintro e w6 ⟨F, rfl, hpF, hmF, hIF, hg6⟩
  have HRT6 := Lib.hid (HRT5.out.kept hg6 (by rcases HAP.out with e | e; exact .inl e; exact .inr e))
  have HB6 := Lib.hid (HB5.out.grown hg6 HB5.out.size (fun q hq => by cases hq; exact HGB.out))
  have HPC := Lib.hid (kpiece HS.out HM.out HLS.out k hpF (fun x => by rw [hmF, HM1.out, HSS.out]))
  have HIF := Lib.hid hIF
  have hFn : F.Nodup := hpF.imp fun h e => by subst e; exact ltC_irrefl h
  have HFN := Lib.hid hFn
  have hFb : F.length ≤ 24576 := by have := HPC.out.len; have := HS.out.t1; omega
  have HFC := Lib.hid (show ∀ c, c ∈ F → c < 3 * T.length from fun c hc => (HPC.out.mem.1 hc).1)
  clear hpF hmF hIF hg6 hFn HCO HRT5 HM1
  obtain ⟨fl, hfl⟩ : ∃ fl, fl = F.length := ⟨_, rfl⟩
  have HFL2 := Lib.hid hfl
  rw [← hfl] at hFb ⊢
  clear hfl
  have hmm := @run_makeMap Tryz.prog
  obtain ⟨m, hm⟩ : ∃ m, m = w6.heap.size := ⟨_, rfl⟩
  obtain ⟨W7, hW7⟩ : ∃ W7, W7 = w6.alloc (.map #[] 0) := ⟨_, rfl⟩
  have hb7 : Below w6.heap.size w6 W7 := by rw [hW7]; exact (Below.refl _ _).alloc (Nat.le_refl _) _
  have HS7 := Lib.hid (show W7.heap.size = m + 1 from by rw [hW7, hm]; simp)
  have HM7 := Lib.hid (show MapIs intFam W7 m 0 (numC F 0) from by rw [numC_zero, hm, hW7]; exact MapIs.made w6)
  have HI7 := Lib.hid (HIF.out.mono (Nat.le_refl _) hb7)
  have HRT7 := Lib.hid (owns_below HRT6.out hb7)
  have HB7 := Lib.hid (below_more HB6.out hb7 HB6.out.size)
  have HM0 := Lib.hid (show w4.heap.size ≤ m from by rw [hm]; exact HB6.out.size)
  have HMM := Lib.hid hm
  have HW7 := Lib.hid hW7
  have HGF := Lib.hid (show fl ≠ 0 from by
    obtain ⟨x, hx⟩ := List.length_pos_iff.2 (show S ≠ [] from fun e => HN0.out (by rw [HLT.out, e]; rfl)) |> fun h => (⟨S[0], List.getElem_mem h⟩ : ∃ x, x ∈ S)
    have := (HPC.out.rep (c := 3 * x) (by rw [HSS.out] at hx; have := (selP_mem.1 hx).1; omega) (by rw [show 3 * x / 3 = x by omega]; rw [HSS.out] at hx; exact (selP_mem.1 hx).2)).2
    rw [HFL2.out]
    exact Nat.pos_iff_ne_zero.1 (List.length_pos_iff.2 (List.ne_nil_of_mem this)))
  obtain ⟨hgfm, hcF⟩ : gf < m ∧ ∀ i x : Nat, F[i]? = some x → W7.cell? ⟨gf, i, none⟩ = some (.int .i64 (x : Int)) := by
    obtain ⟨b, off, e, hb, hc⟩ := HIF.out (by intro e; have := HGF.out; rw [HFL2.out] at this; rw [← nl_length F, e] at this; exact this rfl)
    simp only [Option.some.injEq, Addr.mk.injEq] at e
    obtain ⟨rfl, rfl, -⟩ := e
    refine ⟨by rw [hm]; exact hb, fun i x hx => ?_⟩
    have h1 := hc i (by rw [nl_length]; exact (List.getElem?_eq_some_iff.1 hx).1)
    rw [Nat.zero_add, nl_get hx] at h1
    exact (hb7.cell (p := ⟨gf, i, none⟩) hb).trans h1
  have HCF := Lib.hid hcF
  have HTL := Lib.hid (show ∀ q, (Value.slice at_ lt ct).ownBlock = some q → q < m from fun q hq => by rw [hm]; exact (HRT6.out.lt q hq).2)
  clear hm hW7 hb7 HRT6 HIF hcF
  go_upto_region 18 with fail
  rw [← HW7.out, ← HMM.out]
  go_wp2
  go_loopw [99, 21] (fun c v21 ws => ∃ (j : Nat) (av : Option Addr) (cv cn : Nat), j ≤ fl ∧ c = .int .i64 j ∧ v21 = .slice av j cv ∧ MapIs intFam ws m cn (numC F j) ∧ ws.ownsRow (m + 1) 3 1 (.slice av j cv) j (ic (cutV T (F.take j))) ∧ Below m W7 ws) (fun c _ _ => fl - (intOf c).toNat)
  case atStart => exact ⟨0, none, 0, 0, by omega, rfl, rfl, HM7.out, World.ownsRow_nil _ _ _ _, Below.refl _ _⟩
  case round =>
  obtain ⟨j, av, cv, cn, hj, rfl, rfl, hmp, hov, hbv⟩ := hrel
  obtain ⟨Y, rfl⟩ : ∃ Y : World, Y = wr := ⟨_, rfl⟩
  clear HM7
  by_cases hjf : j < fl
  case pos =>
    obtain ⟨c, hc⟩ : ∃ c, F[j]? = some c := ⟨_, List.getElem?_eq_getElem (by rw [← HFL2.out]; exact hjf)⟩
    have HC := Lib.hid hc
    have hc3 := HFC.out c (List.mem_of_getElem? hc)
    have hcb : c < 24576 := by have := HS.out.t1; omega
    have x0 := (hbv.cell (p := ⟨gf, j, none⟩) hgfm).trans (HCF.out j c hc)
    have h64 : I64 (c : Int) := ⟨by omega, by omega⟩
    obtain ⟨Z, hst, hmZ, hgZ⟩ := hmp.store 73 3 (by kernel_rfl) (c : Int) h64 (.int .i64 (j : Int))
    rw [numC_step HFN.out hc] at hmZ
    simp only [intFam] at hst
    obtain ⟨cn2, hcn2⟩ : ∃ q, MapIs intFam Z m q (numC F (j + 1)) := ⟨_, hmZ⟩
    have hovZ := hov.kept hgZ (by
      cases q : (Value.slice av j cv).ownBlock with
      | none => exact .inl rfl
      | some b => exact .inr fun e => by have := (hov.lt b q).1; simp at e; omega)
    have hbZ : Below m W7 Z := hbv.grown hgZ (by have := hbv.size; have := HS7.out; omega) (fun q hq => by cases hq; exact Nat.le_refl _)
    have hb4Z : Below w4.heap.size w4 Z := HB7.out.trans (hbZ.mono HM0.out)
    have HV := Lib.hid (vertexN c Z p n T (by have := HS.out.t1; omega) (HTAB4.out.mono (Nat.le_refl _) hb4Z).s)
    have xt := (HRP4.out.after hb4Z).cell (i := 0) rfl
    have HOV := Lib.hid hovZ
    have HMZ := Lib.hid hcn2
    have HBZ := Lib.hid hbZ
    obtain ⟨v, hv⟩ : ∃ v, v = vtx T c := ⟨_, rfl⟩
    rw [← hv] at HV
    have HCV := Lib.hid (show cutV T (F.take (j + 1)) = cutV T (F.take j) ++ [v] from by rw [hv]; unfold cutV; rw [List.take_add_one, hc, List.map_append]; rfl)
    have hzs : m + 1 ≤ Z.heap.size := by have := hbZ.size; have := HS7.out; omega
    have HZS := Lib.hid hzs
    have HQ1 := Lib.hid (show j + 1 ≤ maxLen by unfold maxLen; omega)
    have HQ2 := Lib.hid (show (j + 1) * 8 ≤ 140737488355328 by omega)
    clear hmp hov hbv hc hmZ hgZ hcn2 hovZ hbZ hb4Z hv hzs hc3
    go_wp2_with fail
    refine HV.out.mono ?_
    rintro e w9 ⟨rfl, rfl⟩
    have HX := Lib.hid (HOV.out.alloc (.cells #[.int .i64 v] 3))
    have HQ3 := Lib.hid (show m + 1 ≤ (Z.alloc (.cells #[.int .i64 v] 3)).heap.size by have := HZS.out; simp; omega)
    go_wp2_with (at_builtin; refine wpList_append_lies _ rfl _ _ 25 rfl (m + 1) 3 i0 (.int .i64 0) 1 8 (by kernel_rfl) hi0 hz0 hz1 hz2 rfl (by decide) _ _ _ rfl HX.out ⟨Z.heap.size, 0, none⟩ 1 1 [.int .i64 v] rfl rfl (World.news_of_block (heap_alloc_new Z _)) (by intro u hu; simp at hu; subst hu; rfl) (by decide) HQ1.out HQ2.out HQ3.out _ rfl ?_)
    intro g2 cap2 w8 hown8 hgr8 hat8 hlt8
    have HM8 := Lib.hid (show MapIs intFam w8 m cn2 (numC F (j + 1)) from (HMZ.out.below (Nat.le_refl _) ((Below.refl Z.heap.size Z).alloc (Nat.le_refl _) (.cells #[.int .i64 v] 3))).same (hgr8.block m (by have := HMZ.out.lt; simp; omega) (by intro e; have := (HOV.out.lt m e.symm).1; omega)))
    have HB8 := Lib.hid (show Below m W7 w8 from (HBZ.out.alloc (by have := HZS.out; omega) (.cells #[.int .i64 v] 3)).grown hgr8 (by have := HZS.out; simp; omega) (fun q hq => by have := (HOV.out.lt q hq).1; omega))
    have HO8 := Lib.hid (show w8.ownsRow (m + 1) 3 1 (.slice (some ⟨g2, 0, none⟩) (j + 1) cap2) (j + 1) (ic (cutV T (F.take (j + 1)))) from by rw [HCV.out, ic_snoc]; exact hown8)
    clear hown8 hgr8 hat8 hlt8 HX
    go_wp2
    go_roundw
    case rel => exact ⟨j + 1, _, cap2, cn2, by omega, by go_num, rfl, HM8.out, HO8.out, HB8.out⟩
    case measure => simp [intOf]; omega
  case neg =>
  have hje : j = fl := by omega
  subst hje
  rw [show F.take j = F from List.take_of_length_le (by rw [← HFL2.out]; exact Nat.le_refl _)] at hov
  have HOV := Lib.hid hov
  have HMP := Lib.hid (show MapIs intFam Y m cn (numC F F.length) from by rw [← HFL2.out]; exact hmp)
  have HB9 := Lib.hid (HB7.out.trans (hbv.mono HM0.out))
  have HRT9 := Lib.hid (owns_lowB HRT7.out hbv HTL.out)
  have hym : m + 1 ≤ Y.heap.size := by have := hbv.size; have := HS7.out; omega
  have HYM := Lib.hid hym
  have HRL9 := Lib.hid (HRL.out.after HB9.out)
  obtain ⟨Z0, hZ0⟩ : ∃ Z0, Z0 = Y.alloc (.cells #[.int .i64 (j : Int), .slice none 0 0] 24) := ⟨_, rfl⟩
  obtain ⟨ob, hob⟩ : ∃ ob, ob = Y.heap.size := ⟨_, rfl⟩
  have hbz : Below Y.heap.size Y Z0 := by rw [hZ0]; exact (Below.refl _ _).alloc (Nat.le_refl _) _
  have HZR := Lib.hid (show RowIs Z0 ob 24 [.int .i64 (j : Int), .slice none 0 0] from by rw [hZ0, hob]; exact RowIs.made Y 24 [.int .i64 (j : Int), .slice none 0 0])
  have HZM := Lib.hid (HMP.out.below (Nat.le_refl _) hbz)
  have HZT := Lib.hid (owns_below HRT9.out hbz)
  have HZV := Lib.hid (owns_below HOV.out hbz)
  have HZL := Lib.hid (HRL9.out.after hbz)
  have HZB := Lib.hid (below_more HB9.out hbz HB9.out.size)
  have HZ0 := Lib.hid hZ0
  have HOB := Lib.hid hob
  have hzo : Z0.heap.size = ob + 1 := by rw [hZ0, hob]; simp
  have HZS := Lib.hid hzo
  have HMO := Lib.hid (show m < ob by rw [hob]; omega)
  have HGLO := Lib.hid (show gl < ob by rw [hob]; exact HRL9.out.lt)
  have HTO := Lib.hid (show (∀ q, (Value.slice at_ lt ct).ownBlock = some q → q < ob) ∧ (∀ q, (Value.slice av j cv).ownBlock = some q → q < ob) from ⟨fun q hq => by rw [hob]; exact (HRT9.out.lt q hq).2, fun q hq => by rw [hob]; exact (HOV.out.lt q hq).2⟩)
  clear hmp hov hbv hym hZ0 hob hbz hzo
  go_upto_region 29 with fail
  rw [← HZ0.out, ← HOB.out]
  obtain ⟨iq, hiq, hy0, hy1, hy2⟩ := info_parts infoTriS
  have HST3 := Lib.hid (show RowIs Z0 ob 24 [.int .i64 (j : Int), .slice none 0 0] from HZR.out)
  have zt := HZS.out
  go_wp2
  clear zt
  go_loopw [119] (fun c ws => ∃ (i : Nat) (aT : Option Addr) (cT : Nat), i ≤ lt ∧ c = .int .i64 i ∧ RowIs ws ob 24 [.int .i64 (j : Int), .slice aT i cT] ∧ ws.ownsRow (ob + 1) 49 3 (.slice aT i cT) i (tcells ((S.take i).map (cutTri L F))) ∧ Below ob Z0 ws) (fun c _ => lt - (intOf c).toNat)
  case atStart => exact ⟨0, none, 0, by omega, rfl, HST3.out, World.ownsRow_nil _ _ _ _, Below.refl _ _⟩
  case round =>
  obtain ⟨i, aT, cT, hi3, rfl, hrb, hot, hbx⟩ := hrel
  obtain ⟨X3, rfl⟩ : ∃ X3 : World, X3 = wr := ⟨_, rfl⟩
  clear HST3
  have hobX : ob ≤ Z0.heap.size := by rw [HZS.out]; omega
  by_cases hit : i < lt
  case pos =>
    obtain ⟨t, ht⟩ : ∃ t, S[i]? = some t := ⟨_, List.getElem?_eq_getElem (by rw [← HLT.out]; exact hit)⟩
    have htm := List.mem_of_getElem? ht
    rw [HSS.out] at htm
    obtain ⟨htl, htk⟩ := selP_mem.1 htm
    obtain ⟨gt, ct', hv, hgt1, hgt2, -, -, hcT, -⟩ := owns_block HZT.out (by omega)
    simp only [Value.slice.injEq, true_and] at hv
    obtain ⟨rfl, rfl⟩ := hv
    have x0 := (hbx.cell (p := ⟨gt, i, none⟩) (HTO.out.1 gt rfl)).trans (hcT i _ (nv_get ht))
    have HTK := Lib.hid (show (S.take (i + 1)).map (cutTri L F) = (S.take i).map (cutTri L F) ++ [cutTri L F t] from by rw [List.take_add_one, ht, List.map_append]; rfl)
    obtain ⟨i0', hi0'⟩ : ∃ a, a = 3 * t := ⟨_, rfl⟩
    have hjl : i0' + 2 < l3 := by have := HL3.out; omega
    have hrl := HZL.out.below hbx HGLO.out
    have y0 := hrl.cell (iv_get L (show i0' < l3 by omega))
    have y1 := hrl.cell (iv_get L (show i0' + 1 < l3 by omega))
    have y2 := hrl.cell (iv_get L (show i0' + 2 < l3 by omega))
    have HMEM := Lib.hid (show ∀ c, c < l3 → c / 3 = t → 0 ≤ L c ∧ (L c).toNat ∈ F ∧ I64 (L c) from fun c hc hct => by
      have hc3 : c < 3 * T.length := by rw [← HL3.out]; exact hc
      have h0 := HLS.out.nonneg c hc3
      have h1 := HLS.out.le c hc3
      have h2 := HS.out.t1
      exact ⟨h0, (HPC.out.rep hc3 (by rw [hct]; exact htk)).2, ⟨by omega, by omega⟩⟩)
    obtain ⟨m0, n0, q0⟩ := HMEM.out i0' (by omega) (by omega)
    obtain ⟨m1, n1, q1⟩ := HMEM.out (i0' + 1) (by omega) (by omega)
    obtain ⟨m2, n2, q2⟩ := HMEM.out (i0' + 2) (by omega) (by omega)
    have HTR0 := Lib.hid (show cutTri L F t = (ixF F (L i0'), ixF F (L (i0' + 1)), ixF F (L (i0' + 2))) from by rw [hi0']; rfl)
    obtain ⟨l0, hl0⟩ : ∃ l, Hid (L i0' = l) := ⟨_, rfl⟩
    obtain ⟨l1, hl1⟩ : ∃ l, Hid (L (i0' + 1) = l) := ⟨_, rfl⟩
    obtain ⟨l2, hl2⟩ : ∃ l, Hid (L (i0' + 2) = l) := ⟨_, rfl⟩
    rw [hl0.out] at y0 m0 n0 q0
    rw [hl1.out] at y1 m1 n1 q1
    rw [hl2.out] at y2 m2 n2 q2
    rw [hl0.out, hl1.out, hl2.out] at HTR0
    obtain ⟨r0, hr0⟩ : ∃ r, Hid (ixF F l0 = r) := ⟨_, rfl⟩
    obtain ⟨r1, hr1⟩ : ∃ r, Hid (ixF F l1 = r) := ⟨_, rfl⟩
    obtain ⟨r2, hr2⟩ : ∃ r, Hid (ixF F l2 = r) := ⟨_, rfl⟩
    have HTR := Lib.hid (show cutTri L F t = (r0, r1, r2) from by rw [HTR0.out, hr0.out, hr1.out, hr2.out])
    have HLK := Lib.hid (show ∀ (l r : Int), 0 ≤ l → l.toNat ∈ F → I64 l → ixF F l = r → ∀ Y, Below ob Z0 Y → (Instr.lookup 73 (.map (some m)) (.int .i64 l) false).run Tryz.prog Y = .ok (.int .i64 r) Y from fun l r h0 h1 h2 h3 Y hY => by
      have := (HZM.out.same (hY.block m HMO.out)).look 73 3 (by kernel_rfl) (z := .int .i64 0) (fun _ => by kernel_rfl) l h2 false
      simp only [intFam, Bool.false_eq_true, if_false] at this
      rw [numC_all h0 h1, h3] at this
      exact this)
    have HKS := Lib.hid (show ∀ w', Below ob Z0 w' → w'.cell? ⟨gl, i0', none⟩ = some (.int .i64 l0) ∧ w'.cell? ⟨gl, i0' + 1, none⟩ = some (.int .i64 l1) ∧ w'.cell? ⟨gl, i0' + 2, none⟩ = some (.int .i64 l2) ∧ (Instr.lookup 73 (.map (some m)) (.int .i64 l0) false).run Tryz.prog w' = .ok (.int .i64 r0) w' ∧ (Instr.lookup 73 (.map (some m)) (.int .i64 l1) false).run Tryz.prog w' = .ok (.int .i64 r1) w' ∧ (Instr.lookup 73 (.map (some m)) (.int .i64 l2) false).run Tryz.prog w' = .ok (.int .i64 r2) w' from fun Y hY =>
      ⟨by rw [← hl0.out]; exact (HZL.out.below hY HGLO.out).cell (iv_get L (show i0' < l3 by omega)), by rw [← hl1.out]; exact (HZL.out.below hY HGLO.out).cell (iv_get L (show i0' + 1 < l3 by omega)), by rw [← hl2.out]; exact (HZL.out.below hY HGLO.out).cell (iv_get L (show i0' + 2 < l3 by omega)), HLK.out l0 r0 m0 n0 q0 hr0.out Y hY, HLK.out l1 r1 m1 n1 q1 hr1.out Y hY, HLK.out l2 r2 m2 n2 q2 hr2.out Y hY⟩)
    have HOT := Lib.hid hot
    have HRB := Lib.hid hrb
    have t1 := hrb.cell (i := 1) rfl
    have t1' : ∀ o, (X3.alloc o).cell? ⟨ob, 1, none⟩ = some (.slice aT i cT) := fun o => (hrb.alloc o).cell (i := 1) rfl
    have hobx : ob + 1 ≤ X3.heap.size := by have := hbx.size; rw [HZS.out] at this; exact this
    have HQ3 := Lib.hid hobx
    have s0 : (3 : Int) * (t : Int) = (i0' : Int) := by omega
    have wr0 : IntKind.i64.wrap (i0' : Int) = (i0' : Int) := IntWalk.i64_in _ (by have := HS.out.t1; have := HL3.out; omega)
    have wr1 : IntKind.i64.wrap ((i0' : Int) + 1) = (i0' : Int) + 1 := IntWalk.i64_in _ (by have := HS.out.t1; have := HL3.out; omega)
    have wr2 : IntKind.i64.wrap ((i0' : Int) + 2) = (i0' : Int) + 2 := IntWalk.i64_in _ (by have := HS.out.t1; have := HL3.out; omega)
    have b0 : (0 : Int) ≤ (i0' : Int) ∧ (i0' : Int) < (l3 : Int) := by omega
    have b1 : (0 : Int) ≤ (i0' : Int) + 1 ∧ (i0' : Int) + 1 < (l3 : Int) := by omega
    have b2 : (0 : Int) ≤ (i0' : Int) + 2 ∧ (i0' : Int) + 2 < (l3 : Int) := by omega
    have p1 : ((i0' : Int) + 1).toNat = i0' + 1 := by omega
    have p2 : ((i0' : Int) + 2).toNat = i0' + 2 := by omega
    have HQ1 := Lib.hid (show i + 1 ≤ maxLen by unfold maxLen; omega)
    have HQ2 := Lib.hid (show (i + 1) * 24 ≤ 140737488355328 by omega)
    have htb8 : t < 8192 := by have := HS.out.t1; omega
    clear hrb hot ht htm htl htk hcT hrl y0 y1 y2 m0 n0 q0 m1 n1 q1 m2 n2 q2 hi0' hobx hgt1 hgt2
    go_upto_region 32 with fail
    refine wp_region_held_drew (S := (fun w' => w'.cell? ⟨gl, i0', none⟩ = some (.int .i64 l0) ∧ w'.cell? ⟨gl, i0' + 1, none⟩ = some (.int .i64 l1) ∧ w'.cell? ⟨gl, i0' + 2, none⟩ = some (.int .i64 l2) ∧ (Instr.lookup 73 (.map (some m)) (.int .i64 l0) false).run Tryz.prog w' = .ok (.int .i64 r0) w' ∧ (Instr.lookup 73 (.map (some m)) (.int .i64 l1) false).run Tryz.prog w' = .ok (.int .i64 r1) w' ∧ (Instr.lookup 73 (.map (some m)) (.int .i64 l2) false).run Tryz.prog w' = .ok (.int .i64 r2) w')) (by kernel_rfl) ?_ (fun hHeld0 => ?_)
    · ((try dsimp only); exact HKS.out _ (by repeat (first | assumption | with_reducible apply belB_drew | (with_reducible refine belB_alloc hobX ?_ _) | (with_reducible refine Below.setCell ?_ (by first | exact Nat.le_refl _ | (show ob ≤ ob; exact Nat.le_refl _)) _))))
    refine wpAnyH_take (i := 0) (v := ?_) rfl (by kernel_rfl) (by kernel_rfl) (by kernel_rfl) (fun _ _ _ h => h) (Or.inl ⟨by rfl, ?_⟩) (by assumption) ?_
    rotate_left
    · (intro w hSw; (try dsimp only at hSw); go_simp; try with_reducible rfl)
    try simp only [List.getElem_toArray, List.getElem_cons_succ, List.getElem_cons_zero, Act.put, List.setIfInBounds_toArray, List.set_cons_zero, List.set_cons_succ]
    refine wpAnyH_take (i := 2) (v := ?_) rfl (by kernel_rfl) (by kernel_rfl) (by kernel_rfl) (fun _ _ _ h => h) (Or.inl ⟨by rfl, ?_⟩) (by assumption) ?_
    rotate_left
    · (intro w hSw; (try dsimp only at hSw); go_simp; try with_reducible rfl)
    try simp only [List.getElem_toArray, List.getElem_cons_succ, List.getElem_cons_zero, Act.put, List.setIfInBounds_toArray, List.set_cons_zero, List.set_cons_succ]
    refine wpAnyH_take (i := 3) (v := ?_) rfl (by kernel_rfl) (by kernel_rfl) (by kernel_rfl) (fun _ _ _ h => h) (Or.inl ⟨by rfl, ?_⟩) (by assumption) ?_
    rotate_left
    · (intro w hSw; (try dsimp only at hSw); go_simp; try with_reducible rfl)
    try simp only [List.getElem_toArray, List.getElem_cons_succ, List.getElem_cons_zero, Act.put, List.setIfInBounds_toArray, List.set_cons_zero, List.set_cons_succ]
    refine wpAnyH_take (i := 4) (v := ?_) rfl (by kernel_rfl) (by kernel_rfl) (by kernel_rfl) (fun _ _ _ h => h) (Or.inl ⟨by rfl, ?_⟩) (by assumption) ?_
    rotate_left
    · (intro w hSw; (try dsimp only at hSw); go_simp; try with_reducible rfl)
    try simp only [List.getElem_toArray, List.getElem_cons_succ, List.getElem_cons_zero, Act.put, List.setIfInBounds_toArray, List.set_cons_zero, List.set_cons_succ]
    refine wpAnyH_take (i := 5) (v := ?_) rfl (by kernel_rfl) (by kernel_rfl) (by kernel_rfl) (fun _ _ _ h => h) (Or.inl ⟨by rfl, ?_⟩) (by assumption) ?_
    rotate_left
    · (intro w hSw; (try dsimp only at hSw); go_simp; try with_reducible rfl)
    try simp only [List.getElem_toArray, List.getElem_cons_succ, List.getElem_cons_zero, Act.put, List.setIfInBounds_toArray, List.set_cons_zero, List.set_cons_succ]
    refine wpAnyH_take (i := 6) (v := ?_) rfl (by kernel_rfl) (by kernel_rfl) (by kernel_rfl) (fun _ _ _ h => h) (Or.inl ⟨by rfl, ?_⟩) (by assumption) ?_
    rotate_left
    · (intro w hSw; (try dsimp only at hSw); go_simp; try with_reducible rfl)
    try simp only [List.getElem_toArray, List.getElem_cons_succ, List.getElem_cons_zero, Act.put, List.setIfInBounds_toArray, List.set_cons_zero, List.set_cons_succ]
    refine wpAnyH_take (i := 7) (v := ?_) rfl (by kernel_rfl) (by kernel_rfl) (by kernel_rfl) (fun _ _ _ h => h) (Or.inl ⟨by rfl, ?_⟩) (by assumption) ?_
    rotate_left
    · (intro w hSw; (try dsimp only at hSw); go_simp; try with_reducible rfl)
    try simp only [List.getElem_toArray, List.getElem_cons_succ, List.getElem_cons_zero, Act.put, List.setIfInBounds_toArray, List.set_cons_zero, List.set_cons_succ]
    refine wpAnyH_take (i := 8) (v := ?_) rfl (by kernel_rfl) (by kernel_rfl) (by kernel_rfl) (fun _ _ _ h => h) (Or.inl ⟨by rfl, ?_⟩) (by assumption) ?_
    rotate_left
    · (intro w hSw; (try dsimp only at hSw); go_simp; try with_reducible rfl)
    try simp only [List.getElem_toArray, List.getElem_cons_succ, List.getElem_cons_zero, Act.put, List.setIfInBounds_toArray, List.set_cons_zero, List.set_cons_succ]
    refine wpAnyH_take (i := 9) (v := ?_) rfl (by kernel_rfl) (by kernel_rfl) (by kernel_rfl) (fun _ _ _ h => h) (Or.inl ⟨by rfl, ?_⟩) (by assumption) ?_
    rotate_left
    · (intro w hSw; (try dsimp only at hSw); go_simp; try with_reducible rfl)
    try simp only [List.getElem_toArray, List.getElem_cons_succ, List.getElem_cons_zero, Act.put, List.setIfInBounds_toArray, List.set_cons_zero, List.set_cons_succ]
    refine wpAnyH_take (i := 10) (v := ?_) rfl (by kernel_rfl) (by kernel_rfl) (by kernel_rfl) (fun _ _ _ h => h) (Or.inl ⟨by rfl, ?_⟩) (by assumption) ?_
    rotate_left
    · (intro w hSw; (try dsimp only at hSw); go_simp; try with_reducible rfl)
    try simp only [List.getElem_toArray, List.getElem_cons_succ, List.getElem_cons_zero, Act.put, List.setIfInBounds_toArray, List.set_cons_zero, List.set_cons_succ]
    refine wpAnyH_take (i := 11) (v := ?_) rfl (by kernel_rfl) (by kernel_rfl) (by kernel_rfl) (fun _ _ _ h => h) (Or.inl ⟨by rfl, ?_⟩) (by assumption) ?_
    rotate_left
    · (intro w hSw; (try dsimp only at hSw); go_simp; try with_reducible rfl)
    try simp only [List.getElem_toArray, List.getElem_cons_succ, List.getElem_cons_zero, Act.put, List.setIfInBounds_toArray, List.set_cons_zero, List.set_cons_succ]
    refine wpAnyH_take (i := 12) (v := ?_) rfl (by kernel_rfl) (by kernel_rfl) (by kernel_rfl) (fun _ _ _ h => h) (Or.inl ⟨by rfl, ?_⟩) (by assumption) ?_
    rotate_left
    · (intro w hSw; (try dsimp only at hSw); go_simp; try with_reducible rfl)
    try simp only [List.getElem_toArray, List.getElem_cons_succ, List.getElem_cons_zero, Act.put, List.setIfInBounds_toArray, List.set_cons_zero, List.set_cons_succ]
    refine wpAnyH_take (i := 13) (v := ?_) rfl (by kernel_rfl) (by kernel_rfl) (by kernel_rfl) (fun _ _ _ h => h) (Or.inl ⟨by rfl, ?_⟩) (by assumption) ?_
    rotate_left
    · (intro w hSw; (try dsimp only at hSw); go_simp; try with_reducible rfl)
    try simp only [List.getElem_toArray, List.getElem_cons_succ, List.getElem_cons_zero, Act.put, List.setIfInBounds_toArray, List.set_cons_zero, List.set_cons_succ]
    refine wpAnyH_take (i := 14) (v := ?_) rfl (by kernel_rfl) (by kernel_rfl) (by kernel_rfl) (fun _ _ _ h => h) (Or.inl ⟨by rfl, ?_⟩) (by assumption) ?_
    rotate_left
    · (intro w hSw; (try dsimp only at hSw); go_simp; try with_reducible rfl)
    try simp only [List.getElem_toArray, List.getElem_cons_succ, List.getElem_cons_zero, Act.put, List.setIfInBounds_toArray, List.set_cons_zero, List.set_cons_succ]
    refine wpAnyH_take (i := 15) (v := ?_) rfl (by kernel_rfl) (by kernel_rfl) (by kernel_rfl) (fun _ _ _ h => h) (Or.inl ⟨by rfl, ?_⟩) (by assumption) ?_
    rotate_left
    · (intro w hSw; (try dsimp only at hSw); go_simp; try with_reducible rfl)
    try simp only [List.getElem_toArray, List.getElem_cons_succ, List.getElem_cons_zero, Act.put, List.setIfInBounds_toArray, List.set_cons_zero, List.set_cons_succ]
    refine wpAnyH_take (i := 16) (v := ?_) rfl (by kernel_rfl) (by kernel_rfl) (by kernel_rfl) (fun _ _ _ h => h) (Or.inl ⟨by rfl, ?_⟩) (by assumption) ?_
    rotate_left
    · (intro w hSw; (try dsimp only at hSw); go_simp; try with_reducible rfl)
    try simp only [List.getElem_toArray, List.getElem_cons_succ, List.getElem_cons_zero, Act.put, List.setIfInBounds_toArray, List.set_cons_zero, List.set_cons_succ]
    refine wpAnyH_take (i := 17) (v := ?_) rfl (by kernel_rfl) (by kernel_rfl) (by kernel_rfl) (fun _ _ _ h => h) (Or.inl ⟨by rfl, ?_⟩) (by assumption) ?_
    rotate_left
    · (intro w hSw; (try dsimp only at hSw); go_simp; try with_reducible rfl)
    try simp only [List.getElem_toArray, List.getElem_cons_succ, List.getElem_cons_zero, Act.put, List.setIfInBounds_toArray, List.set_cons_zero, List.set_cons_succ]
    refine wpAnyH_take (i := 18) (v := ?_) rfl (by kernel_rfl) (by kernel_rfl) (by kernel_rfl) (fun _ _ _ h => h) (Or.inl ⟨by rfl, ?_⟩) (by assumption) ?_
    rotate_left
    · (intro w hSw; (try dsimp only at hSw); go_simp; try with_reducible rfl)
    try simp only [List.getElem_toArray, List.getElem_cons_succ, List.getElem_cons_zero, Act.put, List.setIfInBounds_toArray, List.set_cons_zero, List.set_cons_succ]
    refine wpAnyH_take (i := 19) (v := ?_) rfl (by kernel_rfl) (by kernel_rfl) (by kernel_rfl) (fun _ _ _ h => h) (Or.inl ⟨by rfl, ?_⟩) (by assumption) ?_
    rotate_left
    · (intro w hSw; (try dsimp only at hSw); go_simp; try with_reducible rfl)
    try simp only [List.getElem_toArray, List.getElem_cons_succ, List.getElem_cons_zero, Act.put, List.setIfInBounds_toArray, List.set_cons_zero, List.set_cons_succ]
    refine wpAnyH_take (i := 20) (v := ?_) rfl (by kernel_rfl) (by kernel_rfl) (by kernel_rfl) (fun _ _ _ h => h) (Or.inl ⟨by rfl, ?_⟩) (by assumption) ?_
    rotate_left
    · (intro w hSw; (try dsimp only at hSw); go_simp; try with_reducible rfl)
    try simp only [List.getElem_toArray, List.getElem_cons_succ, List.getElem_cons_zero, Act.put, List.setIfInBounds_toArray, List.set_cons_zero, List.set_cons_succ]
    refine wpAnyH_take (i := 21) (v := ?_) rfl (by kernel_rfl) (by kernel_rfl) (by kernel_rfl) (fun _ _ _ h => h) (Or.inl ⟨by rfl, ?_⟩) (by assumption) ?_
    rotate_left
    · (intro w hSw; (try dsimp only at hSw); go_simp; try with_reducible rfl)
    try simp only [List.getElem_toArray, List.getElem_cons_succ, List.getElem_cons_zero, Act.put, List.setIfInBounds_toArray, List.set_cons_zero, List.set_cons_succ]
    refine wpAnyH_take (i := 22) (v := ?_) rfl (by kernel_rfl) (by kernel_rfl) (by kernel_rfl) (fun _ _ _ h => h) (Or.inl ⟨by rfl, ?_⟩) (by assumption) ?_
    rotate_left
    · (intro w hSw; (try dsimp only at hSw); go_simp; try with_reducible rfl)
    try simp only [List.getElem_toArray, List.getElem_cons_succ, List.getElem_cons_zero, Act.put, List.setIfInBounds_toArray, List.set_cons_zero, List.set_cons_succ]
    refine wpAnyH_take (i := 23) (v := ?_) rfl (by kernel_rfl) (by kernel_rfl) (by kernel_rfl) (fun _ _ _ h => h) (Or.inl ⟨by rfl, ?_⟩) (by assumption) ?_
    rotate_left
    · (intro w hSw; (try dsimp only at hSw); go_simp; try with_reducible rfl)
    try simp only [List.getElem_toArray, List.getElem_cons_succ, List.getElem_cons_zero, Act.put, List.setIfInBounds_toArray, List.set_cons_zero, List.set_cons_succ]
    refine wpAnyH_take (i := 24) (v := ?_) rfl (by kernel_rfl) (by kernel_rfl) (by kernel_rfl) (fun _ _ _ h => h) (Or.inl ⟨by rfl, ?_⟩) (by assumption) ?_
    rotate_left
    · (intro w hSw; (try dsimp only at hSw); go_simp; try with_reducible rfl)
    try simp only [List.getElem_toArray, List.getElem_cons_succ, List.getElem_cons_zero, Act.put, List.setIfInBounds_toArray, List.set_cons_zero, List.set_cons_succ]
    refine wpAnyH_take (i := 25) (v := ?_) rfl (by kernel_rfl) (by kernel_rfl) (by kernel_rfl) (fun _ _ _ h => h) (Or.inl ⟨by rfl, ?_⟩) (by assumption) ?_
    rotate_left
    · (intro w hSw; (try dsimp only at hSw); go_simp; try with_reducible rfl)
    try simp only [List.getElem_toArray, List.getElem_cons_succ, List.getElem_cons_zero, Act.put, List.setIfInBounds_toArray, List.set_cons_zero, List.set_cons_succ]
    refine wpAnyH_ready (rs := [1, 26]) (by kernel_rfl) (by simp) ?_
    refine AllReadyH.cons rfl (fun Kk hK => ?_) (AllReadyH.cons rfl (fun Kk hK => ?_) AllReadyH.nil)
    · skip
      go_simp
      refine hK.out _ _ ?_ (fun hHa => ?_)
      · ((try dsimp only); exact HKS.out _ (by repeat (first | assumption | with_reducible apply belB_drew | (with_reducible refine belB_alloc hobX ?_ _) | (with_reducible refine Below.setCell ?_ (by first | exact Nat.le_refl _ | (show ob ≤ ob; exact Nat.le_refl _)) _))))
      clear hK Kk
      try simp only [List.getElem_toArray, List.getElem_cons_succ, List.getElem_cons_zero, Act.put, List.setIfInBounds_toArray, List.set_cons_zero, List.set_cons_succ]
      refine wpAnyH_ready (rs := [26]) (by kernel_rfl) (by simp) ?_
      refine (AllReadyH.cons rfl (fun Kk hK => ?_) AllReadyH.nil)
      go_simp
      refine hK.out _ _ ?_ (fun hHx26 => ?_)
      · ((try dsimp only); exact HKS.out _ (by repeat (first | assumption | with_reducible apply belB_drew | (with_reducible refine belB_alloc hobX ?_ _) | (with_reducible refine Below.setCell ?_ (by first | exact Nat.le_refl _ | (show ob ≤ ob; exact Nat.le_refl _)) _))))
      clear hK Kk
      try simp only [List.getElem_toArray, List.getElem_cons_succ, List.getElem_cons_zero, Act.put, List.setIfInBounds_toArray, List.set_cons_zero, List.set_cons_succ]
      refine wpAnyH_ready (rs := [27]) (by kernel_rfl) (by simp) ?_
      refine (AllReadyH.cons rfl (fun Kk hK => ?_) AllReadyH.nil)
      (refine step_append_lies _ (by rfl) _ _ _ (by rfl) (ob + 1) 49 iq (.agg #[.int .i64 0, .int .i64 0, .int .i64 0]) 3 24 (by kernel_rfl) hiq hy0 hy1 hy2 rfl (by decide) (.slice aT i cT) i (tcells ((S.take i).map (cutTri L F))) (by rfl) (owns_below HOT.out (by repeat (first | with_reducible exact Below.refl _ _ | with_reducible apply bel_drew | with_reducible apply bel_alloc))) ⟨X3.heap.size, 0, none⟩ 1 1 [.int .i64 r0, .int .i64 r1, .int .i64 r2] (by rfl) rfl (World.news_of_block (heap_alloc_new _ _)) (by intro u hu; simp at hu; rcases hu with rfl | rfl | rfl <;> rfl) (by decide) HQ1.out HQ2.out (Nat.le_trans HQ3.out (by simp)) (X3.heap.size + 1) (by simp) ?_)
      intro g2 cap2 X7 hown7 hgr7 hat7 hlt7
      have hk7 : Below ob Z0 X7 := (show Below ob Z0 _ from (by repeat (first | assumption | with_reducible apply belB_drew | (with_reducible refine belB_alloc hobX ?_ _) | (with_reducible refine Below.setCell ?_ (by first | exact Nat.le_refl _ | (show ob ≤ ob; exact Nat.le_refl _)) _)))).grown hgr7 (Nat.le_trans (Nat.le_succ ob) (Nat.le_trans HQ3.out (by simp))) (fun q hq => Nat.le_trans (Nat.le_succ ob) (HOT.out.lt q hq).1)
      have hr7 : RowIs X7 ob 24 [.int .i64 (j : Int), .slice aT i cT] := (show RowIs _ ob 24 _ from (by repeat (first | exact HRB.out | with_reducible refine RowIs.drew1 ?_ | with_reducible refine RowIs.alloc ?_ _))).grown hgr7 (by intro e; exact absurd (HOT.out.lt ob e.symm).1 (Nat.not_succ_le_self ob))
      have k1 := hr7.cell (i := 1) rfl
      have l1' := hr7.free 1
      refine hK.out _ _ ?_ (fun hHx27 => ?_)
      · ((try dsimp only); exact HKS.out _ (by repeat (first | assumption | with_reducible apply belB_drew | (with_reducible refine belB_alloc hobX ?_ _) | (with_reducible refine Below.setCell ?_ (by first | exact Nat.le_refl _ | (show ob ≤ ob; exact Nat.le_refl _)) _))))
      clear hK Kk
      try simp only [List.getElem_toArray, List.getElem_cons_succ, List.getElem_cons_zero, Act.put, List.setIfInBounds_toArray, List.set_cons_zero, List.set_cons_succ]
      refine wpAnyH_take (i := 28) (v := ?_) rfl (by kernel_rfl) (by kernel_rfl) (by kernel_rfl) (fun _ _ _ h => h) (Or.inl ⟨by rfl, ?_⟩) (by assumption) ?_
      rotate_left
      · (intro w hSw; (try dsimp only at hSw); go_simp; try with_reducible rfl)
      try simp only [List.getElem_toArray, List.getElem_cons_succ, List.getElem_cons_zero, Act.put, List.setIfInBounds_toArray, List.set_cons_zero, List.set_cons_succ]
      refine wpAnyH_ready (rs := [29]) (by kernel_rfl) (by simp) ?_
      refine (AllReadyH.cons rfl (fun Kk hK => ?_) AllReadyH.nil)
      go_simp
      refine hK.out _ _ ?_ (fun hHx29 => ?_)
      · ((try dsimp only); exact HKS.out _ (by repeat (first | assumption | with_reducible apply belB_drew | (with_reducible refine belB_alloc hobX ?_ _) | (with_reducible refine Below.setCell ?_ (by first | exact Nat.le_refl _ | (show ob ≤ ob; exact Nat.le_refl _)) _))))
      clear hK Kk
      try simp only [List.getElem_toArray, List.getElem_cons_succ, List.getElem_cons_zero, Act.put, List.setIfInBounds_toArray, List.set_cons_zero, List.set_cons_succ]
      refine wpAnyH_done (by kernel_rfl) ?_ _
      have HNX := Lib.hid (show RowIs (X7.setCell ⟨ob, 1, none⟩ (.slice (some ⟨g2, 0, none⟩) (i + 1) cap2)) ob 24 [.int .i64 (j : Int), .slice (some ⟨g2, 0, none⟩) (i + 1) cap2] ∧ (X7.setCell ⟨ob, 1, none⟩ (.slice (some ⟨g2, 0, none⟩) (i + 1) cap2)).ownsRow (ob + 1) 49 3 (.slice (some ⟨g2, 0, none⟩) (i + 1) cap2) (i + 1) (tcells ((S.take (i + 1)).map (cutTri L F))) ∧ Below ob Z0 (X7.setCell ⟨ob, 1, none⟩ (.slice (some ⟨g2, 0, none⟩) (i + 1) cap2)) from
        ⟨hr7.set 1 _, by
          rw [HTK.out, tcells_snoc, HTR.out]
          exact ownsRow_setCell_below hown7 (a := ⟨ob, 1, none⟩) (Nat.lt_succ_self _) _, hk7.setCell (p := ⟨ob, 1, none⟩) (Nat.le_refl _) _⟩)
      clear hown7 hgr7 hat7 hlt7 hk7 hr7 k1 l1' hHx29 hHx27
      try clear hHx1
      try clear hHx26
      clear hHa hHeld0
      go_wp2
      go_roundw
      case rel => first | exact ⟨i + 1, _, cap2, by omega, by go_num, HNX.out.1, HNX.out.2.1, HNX.out.2.2⟩ | exact ⟨i + 1, _, cap2, by omega, by go_num, HNX.out.1.drew1, HNX.out.2.1.drew, belB_drew HNX.out.2.2⟩
      case measure => simp [intOf]; omega
    · skip
      go_simp
      refine hK.out _ _ ?_ (fun hHa => ?_)
      · ((try dsimp only); exact HKS.out _ (by repeat (first | assumption | with_reducible apply belB_drew | (with_reducible refine belB_alloc hobX ?_ _) | (with_reducible refine Below.setCell ?_ (by first | exact Nat.le_refl _ | (show ob ≤ ob; exact Nat.le_refl _)) _))))
      clear hK Kk
      try simp only [List.getElem_toArray, List.getElem_cons_succ, List.getElem_cons_zero, Act.put, List.setIfInBounds_toArray, List.set_cons_zero, List.set_cons_succ]
      refine wpAnyH_ready (rs := [1]) (by kernel_rfl) (by simp) ?_
      refine (AllReadyH.cons rfl (fun Kk hK => ?_) AllReadyH.nil)
      go_simp
      refine hK.out _ _ ?_ (fun hHx1 => ?_)
      · ((try dsimp only); exact HKS.out _ (by repeat (first | assumption | with_reducible apply belB_drew | (with_reducible refine belB_alloc hobX ?_ _) | (with_reducible refine Below.setCell ?_ (by first | exact Nat.le_refl _ | (show ob ≤ ob; exact Nat.le_refl _)) _))))
      clear hK Kk
      try simp only [List.getElem_toArray, List.getElem_cons_succ, List.getElem_cons_zero, Act.put, List.setIfInBounds_toArray, List.set_cons_zero, List.set_cons_succ]
      refine wpAnyH_ready (rs := [27]) (by kernel_rfl) (by simp) ?_
      refine (AllReadyH.cons rfl (fun Kk hK => ?_) AllReadyH.nil)
      (refine step_append_lies _ (by rfl) _ _ _ (by rfl) (ob + 1) 49 iq (.agg #[.int .i64 0, .int .i64 0, .int .i64 0]) 3 24 (by kernel_rfl) hiq hy0 hy1 hy2 rfl (by decide) (.slice aT i cT) i (tcells ((S.take i).map (cutTri L F))) (by rfl) (owns_below HOT.out (by repeat (first | with_reducible exact Below.refl _ _ | with_reducible apply bel_drew | with_reducible apply bel_alloc))) ⟨X3.heap.size, 0, none⟩ 1 1 [.int .i64 r0, .int .i64 r1, .int .i64 r2] (by rfl) rfl (World.news_of_block (heap_alloc_new _ _)) (by intro u hu; simp at hu; rcases hu with rfl | rfl | rfl <;> rfl) (by decide) HQ1.out HQ2.out (Nat.le_trans HQ3.out (by simp)) (X3.heap.size + 1) (by simp) ?_)
      intro g2 cap2 X7 hown7 hgr7 hat7 hlt7
      have hk7 : Below ob Z0 X7 := (show Below ob Z0 _ from (by repeat (first | assumption | with_reducible apply belB_drew | (with_reducible refine belB_alloc hobX ?_ _) | (with_reducible refine Below.setCell ?_ (by first | exact Nat.le_refl _ | (show ob ≤ ob; exact Nat.le_refl _)) _)))).grown hgr7 (Nat.le_trans (Nat.le_succ ob) (Nat.le_trans HQ3.out (by simp))) (fun q hq => Nat.le_trans (Nat.le_succ ob) (HOT.out.lt q hq).1)
      have hr7 : RowIs X7 ob 24 [.int .i64 (j : Int), .slice aT i cT] := (show RowIs _ ob 24 _ from (by repeat (first | exact HRB.out | with_reducible refine RowIs.drew1 ?_ | with_reducible refine RowIs.alloc ?_ _))).grown hgr7 (by intro e; exact absurd (HOT.out.lt ob e.symm).1 (Nat.not_succ_le_self ob))
      have k1 := hr7.cell (i := 1) rfl
      have l1' := hr7.free 1
      refine hK.out _ _ ?_ (fun hHx27 => ?_)
      · ((try dsimp only); exact HKS.out _ (by repeat (first | assumption | with_reducible apply belB_drew | (with_reducible refine belB_alloc hobX ?_ _) | (with_reducible refine Below.setCell ?_ (by first | exact Nat.le_refl _ | (show ob ≤ ob; exact Nat.le_refl _)) _))))
      clear hK Kk
      try simp only [List.getElem_toArray, List.getElem_cons_succ, List.getElem_cons_zero, Act.put, List.setIfInBounds_toArray, List.set_cons_zero, List.set_cons_succ]
      refine wpAnyH_take (i := 28) (v := ?_) rfl (by kernel_rfl) (by kernel_rfl) (by kernel_rfl) (fun _ _ _ h => h) (Or.inl ⟨by rfl, ?_⟩) (by assumption) ?_
      rotate_left
      · (intro w hSw; (try dsimp only at hSw); go_simp; try with_reducible rfl)
      try simp only [List.getElem_toArray, List.getElem_cons_succ, List.getElem_cons_zero, Act.put, List.setIfInBounds_toArray, List.set_cons_zero, List.set_cons_succ]
      refine wpAnyH_ready (rs := [29]) (by kernel_rfl) (by simp) ?_
      refine (AllReadyH.cons rfl (fun Kk hK => ?_) AllReadyH.nil)
      go_simp
      refine hK.out _ _ ?_ (fun hHx29 => ?_)
      · ((try dsimp only); exact HKS.out _ (by repeat (first | assumption | with_reducible apply belB_drew | (with_reducible refine belB_alloc hobX ?_ _) | (with_reducible refine Below.setCell ?_ (by first | exact Nat.le_refl _ | (show ob ≤ ob; exact Nat.le_refl _)) _))))
      clear hK Kk
      try simp only [List.getElem_toArray, List.getElem_cons_succ, List.getElem_cons_zero, Act.put, List.setIfInBounds_toArray, List.set_cons_zero, List.set_cons_succ]
      refine wpAnyH_done (by kernel_rfl) ?_ _
      have HNX := Lib.hid (show RowIs (X7.setCell ⟨ob, 1, none⟩ (.slice (some ⟨g2, 0, none⟩) (i + 1) cap2)) ob 24 [.int .i64 (j : Int), .slice (some ⟨g2, 0, none⟩) (i + 1) cap2] ∧ (X7.setCell ⟨ob, 1, none⟩ (.slice (some ⟨g2, 0, none⟩) (i + 1) cap2)).ownsRow (ob + 1) 49 3 (.slice (some ⟨g2, 0, none⟩) (i + 1) cap2) (i + 1) (tcells ((S.take (i + 1)).map (cutTri L F))) ∧ Below ob Z0 (X7.setCell ⟨ob, 1, none⟩ (.slice (some ⟨g2, 0, none⟩) (i + 1) cap2)) from
        ⟨hr7.set 1 _, by
          rw [HTK.out, tcells_snoc, HTR.out]
          exact ownsRow_setCell_below hown7 (a := ⟨ob, 1, none⟩) (Nat.lt_succ_self _) _, hk7.setCell (p := ⟨ob, 1, none⟩) (Nat.le_refl _) _⟩)
      clear hown7 hgr7 hat7 hlt7 hk7 hr7 k1 l1' hHx29 hHx27
      try clear hHx1
      try clear hHx26
      clear hHa hHeld0
      go_wp2
      go_roundw
      case rel => first | exact ⟨i + 1, _, cap2, by omega, by go_num, HNX.out.1, HNX.out.2.1, HNX.out.2.2⟩ | exact ⟨i + 1, _, cap2, by omega, by go_num, HNX.out.1.drew1, HNX.out.2.1.drew, belB_drew HNX.out.2.2⟩
      case measure => simp [intOf]; omega
  case neg =>
  have hie3 : i = lt := by omega
  have hb4X : Below w4.heap.size w4 X3 := HZB.out.trans (hbx.mono (by have := HM0.out; have := HMO.out; omega))
  have hrz := HR34.out.after hb4X
  have d0 := hrz.cell (i := 0) rfl
  have d1 := hrz.cell (i := 1) rfl
  have f0 := fun i => hrz.free i
  have e0 := hrb.cell (i := 0) rfl
  have e1 := hrb.cell (i := 1) rfl
  have hF := (hrz.set 0 (.int .i64 (j : Int))).set 1 (.slice aT i cT)
  have y0 := hF.cell (i := 0) rfl
  have y1 := hF.cell (i := 1) rfl
  have hbw : Below w.heap.size w X3 := by
    have := HB0.out.trans ((below_more HB4.out hb4X HB4.out.size).mono (by rw [HSZ0.out]; omega))
    rwa [HBB.out] at this
  have hw4 : w.heap.size + 2 ≤ w4.heap.size := by have h1 := HB4.out.size; have h2 := HSZ0.out; have h3 := HBB.out; omega
  have hB4 : B + 1 < w4.heap.size := by have h3 := HBB.out; omega
  have hobb : w4.heap.size ≤ ob := by have := HM0.out; have := HMO.out; omega
  have hcutT : cutT (mL M T.length) k L F T.length = (S.take i).map (cutTri L F) := by
    unfold cutT
    rw [← HSS.out, List.take_of_length_le (by rw [hie3, HLT.out]; exact Nat.le_refl _)]
  have hcl : ((S.take i).map (cutTri L F)).length = i := by
    rw [List.length_map, List.length_take, hie3, HLT.out]; exact Nat.min_self _
  have hnt := owns_lowB HZT.out hbx HTO.out.1
  have hnv := owns_lowB HZV.out hbx HTO.out.2
  have HP := Lib.hid (show ∃ (av' at' : Option Addr), av' = av ∧ at' = at_ ∧ SurfP T K k w (.returned (.tuple #[.agg #[.int .i64 (j : Int), .slice aT i cT], .slice av j cv, .slice at_ lt ct, .int .i64 0])) ((X3.setCell ⟨B + 1, 0, none⟩ (.int .i64 (j : Int))).setCell ⟨B + 1, 1, none⟩ (.slice aT i cT)) from ⟨av, at_, rfl, rfl, by
    have hT1 := ownsRow_setCell_below (ownsRow_setCell_below hot (a := ⟨B + 1, 0, none⟩) (show B + 1 < ob + 1 by omega) (.int .i64 (j : Int))) (a := ⟨B + 1, 1, none⟩) (show B + 1 < ob + 1 by omega) (.slice aT i cT)
    have hV1 := ownsRow_setCell_below (ownsRow_setCell_below hnv (a := ⟨B + 1, 0, none⟩) (show B + 1 < m + 1 by have := HM0.out; omega) (.int .i64 (j : Int))) (a := ⟨B + 1, 1, none⟩) (show B + 1 < m + 1 by have := HM0.out; omega) (.slice aT i cT)
    have hS1 := ownsRow_setCell_below (ownsRow_setCell_below hnt (a := ⟨B + 1, 0, none⟩) (show B + 1 < w4.heap.size by omega) (.int .i64 (j : Int))) (a := ⟨B + 1, 1, none⟩) (show B + 1 < w4.heap.size by omega) (.slice aT i cT)
    have nT := owns_newS hT1
    have nV := owns_newS hV1
    have nS := owns_newS hS1
    refine ⟨⟨M, HM.out, .inr ⟨?_, L, F, aT, av, at_, cT, cv, ct, HPC.out, ?_, ?_, ?_, ?_, ?_, ?_, ?_⟩⟩, ?_⟩
    · rw [← HSS.out]; intro e; exact HN0.out (by rw [HLT.out, e]; rfl)
    · rw [hcutT, hcl, ← HFL2.out, ← HSS.out, ← HLT.out]
    · rw [hcutT]
      have := owns_tris (L := (S.take i).map (cutTri L F)) (by rw [hcl]; exact hT1)
      obtain ⟨ao', cap', e, h⟩ := this
      simp only [Value.slice.injEq] at e
      obtain ⟨e1, -⟩ := e
      subst e1
      exact h
    · obtain ⟨ao', cap', e, h⟩ := owns_ic hV1 (by unfold cutV; rw [List.length_map]; exact HFL2.out)
      simp only [Value.slice.injEq] at e
      obtain ⟨e1, -⟩ := e
      subst e1
      exact h
    · rw [← HSS.out]
      exact owns_nl (F := S) (by rw [← HLT.out]; exact hS1)
    · exact fun p hp => Nat.le_trans (show w.heap.size ≤ ob + 1 by omega) (nT p hp)
    · exact fun p hp => Nat.le_trans (show w.heap.size ≤ m + 1 by have := HM0.out; omega) (nV p hp)
    · exact fun p hp => Nat.le_trans (show w.heap.size ≤ w4.heap.size by omega) (nS p hp)
    · have h3 := HBB.out
      exact (hbw.setCell (p := ⟨B + 1, 0, none⟩) (by show w.heap.size ≤ B + 1; omega) _).setCell (p := ⟨B + 1, 1, none⟩) (by show w.heap.size ≤ B + 1; omega) _⟩)
  clear hrb hot hbx hb4X hrz hF hbw hw4 hB4 hobb hcutT hcl hnt hnv hie3
  go_wp2
  obtain ⟨_, _, _, _, hP⟩ := HP.out
  exact bodyPost_ret (v := .tuple #[.agg #[.int .i64 (j : Int), .slice aT i cT], .slice av j cv, .slice at_ lt ct, .int .i64 0]) (by simp [results, Tryz.results20, go_sem, y0, y1]) rfl hP
end Go.Proofs.YtfbpjlfimmjieaaGreat

/- soup.Rename and soup.Pick of what soup.Fits lets pass. -/
import Derived.Test.YtkjamheoihlekaaGreatSurfDef
import Derived.Test.YtkjamheoihlekaaGreatButLaw
import Derived.Test.YtkjamheoihlekaaGreatRowl
import Derived.Deep.RegionHeld3
import Derived.StillTailTactics
namespace Go.Proofs.YtkjamheoihlekaaGreat
set_option linter.unusedVariables false
set_option linter.unusedSimpArgs false
open Go.RowKit
/-- What soup.Fits lets pass. -/
structure FitS (N : Int) (T : List Tr) : Prop where
  n0 : 0 ≤ N
  n1 : N ≤ 4096
  t1 : T.length ≤ 8192
  vin : VIn N T
  noloop : ∀ i, i < T.length → loopB (T! T i) = false
theorem Surf.fit {N : Int} {T : List Tr} (h : Surf N T) : FitS N T := ⟨h.n0, h.n1, h.t1, h.vin, h.noloop⟩
set_option maxRecDepth 100000 in
set_option maxHeartbeats 1000000 in
theorem indexf_fit (N : Int) (b : Nat) (ao : Option Addr) (cap : Nat) (T : List Tr) (w : World) (hs : FitS N T) (hT : TrisAt w ao T) (hf : FitW w b N) :
    Calls Tryz.prog 121 #[.slice ao T.length cap, .func (.func 101) #[] #[.pointer (some ⟨b, 0, none⟩)]] w fun e w' => e = .returned (.int .i64 (-1)) ∧ Below w.heap.size w w' := by
  have hl := hs.t1
  obtain ⟨n, hn⟩ : ∃ n, n = T.length := ⟨_, rfl⟩
  rw [← hn] at hl ⊢
  have HN := Lib.hid hn
  have HS := Lib.hid hs
  have HT := Lib.hid hT
  have HF := Lib.hid hf
  clear hn hs hT hf
  go_enter Tryz.func121, Tryz.ntmps121
  go_wp2
  go_loopw [8] (fun i ws => ∃ k : Nat, k ≤ n ∧ i = .int .i64 k ∧ Below w.heap.size w ws) (fun i _ => n - (intOf i).toNat)
  case atStart => exact ⟨0, by omega, rfl, Below.refl _ _⟩
  case round =>
    obtain ⟨k, hk, rfl, hb⟩ := hrel
    obtain ⟨W1, rfl⟩ : ∃ W1 : World, W1 = wr := ⟨_, rfl⟩
    have HB := Lib.hid hb
    by_cases hlt : k < n
    · obtain ⟨tb, off, x, y, z, rfl, ht, g0, g1, g2, -, -⟩ := HT.out.get (Nat.le_refl _) hb (i := k) (by have := HN.out; omega)
      have hin : ∀ j, j < 3 → 0 ≤ tg (x, y, z) j ∧ tg (x, y, z) j < N := fun j _ => by rw [← ht.out]; exact HS.out.vin k (by have := HN.out; omega) j
      have hlp : loopB (x, y, z) = false := by rw [← ht.out]; exact HS.out.noloop k (by have := HN.out; omega)
      have hfw := HF.out.mono hb
      have HC := Lib.hid (fitsf_yes x y z N b hin hlp W1 hfw.1 hfw.2)
      clear ht hin hlp hfw hb
      go_wp2_with fail
      refine HC.out.mono ?_
      rintro e w2 ⟨rfl, hb2⟩
      have HB2 := Lib.hid (below_more HB.out hb2 HB.out.size)
      clear hb2 g0 g1 g2
      go_wp2
      go_roundw
      case rel => exact ⟨k + 1, by omega, by go_num, HB2.out⟩
      case measure => simp [intOf]; omega
    · obtain rfl : k = n := by omega
      clear hb
      go_wp2
      exact bodyPost_ret (v := .int .i64 (-1)) (by simp [results, Tryz.results121, go_sem]) rfl ⟨rfl, HB.out⟩
set_option maxRecDepth 100000 in
set_option maxHeartbeats 1000000 in
theorem containsf_fit (N : Int) (b : Nat) (ao : Option Addr) (cap : Nat) (T : List Tr) (w : World) (hs : FitS N T) (hT : TrisAt w ao T) (hf : FitW w b N) :
    Calls Tryz.prog 100 #[.slice ao T.length cap, .func (.func 101) #[] #[.pointer (some ⟨b, 0, none⟩)]] w fun e w' => e = .returned (.bool false) ∧ Below w.heap.size w w' := by
  have HC := Lib.hid (indexf_fit N b ao cap T w hs hT hf)
  clear hs hT hf
  go_enter Tryz.func100, Tryz.ntmps100
  go_wp2_with fail
  refine HC.out.mono ?_
  rintro e w2 ⟨rfl, hb2⟩
  have HB2 := Lib.hid hb2
  clear hb2
  go_wp2
  exact bodyPost_ret (v := .bool false) (by simp [results, Tryz.results100, go_sem]) rfl ⟨rfl, HB2.out⟩
set_option maxRecDepth 100000 in
set_option maxHeartbeats 1000000 in
theorem soupfits_fit (N : Int) (ao : Option Addr) (cap : Nat) (T : List Tr) (w : World) (hs : FitS N T) (hT : TrisAt w ao T) :
    Calls Tryz.prog 65 #[.agg #[.int .i64 N, .slice ao T.length cap]] w fun e w' => e = .returned (.bool true) ∧ Below w.heap.size w w' := by
  have h0 := hs.n0
  have h1 := hs.n1
  have h2 := hs.t1
  have hmf : ∀ (fn : Fn) (first cap : Array Value) (w : World), (Instr.makeFunc fn first cap).run Tryz.prog w = .ok (.func fn first cap) w := fun _ _ _ _ => rfl
  have hba : Below w.heap.size w (w.alloc (.cells #[.int .i64 N, .slice ao T.length cap] 24)) := (Below.refl _ _).alloc (Nat.le_refl _) _
  have hx := RowIs.made w 24 [.int .i64 N, .slice ao T.length cap]
  have HC := Lib.hid (containsf_fit N w.heap.size ao cap T _ hs (hT.mono (Nat.le_refl _) hba) ⟨hx.cell (i := 0) rfl, hx.lt⟩)
  have HB := Lib.hid hba
  obtain ⟨n, hn⟩ : ∃ n, n = T.length := ⟨_, rfl⟩
  rw [← hn] at HC HB h2 ⊢
  have hd0 : decide (N < 0) = false := by simp; omega
  have hd1 : decide (N > 4096) = false := by simp; omega
  have hd2 : decide ((n : Int) > 8192) = false := by simp; omega
  clear hs hT hba hx hn
  go_enter Tryz.func65, Tryz.ntmps65
  go_wp2_with fail
  refine HC.out.mono ?_
  rintro e w2 ⟨rfl, hb2⟩
  have HB2 := Lib.hid (below_more HB.out hb2 HB.out.size)
  clear hb2
  go_wp2
  exact bodyPost_ret (v := .bool true) (by simp [results, Tryz.results65, go_sem]) rfl ⟨rfl, HB2.out⟩
/-- A triangle as a value. -/
def triV (t : Tr) : Value := .agg #[.int .i64 t.1, .int .i64 t.2.1, .int .i64 t.2.2]
set_option maxRecDepth 100000 in
set_option maxHeartbeats 1500000 in
theorem each_rename (cb : Nat) (F : Tr → Tr) (N : Int) (ao : Option Addr) (cap : Nat) (T : List Tr) (w : World) (hT : TrisAt w ao T) (hl : T.length ≤ 8192)
    (hF : ∀ X i, i < T.length → Below w.heap.size w X → Calls Tryz.prog 67 #[triV (T! T i), .pointer (some ⟨cb, 0, none⟩)] X fun e w' => e = .returned (triV (F (T! T i))) ∧ Below X.heap.size X w') :
    Calls Tryz.prog 66 #[.agg #[.int .i64 N, .slice ao T.length cap], .func (.func 67) #[] #[.pointer (some ⟨cb, 0, none⟩)]] w fun e w' => ∃ ao' cap', e = .returned (.agg #[.int .i64 N, .slice ao' T.length cap']) ∧ w'.ownsRow w.heap.size 72 3 (.slice ao' T.length cap') T.length (tcells (T.map F)) ∧ Below w.heap.size w w' := by
  obtain ⟨i4, hi4, hx0, hx1, hx2⟩ := info_parts info49
  obtain ⟨B, hB⟩ : ∃ B, B = w.heap.size := ⟨_, rfl⟩
  obtain ⟨n, hn⟩ : ∃ n, n = T.length := ⟨_, rfl⟩
  obtain ⟨W0, hW0⟩ : ∃ W0, W0 = ((w.alloc (.cells #[.int .i64 N, .slice ao n cap] 24)).alloc (.cells #[.int .i64 0, .slice none 0 0] 24)).alloc (.cells #[.int .i64 N, .slice none 0 0] 24) := ⟨_, rfl⟩
  have HB0 := Lib.hid (show Below B w W0 from by rw [hW0, hB]; exact (((Below.refl _ _).alloc (Nat.le_refl _) _).alloc (by simp) _).alloc (by simp; omega) _)
  have HS0 := Lib.hid (show RowIs W0 B 24 [.int .i64 N, .slice ao n cap] from by rw [hW0, hB]; exact ((RowIs.made w 24 [.int .i64 N, .slice ao n cap]).alloc _).alloc _)
  have HR0 := Lib.hid (show RowIs W0 (B + 1) 24 [.int .i64 0, .slice none 0 0] from by rw [hW0, hB]; exact (row_two w _ 24 [.int .i64 0, .slice none 0 0]).alloc _)
  have HX0 := Lib.hid (show RowIs W0 (B + 2) 24 [.int .i64 N, .slice none 0 0] from by rw [hW0, hB]; exact RowIs.made' _ _ [.int .i64 N, .slice none 0 0] _ (by simp))
  have HBB := Lib.hid hB
  have HN := Lib.hid hn
  rw [← hn] at hl ⊢
  have HT := Lib.hid (show ∀ X, Below B w X → TrisAt X ao T from fun X h => hT.mono (by rw [hB]; exact Nat.le_refl _) h)
  have HF := Lib.hid (show ∀ X i, i < n → Below B w X → Calls Tryz.prog 67 #[triV (T! T i), .pointer (some ⟨cb, 0, none⟩)] X fun e w' => e = .returned (triV (F (T! T i))) ∧ Below X.heap.size X w' from fun X i h1 h2 => hF X i (by rw [← hn]; exact h1) (by rw [← hB]; exact h2))
  clear hT hF hn
  go_enter Tryz.func66, Tryz.ntmps66
  go_upto_region 2 with fail
  rw [← hW0]
  rw [← hB]
  clear hW0 hB
  have k1 := HS0.out.cell (i := 1) rfl
  go_wp2
  clear k1
  go_loopw [14] (fun i ws => ∃ (k : Nat) (v : Value), k ≤ n ∧ i = .int .i64 k ∧ RowIs ws (B + 2) 24 [.int .i64 N, v] ∧ RowIs ws (B + 1) 24 [.int .i64 0, .slice none 0 0] ∧ ws.ownsRow (B + 3) 72 3 v k (tcells ((T.take k).map F)) ∧ Below B w ws) (fun i _ => n - (intOf i).toNat)
  case atStart => exact ⟨0, _, by omega, rfl, HX0.out, HR0.out, World.ownsRow_nil _ _ _ _, HB0.out⟩
  case round =>
  clear HB0 HS0 HR0 HX0
  obtain ⟨k, v, hk, rfl, hx, hr, ho, hb⟩ := hrel
  obtain ⟨X, rfl⟩ : ∃ X : World, X = wr := ⟨_, rfl⟩
  by_cases hkn : k < n
  case neg =>
    obtain rfl : k = n := by omega
    obtain ⟨ao9, cap9, rfl⟩ := owns_slice ho
    have x0 := hx.cell (i := 0) rfl
    have x1 := hx.cell (i := 1) rfl
    have d0 := hr.cell (i := 0) rfl
    have d1 := hr.cell (i := 1) rfl
    have f0 := hr.free 0
    have f1 := hr.free 1
    have hr9 := (hr.set 0 (.int .i64 N)).set 1 (.slice ao9 k cap9)
    have e0 := hr9.cell (i := 0) rfl
    have e1 := hr9.cell (i := 1) rfl
    have HF' := Lib.hid ((hb.setCell (p := ⟨B + 1, 0, none⟩) (Nat.le_succ _) (.int .i64 N)).setCell (p := ⟨B + 1, 1, none⟩) (Nat.le_succ _) (.slice ao9 k cap9))
    have HTF := Lib.hid (show ((X.setCell ⟨B + 1, 0, none⟩ (.int .i64 N)).setCell ⟨B + 1, 1, none⟩ (.slice ao9 k cap9)).ownsRow B 72 3 (.slice ao9 k cap9) k (tcells (T.map F)) from by
      have h1 := ho.kept (grown_set X (B + 1) 0 (.int .i64 N)) (by
        have := row_own_ne hr ho (by decide)
        exact .inr fun e => this e.symm)
      have h2 := h1.kept (grown_set _ (B + 1) 1 (.slice ao9 k cap9)) (by
        have := row_own_ne hr ho (by decide)
        exact .inr fun e => this e.symm)
      rw [List.take_of_length_le (by have := HN.out; omega)] at h2
      exact owns_base h2 (by omega))
    clear hx hr ho hb hr9
    go_wp2
    refine bodyPost_ret (v := .agg #[.int .i64 N, .slice ao9 k cap9]) (by simp [results, Tryz.results66, go_sem, e0, e1]) rfl ⟨ao9, cap9, rfl, ?_, ?_⟩
    · rw [← HBB.out]
      exact HTF.out
    · rw [← HBB.out]
      exact HF'.out
  case pos =>
  obtain ⟨tb, off, x, y, z, rfl, ht, g0, g1, g2, -, -⟩ := (HT.out X hb).get (Nat.le_refl _) (Below.refl _ _) (i := k) (by have := HN.out; omega)
  obtain ⟨ao5, cap5, rfl⟩ := owns_slice ho
  have hba : Below X.heap.size X (X.alloc (.cells #[.int .i64 x, .int .i64 y, .int .i64 z] 72)) := (Below.refl _ _).alloc (Nat.le_refl _) _
  have hrt : RowIs (X.alloc (.cells #[.int .i64 x, .int .i64 y, .int .i64 z] 72)) X.heap.size 72 [.int .i64 x, .int .i64 y, .int .i64 z] := RowIs.made X 72 [.int .i64 x, .int .i64 y, .int .i64 z]
  obtain ⟨Y, hY⟩ : ∃ Y, Y = X.alloc (.cells #[.int .i64 x, .int .i64 y, .int .i64 z] 72) := ⟨_, rfl⟩
  obtain ⟨tq, htq⟩ : ∃ t, t = X.heap.size := ⟨_, rfl⟩
  rw [← hY] at hba hrt
  rw [← htq] at hrt
  have HXY := Lib.hid (hx.after hba)
  have HRY := Lib.hid (hr.after hba)
  have HOY := Lib.hid (owns_below ho hba)
  have HBY := Lib.hid (below_more hb hba (by have := hx.lt; omega))
  have HSY := Lib.hid (show B + 3 ≤ Y.heap.size from by have := HXY.out.lt; omega)
  obtain ⟨⟨u0, u1, u2⟩, hu⟩ : ∃ u : Tr, u = F (T! T k) := ⟨_, rfl⟩
  have HC := Lib.hid (show ∀ Z, Hid (Below Y.heap.size Y Z) → Calls Tryz.prog 67 #[.agg #[.int .i64 x, .int .i64 y, .int .i64 z], .pointer (some ⟨cb, 0, none⟩)] Z fun e w' => e = .returned (.agg #[.int .i64 u0, .int .i64 u1, .int .i64 u2]) ∧ Hid (Below Y.heap.size Y w') from fun Z hZ => by
    have h := HF.out Z k hkn (below_more HBY.out hZ.out (by have := HSY.out; omega))
    rw [← hu, ht.out] at h
    exact h.mono fun e w' ⟨h1, h2⟩ => ⟨h1, below_more hZ.out h2 hZ.out.size⟩)
  have HTK := Lib.hid (show (T.take (k + 1)).map F = (T.take k).map F ++ [(u0, u1, u2)] from by
    have hk' : k < T.length := by have := HN.out; omega
    rw [List.take_add_one, List.getElem?_eq_getElem hk', List.map_append, hu]
    simp [T!, hk'])
  have y0 := HXY.out.cell (i := 0) rfl
  have y1 := HXY.out.cell (i := 1) rfl
  have t0 := hrt.cell (i := 0) rfl
  have t1 := hrt.cell (i := 1) rfl
  have t2 := hrt.cell (i := 2) rfl
  have HRF := Lib.hid (Below.refl Y.heap.size Y)
  have HDR := Lib.hid (below_drew (Below.refl Y.heap.size Y))
  have HYY := Lib.hid hY
  have HQQ := Lib.hid htq
  clear hx hr ho hb hba hrt hY htq ht hu
  go_upto_region 5 with fail
  rw [← HYY.out]
  simp only [← HQQ.out]
  clear g0 g1 g2
  go_region_law (first
    | (go_simp; go_at_call 67; (with_reducible refine (HC.out _ (by first | assumption | exact (show Hid (Below Y.heap.size Y _) from by repeat (first | exact HRF.out | with_reducible apply below_drew)))).mono ?_); rintro e w2 ⟨rfl, hb2⟩; have hxa := Lib.hid (HXY.out.after hb2.out); have hoa := Lib.hid (owns_below HOY.out hb2.out); have y1a := hxa.out.cell (i := 1) rfl; have y1b := (hxa.out.alloc (.cells #[.int .i64 u0, .int .i64 u1, .int .i64 u2] 72)).cell (i := 1) rfl)
    | (refine step_append_any (by rfl) _ _ _ (by rfl) (B + 3) 72 i4 _ 3 24 (by kernel_rfl) hi4 hx0 hx1 hx2 rfl (by decide) _ k _ (by rfl) (hoa.out.alloc _) ⟨w2.heap.size, 0, none⟩ 1 1 [.int .i64 u0, .int .i64 u1, .int .i64 u2] (by rfl) rfl (World.news_of_block (heap_alloc_new w2 _)) (by intro u hu; simp at hu; rcases hu with rfl | rfl | rfl <;> rfl) (by unfold maxLen; omega) (by omega) (by have := hb2.out.size; have := HSY.out; simp; omega) ?_; intro a1 c1 w5 hown5 hbel5 hgr5; have hrow5 := Lib.hid (box_kept hgr5 (hoa.out.alloc _) (hxa.out.alloc _) (by decide)); have y1c := hrow5.out.cell (i := 1) rfl; have kf := hrow5.out.free 1))
  all_goals
    have hrowR := box_kept hgr5 (hoa.out.alloc _) ((HRY.out.after hb2.out).alloc _) (by decide)
    have HR6 := Lib.hid (hrowR.other (p := ⟨B + 2, 1, none⟩) (by simp) (.slice a1 (k + 1) c1))
    have HX6 := Lib.hid (hrow5.out.set 1 (.slice a1 (k + 1) c1))
    have HO6 := Lib.hid (show (w5.setCell ⟨B + 2, 1, none⟩ (.slice a1 (k + 1) c1)).ownsRow (B + 3) 72 3 (.slice a1 (k + 1) c1) (k + 1) (tcells ((T.take (k + 1)).map F)) from by
      rw [HTK.out, tcells_snoc]
      exact ownsRow_setCell_below hown5 (a := ⟨B + 2, 1, none⟩) (Nat.lt_succ_self _) _)
    have HB6 := Lib.hid ((hbel5 B w (by omega) ((below_more HBY.out hb2.out (by have := HSY.out; omega)).alloc (by have := HSY.out; have := hb2.out.size; omega) _)).setCell (p := ⟨B + 2, 1, none⟩) (show B ≤ B + 2 by omega) (.slice a1 (k + 1) c1))
    clear hown5 hbel5 hgr5 hrowR y0 y1 y1a y1b y1c kf t0 t1 t2
    go_wp2
    go_roundw
    case rel => exact ⟨k + 1, _, by omega, by go_num, HX6.out, HR6.out, HO6.out, HB6.out⟩
    case measure => simp [intOf]; omega
/-- Other names. -/
def rn (r : Int → Int) (t : Tr) : Tr := (r t.1, r t.2.1, r t.2.2)
theorem tg_rn (r : Int → Int) (t : Tr) (j : Nat) : tg (rn r t) j = r (tg t j) := by
  obtain ⟨x, y, z⟩ := t
  match j with
  | 0 => rfl
  | 1 => rfl
  | j + 2 => rfl
def rnT (r : Int → Int) (T : List Tr) : List Tr := T.map (rn r)
theorem rnT_len (r : Int → Int) (T : List Tr) : (rnT r T).length = T.length := by simp [rnT]
theorem rnT_get (r : Int → Int) (T : List Tr) {i : Nat} (h : i < T.length) : T! (rnT r T) i = rn r (T! T i) := by simp [T!, rnT, h]
/-- Names of n vertices, each once. -/
structure Names (n : Nat) (r : Int → Int) : Prop where
  inn : ∀ v, 0 ≤ v → v < (n : Int) → 0 ≤ r v ∧ r v < n
  inj : ∀ u v, 0 ≤ u → u < (n : Int) → 0 ≤ v → v < (n : Int) → r u = r v → u = v
/-- A corner so many steps on. -/
def turn (c j : Nat) : Nat := 3 * (c / 3) + (c % 3 + j) % 3
theorem turn_div (c j : Nat) : turn c j / 3 = c / 3 := by unfold turn; omega
theorem turn_nxn (c j : Nat) : turn c ((j + 1) % 3) = nxn (turn c j) := by unfold turn nxn; omega
/-- The triangle of a corner, turned to it. -/
def rotT (T : List Tr) (c : Nat) : Tr := (vt T (turn c 0 : Nat), vt T (turn c 1 : Nat), vt T (turn c 2 : Nat))
theorem tg_rot (T : List Tr) (c : Nat) {j : Nat} (h : j < 3) : tg (rotT T c) j = vt T (turn c j : Nat) := by
  match j, h with
  | 0, _ => rfl
  | 1, _ => rfl
  | 2, _ => rfl
def pickT (T : List Tr) (C : List Nat) : List Tr := C.map (rotT T)
theorem pick_len (T : List Tr) (C : List Nat) : (pickT T C).length = C.length := by simp [pickT]
theorem pick_get (T : List Tr) {C : List Nat} {i : Nat} (h : i < C.length) : T! (pickT T C) i = rotT T (C.getD i 0) := by simp [T!, pickT, h]
theorem vt_pick {T : List Tr} {C : List Nat} {c : Nat} (h : c < 3 * C.length) : vt (pickT T C) (c : Nat) = vt T (turn (C.getD (c / 3) 0) (c % 3) : Nat) := by
  rw [vt_nat3, pick_get T (by omega), tg_rot T _ (by omega)]
/-- The name of a vertex by a list. -/
def toI (I : List Int) (v : Int) : Int := I! I v.toNat
structure SeenN (n : Nat) (I : List Int) (k : Nat) (β : Nat → Bool) : Prop where
  inn : ∀ q, q < k → 0 ≤ I! I q ∧ I! I q < (n : Int)
  inj : ∀ p q, p < k → q < k → I! I p = I! I q → p = q
  mem : ∀ j, j < n → (β j = true ↔ ∃ q, q < k ∧ I! I q = (j : Int))
theorem SeenN.start (n : Nat) (I : List Int) : SeenN n I 0 (fun _ => false) := ⟨fun q h => by omega, fun p q h => by omega, fun j _ => ⟨fun h => absurd h (by simp), fun ⟨q, h, _⟩ => absurd h (by omega)⟩⟩
theorem SeenN.push {n : Nat} {I : List Int} {k : Nat} {β : Nat → Bool} (h : SeenN n I k β) {v : Nat} (hv : I! I k = (v : Int)) (hn : v < n) (hb : β v = false) : SeenN n I (k + 1) (updB β v true) := by
  have hno : ∀ q, q < k → I! I q ≠ (v : Int) := fun q hq e => by
    rw [(h.mem v hn).2 ⟨q, hq, e⟩] at hb
    cases hb
  refine ⟨fun q hq => ?_, fun p q hp hq e => ?_, fun j hj => ?_⟩
  · rcases Nat.lt_succ_iff_lt_or_eq.1 hq with hq | rfl
    · exact h.inn q hq
    · rw [hv]; omega
  · rcases Nat.lt_succ_iff_lt_or_eq.1 hp with hp | rfl
    · rcases Nat.lt_succ_iff_lt_or_eq.1 hq with hq | rfl
      · exact h.inj p q hp hq e
      · exact absurd (e.trans hv) (hno p hp)
    · rcases Nat.lt_succ_iff_lt_or_eq.1 hq with hq | rfl
      · exact absurd (e.symm.trans hv) (hno q hq)
      · rfl
  · unfold updB
    by_cases e : j = v
    · subst e
      simp only [if_true, true_iff]
      exact ⟨k, by omega, hv⟩
    · rw [if_neg e]
      constructor
      · intro hb
        obtain ⟨q, hq, e2⟩ := (h.mem j hj).1 hb
        exact ⟨q, by omega, e2⟩
      · rintro ⟨q, hq, e2⟩
        rcases Nat.lt_succ_iff_lt_or_eq.1 hq with hq | rfl
        · exact (h.mem j hj).2 ⟨q, hq, e2⟩
        · rw [hv] at e2
          omega
theorem SeenN.names {n : Nat} {I : List Int} {β : Nat → Bool} (h : SeenN n I n β) : Names n (toI I) where
  inn := fun v v0 v1 => h.inn v.toNat (by omega)
  inj := fun u v u0 u1 v0 v1 e => by have := h.inj u.toNat v.toNat (by omega) (by omega) e; omega
set_option maxRecDepth 100000 in
set_option maxHeartbeats 1500000 in
theorem rename1 (x y z : Nat) (cb b0 off len ic : Nat) (r0 r1 r2 : Int) (w : World) (hx : x < len) (hy : y < len) (hz : z < len) (hcb : w.cell? ⟨cb, 0, none⟩ = some (.slice (some ⟨b0, off, none⟩) len ic))
    (h0 : w.cell? ⟨b0, off + x, none⟩ = some (.int .i64 r0)) (h1 : w.cell? ⟨b0, off + y, none⟩ = some (.int .i64 r1)) (h2 : w.cell? ⟨b0, off + z, none⟩ = some (.int .i64 r2)) :
    Calls Tryz.prog 67 #[.agg #[.int .i64 x, .int .i64 y, .int .i64 z], .pointer (some ⟨cb, 0, none⟩)] w fun e w' => e = .returned (.agg #[.int .i64 r0, .int .i64 r1, .int .i64 r2]) ∧ Below w.heap.size w w' := by
  obtain ⟨W0, hW0⟩ : ∃ W0, W0 = (w.alloc (.cells #[.int .i64 (x : Int), .int .i64 (y : Int), .int .i64 (z : Int)] 72)).alloc (.cells #[.int .i64 0, .int .i64 0, .int .i64 0] 72) := ⟨_, rfl⟩
  obtain ⟨B, hB⟩ : ∃ B, B = w.heap.size := ⟨_, rfl⟩
  have hb0 : Below B w W0 := by rw [hW0, hB]; exact ((Below.refl _ _).alloc (Nat.le_refl _) _).alloc (by simp) _
  have hx0 : RowIs W0 B 72 [.int .i64 (x : Int), .int .i64 (y : Int), .int .i64 (z : Int)] := by rw [hW0, hB]; exact (RowIs.made w 72 [.int .i64 (x : Int), .int .i64 (y : Int), .int .i64 (z : Int)]).alloc _
  have HR := Lib.hid (show RowIs W0 (B + 1) 72 [.int .i64 0, .int .i64 0, .int .i64 0] from by rw [hW0, hB]; exact row_two w _ 72 [.int .i64 0, .int .i64 0, .int .i64 0])
  have k0 := (hb0.cell (p := ⟨cb, 0, none⟩) (by rw [hB]; exact World.block_lt_of_cell? _ _ hcb)).trans hcb
  have k1 := (hb0.cell (p := ⟨b0, off + x, none⟩) (by rw [hB]; exact World.block_lt_of_cell? _ _ h0)).trans h0
  have k2 := (hb0.cell (p := ⟨b0, off + y, none⟩) (by rw [hB]; exact World.block_lt_of_cell? _ _ h1)).trans h1
  have k3 := (hb0.cell (p := ⟨b0, off + z, none⟩) (by rw [hB]; exact World.block_lt_of_cell? _ _ h2)).trans h2
  have x0 := hx0.cell (i := 0) rfl
  have x1 := hx0.cell (i := 1) rfl
  have x2 := hx0.cell (i := 2) rfl
  have HB := Lib.hid hb0
  have HBB := Lib.hid hB
  have hx1 : (x : Int) < (len : Int) := by omega
  have hy1 : (y : Int) < (len : Int) := by omega
  have hz1 : (z : Int) < (len : Int) := by omega
  have hx2 : (0 : Int) ≤ (x : Int) := by omega
  have hy2 : (0 : Int) ≤ (y : Int) := by omega
  have hz2 : (0 : Int) ≤ (z : Int) := by omega
  clear hcb h0 h1 h2 hb0 hx0
  go_enter Tryz.func67, Tryz.ntmps67
  go_upto_region 1 with fail
  rw [← hW0]
  rw [← hB]
  clear hW0 hB
  obtain ⟨Y, hY⟩ : ∃ Y, Y = W0.drew := ⟨_, rfl⟩
  have HY := Lib.hid hY
  have hd : RowIs Y (B + 1) 72 [.int .i64 0, .int .i64 0, .int .i64 0] := by rw [hY]; exact HR.out.drew1
  have hbY : Below B w Y := by rw [hY]; exact HB.out.trans (show Below B W0 W0.drew from ⟨rfl, rfl, rfl, Nat.le_refl _, fun _ _ => rfl⟩)
  clear hY
  go_still_tail 16, (by kernel_rfl)
  change wpList _ _ _ _ _ W0.drew
  rw [← HY.out]
  have f0 := hd.free 0
  have f1 := hd.free 1
  have f2 := hd.free 2
  have d0 := hd.cell (i := 0) rfl
  have d1 := hd.cell (i := 1) rfl
  have d2 := hd.cell (i := 2) rfl
  have hr9 := ((hd.set 0 (.int .i64 r0)).set 1 (.int .i64 r1)).set 2 (.int .i64 r2)
  have e0 := hr9.cell (i := 0) rfl
  have e1 := hr9.cell (i := 1) rfl
  have e2 := hr9.cell (i := 2) rfl
  have HF := Lib.hid (((hbY.setCell (p := ⟨B + 1, 0, none⟩) (Nat.le_succ _) (.int .i64 r0)).setCell (p := ⟨B + 1, 1, none⟩) (Nat.le_succ _) (.int .i64 r1)).setCell (p := ⟨B + 1, 2, none⟩) (Nat.le_succ _) (.int .i64 r2))
  clear hr9 hd hbY
  go_wp2
  refine bodyPost_ret (v := .agg #[.int .i64 r0, .int .i64 r1, .int .i64 r2]) (by simp [results, Tryz.results67, go_sem, e0, e1, e2]) rfl ⟨rfl, ?_⟩
  rw [← HBB.out]
  exact HF.out
/-- What soup.Rename gives: no names, or the surface by other names. -/
def RenPost (n : Nat) (T : List Tr) (I : List Int) (w : World) (e : Ending) (w' : World) : Prop :=
  Below w.heap.size w w' ∧ ((∃ r : Int, r ≠ 0 ∧ e = .returned (.tuple #[.agg #[.int .i64 0, .slice none 0 0], .int .i64 r])) ∨
    ∃ ao cap, e = .returned (.tuple #[.agg #[.int .i64 (n : Int), .slice ao T.length cap], .int .i64 0]) ∧ w'.ownsRow w.heap.size 72 3 (.slice ao T.length cap) T.length (tcells (rnT (toI I) T)) ∧ Names n (toI I) ∧ I.length = n)
theorem ren_no {n : Nat} {T : List Tr} {I : List Int} {w w' : World} {r : Int} (h : r ≠ 0) (hb : Below w.heap.size w w') : RenPost n T I w (.returned (.tuple #[.agg #[.int .i64 0, .slice none 0 0], .int .i64 r])) w' := ⟨hb, .inl ⟨r, h, rfl⟩⟩
theorem two_set {w X : World} {B g : Nat} {e : TypeId} {a b : Value} (hr : RowIs X g e [a, b]) (hb : Below B w X) (hg : B ≤ g) (c d : Value) :
    RowIs ((X.setCell ⟨g, 0, none⟩ c).setCell ⟨g, 1, none⟩ d) g e [c, d] ∧ Below B w ((X.setCell ⟨g, 0, none⟩ c).setCell ⟨g, 1, none⟩ d) :=
  ⟨(hr.set 0 c).set 1 d, (hb.setCell (p := ⟨g, 0, none⟩) hg c).setCell (p := ⟨g, 1, none⟩) hg d⟩
set_option maxRecDepth 100000 in
set_option maxHeartbeats 1500000 in
theorem rename_ok (n : Nat) (ao : Option Addr) (cap : Nat) (T : List Tr) (io : Option Addr) (ic : Nat) (I : List Int) (w : World) (hs : FitS n T) (hT : TrisAt w ao T) (hI : IntsAt w io I) (hIl : I.length ≤ 60) :
    Calls Tryz.prog 30 #[.agg #[.int .i64 (n : Int), .slice ao T.length cap], .slice io I.length ic] w (RenPost n T I w) := by
  obtain ⟨j0, hj, hy0, hy1, hy2⟩ := info_parts info4
  obtain ⟨B, hB⟩ : ∃ B, B = w.heap.size := ⟨_, rfl⟩
  obtain ⟨t, ht⟩ : ∃ t, t = T.length := ⟨_, rfl⟩
  obtain ⟨m, hm⟩ : ∃ m, m = I.length := ⟨_, rfl⟩
  obtain ⟨W0, hW0⟩ : ∃ W0, W0 = ((w.alloc (.cells #[.int .i64 (n : Int), .slice ao t cap] 24)).alloc (.cells #[.slice io m ic] 28)).alloc (.cells #[.int .i64 0, .slice none 0 0] 24) := ⟨_, rfl⟩
  have hb0 : Below B w W0 := by rw [hW0, hB]; exact (((Below.refl _ _).alloc (Nat.le_refl _) _).alloc (by simp) _).alloc (by simp; omega) _
  have hs0 : RowIs W0 B 24 [.int .i64 (n : Int), .slice ao t cap] := by rw [hW0, hB]; exact ((RowIs.made w 24 [.int .i64 (n : Int), .slice ao t cap]).alloc _).alloc _
  have hi0 : RowIs W0 (B + 1) 28 [.slice io m ic] := by rw [hW0, hB]; exact (row_two w _ 28 [.slice io m ic]).alloc _
  have hr0 : RowIs W0 (B + 2) 24 [.int .i64 0, .slice none 0 0] := by rw [hW0, hB]; exact RowIs.made' _ _ [.int .i64 0, .slice none 0 0] _ (by simp)
  have HS0 := Lib.hid hs0
  have HI0 := Lib.hid hi0
  have HR0 := Lib.hid hr0
  have HB0 := Lib.hid hb0
  have HBB := Lib.hid hB
  have HTL := Lib.hid ht
  have HML := Lib.hid hm
  have HS := Lib.hid hs
  have hn1 : n ≤ 4096 := by have := hs.n1; omega
  have HT := Lib.hid (show TrisAt W0 ao T from hT.mono (by rw [hB]; exact Nat.le_refl _) hb0)
  have HI := Lib.hid (show IntsAt W0 io I from hI.mono (by rw [hB]; exact Nat.le_refl _) hb0)
  have HFI := Lib.hid (soupfits_fit n ao cap T W0 hs HT.out)
  have x0 := hs0.cell (i := 0) rfl
  have x1 := hs0.cell (i := 1) rfl
  rw [← ht] at HFI ⊢
  rw [← hm] at hIl ⊢
  have HSZ := Lib.hid (show B + 3 ≤ W0.heap.size from hr0.lt)
  have hmf : ∀ (fn : Fn) (first cap : Array Value) (w : World), (Instr.makeFunc fn first cap).run Tryz.prog w = .ok (.func fn first cap) w := fun _ _ _ _ => rfl
  clear hb0 hs0 hi0 hr0 hs hT hI ht hm
  go_enter Tryz.func30, Tryz.ntmps30
  go_upto_region 1 with fail
  rw [← hW0]
  rw [← hB]
  clear hW0 hB
  go_wp2_with fail
  refine HFI.out.mono ?_
  rintro e w1 ⟨rfl, hb1⟩
  have hs1 := HS0.out.after hb1
  have x0' := hs1.cell (i := 0) rfl
  have HB1 := Lib.hid hb1
  have HRW := Lib.hid (HR0.out.after hb1)
  have hi1 := (HI0.out.after hb1).cell (i := 0) rfl
  clear x0 x1 hb1
  go_wp2_with (at_make; refine wpList_make_full _ rfl _ _ _ rfl w1.heap.size 4 j0 (.bool false) 1 (by kernel_rfl) hj hy0 hy1 _ _ _ _ n rfl rfl rfl rfl (by rw [hy2]; omega) (by unfold maxLen; omega) (by simp) ?_)
  intro X1 hown hgr
  rw [madeCells_bv] at hown
  have hrow := RowIs.of_owns hown
  have HB2 := Lib.hid (show Below w1.heap.size w1 X1 from (Below.refl _ _).grown hgr (by simp) (by simp))
  have HR := Lib.hid hrow
  have HSX := Lib.hid (hs1.after HB2.out)
  have HRX := Lib.hid (HRW.out.after HB2.out)
  have hi2 := (HI0.out.after (below_more HB1.out HB2.out HB1.out.size)).cell (i := 0) rfl
  have HBX := Lib.hid (show Below W0.heap.size W0 X1 from below_more HB1.out HB2.out HB1.out.size)
  obtain ⟨g, hg⟩ : ∃ g, g = w1.heap.size := ⟨_, rfl⟩
  have HGB := Lib.hid (show B + 3 ≤ g from by rw [hg]; exact Nat.le_trans HSZ.out HB1.out.size)
  have HGW := Lib.hid (show W0.heap.size ≤ g from by rw [hg]; exact HB1.out.size)
  have HGX := Lib.hid (show g < X1.heap.size from by rw [hg]; exact hrow.lt)
  rw [← hg] at HR ⊢
  clear hown hgr hrow hs1 hi1 x0' HB2 HRW HB1 hg
  go_upto_region 4 with fail
  go_wp2
  go_loopw [18] (fun i ws => ∃ (k : Nat) (β : Nat → Bool), k ≤ m ∧ i = .int .i64 k ∧ Hid (RowIs ws g 4 (bv β n) ∧ SeenN n I k β ∧ But X1.heap.size g X1 ws ∧ X1.heap.size ≤ ws.heap.size)) (fun i _ => m - (intOf i).toNat)
  case atStart => exact ⟨0, _, by omega, rfl, ⟨HR.out, SeenN.start n I, But.refl _ _ _, Nat.le_refl _⟩⟩
  case round =>
  obtain ⟨k, β, hk, rfl, HST⟩ := hrel
  obtain ⟨X, rfl⟩ : ∃ X : World, X = wr := ⟨_, rfl⟩
  clear HR
  have HBW := Lib.hid (show Below W0.heap.size W0 X from HBX.out.trans (HST.out.2.2.1.below (B' := W0.heap.size) HBX.out.size HGW.out))
  have HBw := Lib.hid (show Below B w X from HB0.out.trans (HBW.out.mono (by have := HSZ.out; omega)))
  have hsX := HST.out.2.2.1.row HSX.out HSX.out.lt (by have := HGB.out; omega)
  have hrX := HST.out.2.2.1.row HRX.out HRX.out.lt (by have := HGB.out; omega)
  have d0 := hrX.cell (i := 0) rfl
  have d1 := hrX.cell (i := 1) rfl
  have f0 := hrX.free 0
  have f1 := hrX.free 1
  have x0 := hsX.cell (i := 0) rfl
  have x1 := hsX.cell (i := 1) rfl
  have HRX' := Lib.hid hrX
  have HZ := Lib.hid (two_set hrX HBw.out (show B ≤ B + 2 by omega) (.int .i64 0) (.slice none 0 0))
  have e0 := HZ.out.1.cell (i := 0) rfl
  have e1 := HZ.out.1.cell (i := 1) rfl
  by_cases hkm : k < m
  case pos =>
    obtain ⟨b0, off, v, rfl, hv, hc, -, -⟩ := HI.out.get (Nat.le_refl _) HBW.out (i := k) (by rw [← HML.out]; exact hkm)
    have hk0 : (0 : Int) ≤ (k : Int) := by omega
    have hk1 : (k : Int) < (m : Int) := by omega
    clear hsX hrX
    by_cases hv0 : v < 0
    · have g0 : decide (v < 0) = true := by simp; omega
      clear hv0
      go_wp2
      refine bodyPost_ret (v := .tuple #[.agg #[.int .i64 0, .slice none 0 0], .int .i64 3]) (by simp [results, Tryz.results30, go_sem, e0, e1]) rfl (ren_no (by decide) ?_)
      rw [← HBB.out]
      exact HZ.out.2
    have g0 : decide (v < 0) = false := by simp; omega
    by_cases hvn : v < (n : Int)
    case neg =>
      have g1 : decide (v ≥ (n : Int)) = true := by simp; omega
      have g1' : decide ((n : Int) ≤ v) = true := by simp; omega
      clear hv0 hvn
      go_wp2
      refine bodyPost_ret (v := .tuple #[.agg #[.int .i64 0, .slice none 0 0], .int .i64 3]) (by simp [results, Tryz.results30, go_sem, e0, e1]) rfl (ren_no (by decide) ?_)
      rw [← HBB.out]
      exact HZ.out.2
    case pos =>
    have g1 : decide (v ≥ (n : Int)) = false := by simp; omega
    have g1' : decide ((n : Int) ≤ v) = false := by simp; omega
    obtain ⟨u, rfl⟩ := Int.eq_ofNat_of_zero_le (show 0 ≤ v by omega)
    have hun : u < n := by omega
    have g1n : decide (n ≤ u) = false := by simp; omega
    have cg := HST.out.1.cell (bv_get β hun)
    have fg := HST.out.1.free u
    have hu0 : (0 : Int) ≤ (u : Int) := by omega
    cases hbu : β u
    case true =>
      rw [hbu] at cg
      clear hv0
      go_wp2
      refine bodyPost_ret (v := .tuple #[.agg #[.int .i64 0, .slice none 0 0], .int .i64 3]) (by simp [results, Tryz.results30, go_sem, e0, e1]) rfl (ren_no (by decide) ?_)
      rw [← HBB.out]
      exact HZ.out.2
    case false =>
    rw [hbu] at cg
    have HN := Lib.hid (show RowIs (X.setCell ⟨g, u, none⟩ (.bool true)) g 4 (bv (updB β u true) n) ∧ SeenN n I (k + 1) (updB β u true) ∧ But X1.heap.size g X1 (X.setCell ⟨g, u, none⟩ (.bool true)) ∧ X1.heap.size ≤ (X.setCell ⟨g, u, none⟩ (.bool true)).heap.size from
      ⟨by have := HST.out.1.set u (.bool true); rw [bv_set] at this; exact this, HST.out.2.1.push hv.out hun hbu, HST.out.2.2.1.grown (grown_set X g u _) HST.out.2.2.2 (fun q hq => .inr (by cases hq; rfl)), Nat.le_trans HST.out.2.2.2 (grown_set X g u (.bool true)).size⟩)
    clear hv0 hbu e0 e1
    go_wp2
    go_roundw
    case rel => exact ⟨k + 1, _, by omega, by go_num, HN.out⟩
    case measure => simp [intOf]; omega
  case neg =>
    obtain rfl : k = m := by omega
    have hi2' := (HST.out.2.2.1.cell (k := B + 1) (i := 0) (by have := HGB.out; have := HGX.out; omega) (by have := HGB.out; omega)).trans hi2
    by_cases hnm : k = n
    case neg =>
      have g0 : ((k : Int) != (n : Int)) = true := by simp; omega
      clear hnm hsX hrX
      go_wp2
      refine bodyPost_ret (v := .tuple #[.agg #[.int .i64 0, .slice none 0 0], .int .i64 3]) (by simp [results, Tryz.results30, go_sem, e0, e1]) rfl (ren_no (by decide) ?_)
      rw [← HBB.out]
      exact HZ.out.2
    case pos =>
    subst hnm
    have HNM := Lib.hid (show Names k (toI I) from HST.out.2.1.names)
    have hTX := HT.out.mono (Nat.le_refl _) HBW.out
    have hIX := HI.out.mono (Nat.le_refl _) HBW.out
    have HC := Lib.hid (each_rename (B + 1) (rn (toI I)) k ao cap T X hTX HS.out.t1 (fun Y i hi hY => by
      obtain ⟨p0, p1⟩ := HS.out.vin i hi 0
      obtain ⟨q0, q1⟩ := HS.out.vin i hi 1
      obtain ⟨s0, s1⟩ := HS.out.vin i hi 2
      obtain ⟨⟨x, y, z⟩, hx⟩ : ∃ t, t = T! T i := ⟨_, rfl⟩
      rw [← hx] at p0 p1 q0 q1 s0 s1 ⊢
      simp only [tg] at p0 p1 q0 q1 s0 s1
      obtain ⟨x, rfl⟩ := Int.eq_ofNat_of_zero_le p0
      obtain ⟨y, rfl⟩ := Int.eq_ofNat_of_zero_le q0
      obtain ⟨z, rfl⟩ := Int.eq_ofNat_of_zero_le s0
      have hml := HML.out
      obtain ⟨b0, off, eb, hlt, hcc⟩ := hIX (by intro e; rw [e] at hml; simp at hml; omega)
      have hcb := (hY.cell (p := ⟨B + 1, 0, none⟩) (World.block_lt_of_cell? _ _ hi2')).trans hi2'
      rw [eb] at hcb
      exact (rename1 x y z (B + 1) b0 off k ic (I! I x) (I! I y) (I! I z) Y (by omega) (by omega) (by omega) hcb ((hY.cell (p := ⟨b0, off + x, none⟩) hlt).trans (hcc x (by omega))) ((hY.cell (p := ⟨b0, off + y, none⟩) hlt).trans (hcc y (by omega))) ((hY.cell (p := ⟨b0, off + z, none⟩) hlt).trans (hcc z (by omega))))))
    rw [← HTL.out] at HC
    have g0 : ((k : Int) != (k : Int)) = false := by simp
    have HBx := Lib.hid (show B + 3 ≤ X.heap.size from by have := HBW.out.size; have := HSZ.out; omega)
    clear hTX hIX hsX hrX e0 e1 d0 d1 f0 f1
    go_wp2_with fail
    refine HC.out.mono ?_
    rintro e w9 ⟨ao9, cap9, rfl, ho, hb9⟩
    have hr := HRX'.out.after hb9
    have d0 := hr.cell (i := 0) rfl
    have d1 := hr.cell (i := 1) rfl
    have f0 := hr.free 0
    have f1 := hr.free 1
    have HQ := Lib.hid (two_set hr (below_more HBw.out hb9 (by have := HBx.out; omega)) (show B ≤ B + 2 by omega) (.int .i64 (k : Int)) (.slice ao9 t cap9))
    have e0 := HQ.out.1.cell (i := 0) rfl
    have e1 := HQ.out.1.cell (i := 1) rfl
    have HTT := Lib.hid (show ((w9.setCell ⟨B + 2, 0, none⟩ (.int .i64 (k : Int))).setCell ⟨B + 2, 1, none⟩ (.slice ao9 t cap9)).ownsRow B 72 3 (.slice ao9 t cap9) t (tcells (rnT (toI I) T)) from by
      have h1 := ho.kept (grown_set w9 (B + 2) 0 (.int .i64 (k : Int))) (.inr fun e => by have := (ho.lt _ e).1; have := HBx.out; omega)
      have h2 := h1.kept (grown_set _ (B + 2) 1 (.slice ao9 t cap9)) (.inr fun e => by have := (ho.lt _ e).1; have := HBx.out; omega)
      exact owns_base h2 (by have := HBx.out; omega))
    clear hr hb9 ho x0 x1
    go_wp2
    refine bodyPost_ret (v := .tuple #[.agg #[.int .i64 (k : Int), .slice ao9 t cap9], .int .i64 0]) (by simp [results, Tryz.results30, go_sem, e0, e1]) rfl ⟨?_, .inr ⟨ao9, cap9, by rw [← HTL.out], by rw [← HBB.out, ← HTL.out]; exact HTT.out, HNM.out, HML.out.symm⟩⟩
    rw [← HBB.out]
    exact HQ.out.2
/-- What soup.Pick gives: no corners of the surface, or the triangles of the corners. -/
def PickPost (n : Nat) (T : List Tr) (I : List Int) (w : World) (e : Ending) (w' : World) : Prop :=
  Below w.heap.size w w' ∧ ((∃ r : Int, r ≠ 0 ∧ e = .returned (.tuple #[.agg #[.int .i64 0, .slice none 0 0], .int .i64 r]) ∧ ∃ q, q < I.length ∧ (I! I q < 0 ∨ 3 * (T.length : Int) ≤ I! I q)) ∨
    ∃ ao cap, e = .returned (.tuple #[.agg #[.int .i64 (n : Int), .slice ao I.length cap], .int .i64 0]) ∧ w'.ownsRow w.heap.size 72 3 (.slice ao I.length cap) I.length (tcells (pickT T (I.map Int.toNat))) ∧ ∀ c ∈ I.map Int.toNat, c < 3 * T.length)
theorem pick_no {n : Nat} {T : List Tr} {I : List Int} {w w' : World} {r : Int} (h : r ≠ 0) (hx : ∃ q, q < I.length ∧ (I! I q < 0 ∨ 3 * (T.length : Int) ≤ I! I q)) (hb : Below w.heap.size w w') : PickPost n T I w (.returned (.tuple #[.agg #[.int .i64 0, .slice none 0 0], .int .i64 r])) w' := ⟨hb, .inl ⟨r, h, rfl, hx⟩⟩
theorem tri_cell {w : World} {g : Nat} {e : TypeId} {x y z : Int} (h : RowIs w g e [.int .i64 x, .int .i64 y, .int .i64 z]) {k : Nat} (hk : k < 3) : w.cell? ⟨g, k, none⟩ = some (.int .i64 (tg (x, y, z) k)) := by
  rcases (by omega : k = 0 ∨ k = 1 ∨ k = 2) with rfl | rfl | rfl
  · exact h.cell (i := 0) rfl
  · exact h.cell (i := 1) rfl
  · exact h.cell (i := 2) rfl
set_option maxRecDepth 100000 in
set_option maxHeartbeats 2500000 in
theorem pick_ok (n : Nat) (ao : Option Addr) (cap : Nat) (T : List Tr) (io : Option Addr) (ic : Nat) (I : List Int) (w : World) (hs : FitS n T) (hT : TrisAt w ao T) (hI : IntsAt w io I) (hIl : I.length ≤ 60) :
    Calls Tryz.prog 29 #[.agg #[.int .i64 (n : Int), .slice ao T.length cap], .slice io I.length ic] w (PickPost n T I w) := by
  obtain ⟨i4, hi4, hx0, hx1, hx2⟩ := info_parts info49
  obtain ⟨B, hB⟩ : ∃ B, B = w.heap.size := ⟨_, rfl⟩
  obtain ⟨t, ht⟩ : ∃ t, t = T.length := ⟨_, rfl⟩
  obtain ⟨m, hm⟩ : ∃ m, m = I.length := ⟨_, rfl⟩
  obtain ⟨W0, hW0⟩ : ∃ W0, W0 = (w.alloc (.cells #[.int .i64 (n : Int), .slice ao t cap] 24)).alloc (.cells #[.int .i64 0, .slice none 0 0] 24) := ⟨_, rfl⟩
  have hb0 : Below B w W0 := by rw [hW0, hB]; exact ((Below.refl _ _).alloc (Nat.le_refl _) _).alloc (by simp) _
  have hs0 : RowIs W0 B 24 [.int .i64 (n : Int), .slice ao t cap] := by rw [hW0, hB]; exact (RowIs.made w 24 [.int .i64 (n : Int), .slice ao t cap]).alloc _
  have hr0 : RowIs W0 (B + 1) 24 [.int .i64 0, .slice none 0 0] := by rw [hW0, hB]; exact row_two w _ 24 [.int .i64 0, .slice none 0 0]
  have HS0 := Lib.hid hs0
  have HR0 := Lib.hid hr0
  have HB0 := Lib.hid hb0
  have HBB := Lib.hid hB
  have HTL := Lib.hid ht
  have HML := Lib.hid hm
  have HS := Lib.hid hs
  have hn1 : n ≤ 4096 := by have := hs.n1; omega
  have ht1 : t ≤ 8192 := by have := hs.t1; omega
  have HT := Lib.hid (show TrisAt W0 ao T from hT.mono (by rw [hB]; exact Nat.le_refl _) hb0)
  have HI := Lib.hid (show IntsAt W0 io I from hI.mono (by rw [hB]; exact Nat.le_refl _) hb0)
  have HFI := Lib.hid (soupfits_fit n ao cap T W0 hs HT.out)
  have x0 := hs0.cell (i := 0) rfl
  have x1 := hs0.cell (i := 1) rfl
  rw [← ht] at HFI ⊢
  rw [← hm] at hIl ⊢
  have HSZ := Lib.hid (show B + 2 ≤ W0.heap.size from hr0.lt)
  clear hb0 hs0 hr0 hs hT hI ht hm
  go_enter Tryz.func29, Tryz.ntmps29
  go_upto_region 1 with fail
  rw [← hW0]
  rw [← hB]
  clear hW0 hB
  go_wp2_with fail
  refine HFI.out.mono ?_
  rintro e w1 ⟨rfl, hb1⟩
  obtain ⟨X1, hX1⟩ : ∃ X1, X1 = w1.alloc (.cells #[.int .i64 (n : Int), .slice none 0 0] 24) := ⟨_, rfl⟩
  obtain ⟨g, hg⟩ : ∃ g, g = w1.heap.size := ⟨_, rfl⟩
  have hb1' : Below w1.heap.size w1 X1 := by rw [hX1]; exact (Below.refl _ _).alloc (Nat.le_refl _) _
  have HBX := Lib.hid (show Below W0.heap.size W0 X1 from below_more hb1 hb1' hb1.size)
  have HSX := Lib.hid (HS0.out.after HBX.out)
  have HRX := Lib.hid (HR0.out.after HBX.out)
  have HXX := Lib.hid (show RowIs X1 g 24 [.int .i64 (n : Int), .slice none 0 0] from by rw [hX1, hg]; exact RowIs.made w1 24 [.int .i64 (n : Int), .slice none 0 0])
  have HGB := Lib.hid (show B + 2 ≤ g from by rw [hg]; exact Nat.le_trans HSZ.out hb1.size)
  have HBw := Lib.hid (show Below B w X1 from HB0.out.trans (HBX.out.mono (by have := HSZ.out; omega)))
  have HX1 := Lib.hid hX1
  have HG1 := Lib.hid hg
  have x0' := (HS0.out.after hb1).cell (i := 0) rfl
  have HG0 := Lib.hid (show W0.heap.size ≤ g from by rw [hg]; exact hb1.size)
  clear x0 x1 hb1 hb1' hX1 hg
  go_upto_region 4 with fail
  rw [← HX1.out]
  simp only [← HG1.out]
  clear x0'
  go_wp2
  go_loopw [22] (fun i ws => ∃ k : Nat, k ≤ m ∧ i = .int .i64 k ∧ Hid (ws = X1 ∧ ∀ q, q < k → ∃ c : Nat, I! I q = (c : Int) ∧ c < 3 * t)) (fun i _ => m - (intOf i).toNat)
  case atStart => exact ⟨0, by omega, rfl, ⟨rfl, fun q h => absurd h (by omega)⟩⟩
  case round =>
  obtain ⟨k, hk, rfl, HST⟩ := hrel
  obtain rfl : X1 = wr := HST.out.1.symm
  have d0 := HRX.out.cell (i := 0) rfl
  have d1 := HRX.out.cell (i := 1) rfl
  have f0 := HRX.out.free 0
  have f1 := HRX.out.free 1
  have x1 := HSX.out.cell (i := 1) rfl
  have HZ := Lib.hid (two_set HRX.out HBw.out (show B ≤ B + 1 by omega) (.int .i64 0) (.slice none 0 0))
  have e0 := HZ.out.1.cell (i := 0) rfl
  have e1 := HZ.out.1.cell (i := 1) rfl
  by_cases hkm : k < m
  case pos =>
    obtain ⟨b0, off, v, rfl, hv, hc, -, -⟩ := HI.out.get (Nat.le_refl _) HBX.out (i := k) (by rw [← HML.out]; exact hkm)
    have hk0 : (0 : Int) ≤ (k : Int) := by omega
    have hk1 : (k : Int) < (m : Int) := by omega
    by_cases hv0 : v < 0
    · have g0 : decide (v < 0) = true := by simp; omega
      have HXX := Lib.hid (show ∃ q, q < I.length ∧ (I! I q < 0 ∨ 3 * (T.length : Int) ≤ I! I q) from ⟨k, by rw [← HML.out]; exact hkm, .inl (by rw [hv.out]; exact hv0)⟩)
      clear hv0
      go_wp2
      refine bodyPost_ret (v := .tuple #[.agg #[.int .i64 0, .slice none 0 0], .int .i64 2]) (by simp [results, Tryz.results29, go_sem, e0, e1]) rfl (pick_no (by decide) HXX.out ?_)
      rw [← HBB.out]
      exact HZ.out.2
    have g0 : decide (v < 0) = false := by simp; omega
    by_cases hvn : v < 3 * (t : Int)
    case neg =>
      have g1 : decide (v ≥ 3 * (t : Int)) = true := by simp; omega
      have g1' : decide (3 * (t : Int) ≤ v) = true := by simp; omega
      have HXX := Lib.hid (show ∃ q, q < I.length ∧ (I! I q < 0 ∨ 3 * (T.length : Int) ≤ I! I q) from ⟨k, by rw [← HML.out]; exact hkm, .inr (by rw [hv.out, ← HTL.out]; omega)⟩)
      clear hv0 hvn
      go_wp2
      refine bodyPost_ret (v := .tuple #[.agg #[.int .i64 0, .slice none 0 0], .int .i64 2]) (by simp [results, Tryz.results29, go_sem, e0, e1]) rfl (pick_no (by decide) HXX.out ?_)
      rw [← HBB.out]
      exact HZ.out.2
    case pos =>
    have g1 : decide (v ≥ 3 * (t : Int)) = false := by simp; omega
    have g1' : decide (3 * (t : Int) ≤ v) = false := by simp; omega
    have HN := Lib.hid (show ∀ q, q < k + 1 → ∃ c : Nat, I! I q = (c : Int) ∧ c < 3 * t from fun q hq => by
      rcases Nat.lt_succ_iff_lt_or_eq.1 hq with hq | rfl
      · exact HST.out.2 q hq
      · exact ⟨v.toNat, by rw [hv.out]; omega, by omega⟩)
    clear hv0 hvn e0 e1 hv
    go_wp2
    go_roundw
    case rel => exact ⟨k + 1, by omega, by go_num, ⟨by trivial, HN.out⟩⟩
    case measure => simp [intOf]; omega
  case neg =>
  obtain rfl : k = m := by omega
  have HC := Lib.hid HST.out.2
  have hgm : decide ((k : Int) > 8192) = false := by simp; omega
  have hgm' : decide ((8192 : Int) < (k : Int)) = false := by simp; omega
  have hgmn : decide (8192 < k) = false := by simp; omega
  clear HST hkm e0 e1 d0 d1 f0 f1
  go_wp2
  go_loopw [44] (fun i ws => ∃ (q : Nat) (v : Value), q ≤ k ∧ i = .int .i64 q ∧ Hid (RowIs ws g 24 [.int .i64 (n : Int), v] ∧ ws.ownsRow (g + 1) 72 3 v q (tcells (((I.take q).map Int.toNat).map (rotT T))) ∧ But X1.heap.size g X1 ws ∧ X1.heap.size ≤ ws.heap.size)) (fun i _ => k - (intOf i).toNat)
  case atStart => exact ⟨0, _, by omega, rfl, ⟨HXX.out, World.ownsRow_nil _ _ _ _, But.refl _ _ _, Nat.le_refl _⟩⟩
  case round =>
  clear HZ x1
  obtain ⟨q, v, hq, rfl, HST⟩ := hrel
  obtain ⟨X, rfl⟩ : ∃ X : World, X = wr := ⟨_, rfl⟩
  have HGX := Lib.hid (show g < X1.heap.size from HXX.out.lt)
  have HBW := Lib.hid (show Below W0.heap.size W0 X from HBX.out.trans (HST.out.2.2.1.below (B' := W0.heap.size) HBX.out.size HG0.out))
  have hsX := HST.out.2.2.1.row HSX.out HSX.out.lt (by have := HGB.out; omega)
  have hrX := HST.out.2.2.1.row HRX.out HRX.out.lt (by have := HGB.out; omega)
  have HRR := Lib.hid hrX
  have HBw2 := Lib.hid (show Below B w X from HB0.out.trans (HBW.out.mono (by have := HSZ.out; omega)))
  obtain ⟨ao5, cap5, rfl⟩ := owns_slice HST.out.2.1
  by_cases hqk : q < k
  case neg =>
    obtain rfl : q = k := by omega
    have y0 := HST.out.1.cell (i := 0) rfl
    have y1 := HST.out.1.cell (i := 1) rfl
    have d0 := hrX.cell (i := 0) rfl
    have d1 := hrX.cell (i := 1) rfl
    have f0 := hrX.free 0
    have f1 := hrX.free 1
    have HQ := Lib.hid (two_set hrX HBw2.out (show B ≤ B + 1 by omega) (.int .i64 (n : Int)) (.slice ao5 q cap5))
    have e0 := HQ.out.1.cell (i := 0) rfl
    have e1 := HQ.out.1.cell (i := 1) rfl
    have HTT := Lib.hid (show ((X.setCell ⟨B + 1, 0, none⟩ (.int .i64 (n : Int))).setCell ⟨B + 1, 1, none⟩ (.slice ao5 q cap5)).ownsRow B 72 3 (.slice ao5 q cap5) q (tcells (pickT T (I.map Int.toNat))) from by
      have ho := HST.out.2.1
      have h1 := ho.kept (grown_set X (B + 1) 0 (.int .i64 (n : Int))) (.inr fun e => by have := (ho.lt _ e).1; have := HGB.out; omega)
      have h2 := h1.kept (grown_set _ (B + 1) 1 (.slice ao5 q cap5)) (.inr fun e => by have := (ho.lt _ e).1; have := HGB.out; omega)
      rw [List.take_of_length_le (by have := HML.out; omega)] at h2
      exact owns_base h2 (by have := HGB.out; omega))
    have HCC := Lib.hid (show ∀ c ∈ I.map Int.toNat, c < 3 * T.length from fun c hc => by
      obtain ⟨x, hx, rfl⟩ := List.mem_map.1 hc
      obtain ⟨j, hj, rfl⟩ := List.getElem_of_mem hx
      obtain ⟨c, h1, h2⟩ := HC.out j (by rw [HML.out]; exact hj)
      have e : I[j] = I! I j := by simp [I!, hj]
      rw [e, h1, ← HTL.out]
      omega)
    clear hsX hrX
    go_wp2
    refine bodyPost_ret (v := .tuple #[.agg #[.int .i64 (n : Int), .slice ao5 q cap5], .int .i64 0]) (by simp [results, Tryz.results29, go_sem, e0, e1]) rfl ⟨?_, .inr ⟨ao5, cap5, by rw [← HML.out], by rw [← HBB.out, ← HML.out]; exact HTT.out, HCC.out⟩⟩
    rw [← HBB.out]
    exact HQ.out.2
  case pos =>
  obtain ⟨c, hcI, hcl⟩ := HC.out q hqk
  obtain ⟨b0, off, v, rfl, hv, hc, -, -⟩ := HI.out.get (Nat.le_refl _) HBW.out (i := q) (by rw [← HML.out]; exact hqk)
  obtain rfl : v = (c : Int) := hv.out.symm.trans hcI
  obtain ⟨c3, hc3⟩ : ∃ x, x = c / 3 := ⟨_, rfl⟩
  obtain ⟨k0, hk0⟩ : ∃ x, x = c % 3 := ⟨_, rfl⟩
  obtain ⟨k1, hk1⟩ : ∃ x, x = (c % 3 + 1) % 3 := ⟨_, rfl⟩
  obtain ⟨k2, hk2⟩ : ∃ x, x = (c % 3 + 2) % 3 := ⟨_, rfl⟩
  obtain ⟨tb, toff, x, y, z, rfl, htt, g0, g1, g2, -, -⟩ := HT.out.get (Nat.le_refl _) HBW.out (i := c3) (by rw [← HTL.out]; omega)
  have hba : Below X.heap.size X (X.alloc (.cells #[.int .i64 x, .int .i64 y, .int .i64 z] 72)) := (Below.refl _ _).alloc (Nat.le_refl _) _
  have hrt : RowIs (X.alloc (.cells #[.int .i64 x, .int .i64 y, .int .i64 z] 72)) X.heap.size 72 [.int .i64 x, .int .i64 y, .int .i64 z] := RowIs.made X 72 [.int .i64 x, .int .i64 y, .int .i64 z]
  obtain ⟨Y, hY⟩ : ∃ Y, Y = X.alloc (.cells #[.int .i64 x, .int .i64 y, .int .i64 z] 72) := ⟨_, rfl⟩
  obtain ⟨tq, htq⟩ : ∃ t, t = X.heap.size := ⟨_, rfl⟩
  rw [← hY] at hba hrt
  rw [← htq] at hrt
  have HXY := Lib.hid (HST.out.1.after hba)
  have HOY := Lib.hid (owns_below HST.out.2.1 hba)
  have HUY := Lib.hid (show But X1.heap.size g X1 Y ∧ X1.heap.size ≤ Y.heap.size from ⟨HST.out.2.2.1.more hba HST.out.2.2.2, Nat.le_trans HST.out.2.2.2 hba.size⟩)
  have HSY := Lib.hid (show g + 1 ≤ Y.heap.size from HXY.out.lt)
  have HTK := Lib.hid (show ((I.take (q + 1)).map Int.toNat).map (rotT T) = ((I.take q).map Int.toNat).map (rotT T) ++ [(tg (x, y, z) k0, tg (x, y, z) k1, tg (x, y, z) k2)] from by
    have hq' : q < I.length := by have := HML.out; omega
    have ev : I[q] = (c : Int) := by have := hcI; simp [I!, hq'] at this; exact this
    rw [List.take_add_one, List.getElem?_eq_getElem hq', List.map_append, List.map_append, ev]
    congr 1
    have t0 : ∀ j, j < 3 → vt T (turn c j : Nat) = tg (x, y, z) ((c % 3 + j) % 3) := fun j hj => by
      unfold vt
      rw [Int.toNat_natCast, turn_div, ← hc3, htt.out]
      unfold turn
      congr 1
      omega
    simp only [Option.toList_some, List.map_cons, List.map_nil, Int.toNat_natCast, rotT]
    rw [t0 0 (by omega), t0 1 (by omega), t0 2 (by omega), hk0, hk1, hk2]
    simp)
  have y0 := HXY.out.cell (i := 0) rfl
  have y1 := HXY.out.cell (i := 1) rfl
  have t0 := tri_cell hrt (show k0 < 3 by omega)
  have t1 := tri_cell hrt (show k1 < 3 by omega)
  have t2 := tri_cell hrt (show k2 < 3 by omega)
  have q3 : (c : Int) / 3 = (c3 : Int) := by omega
  have q3' : (c : Int).tdiv 3 = (c3 : Int) := by rw [Int.tdiv_eq_ediv_of_nonneg (by omega)]; exact q3
  have m3 : (c : Int) % 3 = (k0 : Int) := by omega
  have m3' : (c : Int).tmod 3 = (k0 : Int) := by rw [Int.tmod_eq_emod_of_nonneg (by omega)]; exact m3
  have m4 : ((k0 : Int) + 1) % 3 = (k1 : Int) := by omega
  have m4' : ((k0 : Int) + 1).tmod 3 = (k1 : Int) := by rw [Int.tmod_eq_emod_of_nonneg (by omega)]; exact m4
  have m5 : ((k0 : Int) + 2) % 3 = (k2 : Int) := by omega
  have m5' : ((k0 : Int) + 2).tmod 3 = (k2 : Int) := by rw [Int.tmod_eq_emod_of_nonneg (by omega)]; exact m5
  have wr1 : IntKind.i64.wrap ((k0 : Int) + 1) = (k0 : Int) + 1 := by simp [IntKind.wrap, IntKind.bits, IntKind.signed]; omega
  have wr2 : IntKind.i64.wrap ((k0 : Int) + 2) = (k0 : Int) + 2 := by simp [IntKind.wrap, IntKind.bits, IntKind.signed]; omega
  have n3 : c / 3 = c3 := hc3.symm
  have n4 : c % 3 = k0 := hk0.symm
  have n5 : (k0 + 1) % 3 = k1 := by omega
  have n6 : (k0 + 2) % 3 = k2 := by omega
  have l0 : k0 < 3 := by omega
  have l1 : k1 < 3 := by omega
  have l2 : k2 < 3 := by omega
  have l3 : c3 < t := by omega
  have hi0 : (k0 : Int) < 3 := by omega
  have hi1 : (k1 : Int) < 3 := by omega
  have hi2 : (k2 : Int) < 3 := by omega
  have hi3 : (c3 : Int) < (t : Int) := by omega
  have x1 := hsX.cell (i := 1) rfl
  have HYY := Lib.hid hY
  have HQQ := Lib.hid htq
  have HST' := Lib.hid (show B + 2 ≤ g from HGB.out)
  generalize tg (x, y, z) k0 = v0 at t0 HTK
  generalize tg (x, y, z) k1 = v1 at t1 HTK
  generalize tg (x, y, z) k2 = v2 at t2 HTK
  have hqI0 : (0 : Int) ≤ (q : Int) := by omega
  have hqI1 : (q : Int) < (k : Int) := by omega
  clear hc3 hk0 hk1 hk2 hrt hY htq hba hsX hrX hv hcI hcl htt
  go_upto_region 16 with fail
  rw [← HYY.out]
  simp only [← HQQ.out]
  clear g0 g1 g2 hc x1 q3 q3' m3 m3' n3 n4 l3 hi3
  have y1a := (HXY.out.alloc (.cells #[.int .i64 v0, .int .i64 v1, .int .i64 v2] 72)).cell (i := 1) rfl
  go_region_law (refine step_append_any (by rfl) _ _ _ (by rfl) (g + 1) 72 i4 _ 3 24 (by kernel_rfl) hi4 hx0 hx1 hx2 rfl (by decide) _ q _ (by rfl) (by first | exact HOY.out.alloc _ | exact World.ownsRow.drew (HOY.out.alloc _)) ⟨Y.heap.size, 0, none⟩ 1 1 [.int .i64 v0, .int .i64 v1, .int .i64 v2] (by rfl) rfl (World.news_of_block (heap_alloc_new Y _)) (by intro u hu; simp at hu; rcases hu with rfl | rfl | rfl <;> rfl) (by unfold maxLen; omega) (by omega) (by have := HSY.out; simp; omega) ?_; intro a1 c1 w5 hown5 hbel5 hgr5; have hrow5 := Lib.hid (box_kept hgr5 (HOY.out.alloc _) (HXY.out.alloc _) (by decide)); have y1c := hrow5.out.cell (i := 1) rfl; have kf := hrow5.out.free 1)
  all_goals
    have HX6 := Lib.hid (hrow5.out.set 1 (.slice a1 (q + 1) c1))
    have HO6 := Lib.hid (show (w5.setCell ⟨g, 1, none⟩ (.slice a1 (q + 1) c1)).ownsRow (g + 1) 72 3 (.slice a1 (q + 1) c1) (q + 1) (tcells (((I.take (q + 1)).map Int.toNat).map (rotT T))) from by
      rw [HTK.out, tcells_snoc]
      exact ownsRow_setCell_below hown5 (a := ⟨g, 1, none⟩) (Nat.lt_succ_self _) _)
    have HU6 := Lib.hid (show But X1.heap.size g X1 (w5.setCell ⟨g, 1, none⟩ (.slice a1 (q + 1) c1)) ∧ X1.heap.size ≤ (w5.setCell ⟨g, 1, none⟩ (.slice a1 (q + 1) c1)).heap.size from by
      have h1 := hbel5 (g + 1) Y (Nat.le_refl _) (by first | exact (Below.refl _ _).alloc HSY.out _ | exact ((Below.refl _ _).alloc HSY.out _).trans ⟨rfl, rfl, rfl, Nat.le_refl _, fun _ _ => rfl⟩)
      have h2 : But X1.heap.size g X1 w5 := HUY.out.1.more h1 (by rw [HX1.out, HG1.out]; simp)
      exact ⟨h2.grown (grown_set w5 g 1 _) (Nat.le_trans HUY.out.2 h1.size) (fun p hp => .inr (by cases hp; rfl)), Nat.le_trans (Nat.le_trans HUY.out.2 h1.size) (grown_set w5 g 1 (.slice a1 (q + 1) c1)).size⟩)
    clear hown5 hbel5 hgr5 y0 y1 y1a y1c kf t0 t1 t2
    go_wp2
    go_roundw
    case rel => exact ⟨q + 1, _, by omega, by go_num, ⟨HX6.out, HO6.out, HU6.out.1, HU6.out.2⟩⟩
    case measure => simp [intOf]; omega
end Go.Proofs.YtkjamheoihlekaaGreat

/- gypsumref14.Same, plain: kinds are matched one by one. gypsumref14.Same: the walk. -/
import Derived.Test.YtbeefabboabfgaaGreatPairSort
import Derived.Test.YtbeefabboabfgaaGreatSurfDef
import Derived.Test.YtbeefabboabfgaaGreatOf14
import Derived.Test.YtbeefabboabfgaaGreatKinds
namespace Go.Proofs.YtbeefabboabfgaaGreat
set_option linter.unusedVariables false
set_option linter.unusedSimpArgs false
open Go.RowKit
def restL (m : Nat) (G : Nat → Bool) (Y : List (Int × Int)) : List (Int × Int) := ((List.range m).filter fun k => !G k).map (E! Y)
theorem rest_take {m : Nat} {G : Nat → Bool} {Y : List (Int × Int)} {k : Nat} (hk : k < m) (h : G k = false) : (restL m G Y).Perm (E! Y k :: restL m (updB G k true) Y) := by
  have hnd : ((List.range m).filter fun k => !G k).Nodup := List.Pairwise.filter _ List.nodup_range
  have hm : k ∈ (List.range m).filter fun k => !G k := List.mem_filter.2 ⟨List.mem_range.2 hk, by simp [h]⟩
  have h1 := List.perm_cons_erase hm
  have h2 : ((List.range m).filter fun k => !G k).erase k = (List.range m).filter fun j => !updB G k true j := by
    rw [hnd.erase_eq_filter, List.filter_filter]
    refine List.filter_congr fun j hj => ?_
    by_cases e : j = k
    · subst e; simp [updB]
    · simp [updB, e]
  rw [h2] at h1
  exact h1.map (E! Y)
theorem rest_length {m : Nat} {G : Nat → Bool} {Y : List (Int × Int)} : (restL m G Y).length = ((List.range m).filter fun k => !G k).length := by simp [restL]
theorem rest_all {Y : List (Int × Int)} : restL Y.length (fun _ => false) Y = Y := by
  have h : ((List.range Y.length).filter fun k => !(fun _ => false : Nat → Bool) k) = List.range Y.length := List.filter_eq_self.2 (by simp)
  unfold restL
  rw [h]
  apply List.ext_getElem
  · simp
  · intro i h1 h2
    simp [E!, h2]
/-- So many are matched. -/
def Matched (X Y : List (Int × Int)) (i : Nat) (G : Nat → Bool) : Prop := (X.take i ++ restL Y.length G Y).Perm Y
theorem Matched.start (X Y : List (Int × Int)) : Matched X Y 0 (fun _ => false) := by
  unfold Matched
  rw [rest_all]; simp
theorem Matched.step {X Y : List (Int × Int)} {i k : Nat} {G : Nat → Bool} (h : Matched X Y i G) (hi : i < X.length) (hk : k < Y.length) (hg : G k = false) (e : E! X i = E! Y k) : Matched X Y (i + 1) (updB G k true) := by
  unfold Matched at h ⊢
  have h1 := rest_take (Y := Y) hk hg
  rw [← e] at h1
  have h2 : X.take (i + 1) = X.take i ++ [E! X i] := by rw [List.take_succ_eq_append_getElem hi]; simp [E!, hi]
  rw [h2, List.append_assoc]
  exact ((h1.append_left (X.take i)).symm.trans (by simpa using h))
theorem Matched.none {X Y : List (Int × Int)} {i : Nat} {G : Nat → Bool} (h : Matched X Y i G) (hi : i < X.length) (hno : ∀ k, k < Y.length → G k = false → E! X i ≠ E! Y k) : ¬ X.Perm Y := by
  intro hp
  have h1 : (X.take i ++ restL Y.length G Y).Perm (X.take i ++ X.drop i) := by
    rw [List.take_append_drop]; exact h.trans hp.symm
  have h2 := (List.perm_append_left_iff _).1 h1
  have h3 : E! X i ∈ X.drop i := by
    have e : E! X i = X[i] := by simp [E!, hi]
    rw [List.drop_eq_getElem_cons hi, e]
    exact List.mem_cons_self
  obtain ⟨k, hk, e⟩ := List.mem_map.1 (h2.symm.subset h3)
  obtain ⟨k1, k2⟩ := List.mem_filter.1 hk
  exact hno k (List.mem_range.1 k1) (by simpa using k2) e.symm
theorem Matched.done {X Y : List (Int × Int)} {G : Nat → Bool} (hl : X.length = Y.length) (h : Matched X Y X.length G) : X.Perm Y := by
  unfold Matched at h
  have := h.length_eq
  rw [List.take_length, List.length_append] at this
  have h0 : restL Y.length G Y = [] := List.length_eq_zero_iff.1 (by omega)
  rw [List.take_length, h0, List.append_nil] at h
  exact h
theorem kindL_get (Φ : Nat → Int) {m k : Nat} (hk : k < m) : E! (kindL Φ m) k = (Φ (k * 6 + 3), Φ (k * 6 + 5)) := by simp [E!, kindL, hk]
/-- What is told of two lists of kinds. -/
def SameP (r : Bool) (X Y : List (Int × Int)) : Prop := r = true ↔ X.Perm Y
def SamePost (X Y : List (Int × Int)) (w : World) (e : Ending) (w' : World) : Prop := ∃ r, e = .returned (.bool r) ∧ SameP r X Y ∧ Below w.heap.size w w'
set_option maxRecDepth 100000 in
set_option maxHeartbeats 6000000 in
theorem same14 (n n' : Nat) (ao bo : Option Addr) (cap cap' : Nat) (T U : List Tr) (L M : Nat → Int) (m m' : Nat) (w : World) (hT : TrisAt w ao T) (hU : TrisAt w bo U) (hs : Surf n T) (hs' : Surf n' U) (hL : IsShells (Adj T) T.length L) (hM : IsShells (Adj U) U.length M) (hm : (m : Int) = cnt L T.length) (hm' : (m' : Int) = cnt M U.length) :
    Calls Tryz.prog 16 #[.agg #[.int .i64 (n : Int), .slice ao T.length cap], .agg #[.int .i64 (n' : Int), .slice bo U.length cap']] w (SamePost (kindL (genF T L n) m) (kindL (genF U M n') m') w) := by
  obtain ⟨j0, hj, hy0, hy1, hy2⟩ := info_parts info4
  obtain ⟨W0, hW0⟩ : ∃ W0, W0 = (w.alloc (.cells #[.int .i64 (n : Int), .slice ao T.length cap] 24)).alloc (.cells #[.int .i64 (n' : Int), .slice bo U.length cap'] 24) := ⟨_, rfl⟩
  have hb0 : Below w.heap.size w W0 := by rw [hW0]; exact ((Below.refl _ _).alloc (Nat.le_refl _) _).alloc (by simp) _
  have hr0 : RowIs W0 w.heap.size 24 [.int .i64 (n : Int), .slice ao T.length cap] := by rw [hW0]; exact (RowIs.made w 24 [.int .i64 (n : Int), .slice ao T.length cap]).alloc _
  have hr1 : RowIs W0 (w.heap.size + 1) 24 [.int .i64 (n' : Int), .slice bo U.length cap'] := by rw [hW0]; exact RowIs.made' _ _ [.int .i64 (n' : Int), .slice bo U.length cap'] _ (by simp)
  have hml : m ≤ 8192 := by have := hL.cnt_le; have := hs.t1; omega
  have hml' : m' ≤ 8192 := by have := hM.cnt_le; have := hs'.t1; omega
  have HOA := Lib.hid (fun (X : World) (h : Below W0.heap.size W0 X) => of14 n ao cap T L m X ((hT.mono (Nat.le_refl _) hb0).mono (Nat.le_refl _) h) hs hL hm)
  have HOB := Lib.hid (fun (X : World) (h : Below W0.heap.size W0 X) => of14 n' bo cap' U M m' X ((hU.mono (Nat.le_refl _) hb0).mono (Nat.le_refl _) h) hs' hM hm')
  obtain ⟨Φ, hΦ⟩ : ∃ Φ, Φ = genF T L n := ⟨_, rfl⟩
  obtain ⟨Ψ, hΨ⟩ : ∃ Ψ, Ψ = genF U M n' := ⟨_, rfl⟩
  rw [← hΦ] at HOA ⊢
  rw [← hΨ] at HOB ⊢
  have HR0 := Lib.hid hr0
  have HR1 := Lib.hid hr1
  obtain ⟨la, hla⟩ : ∃ l, l = T.length := ⟨_, rfl⟩
  obtain ⟨lb, hlb⟩ : ∃ l, l = U.length := ⟨_, rfl⟩
  simp only [← hla, ← hlb] at HOA HOB HR0 HR1 hW0 ⊢
  have HB0 := Lib.hid hb0
  have HW0 := Lib.hid hW0
  obtain ⟨xb, hxb⟩ : ∃ x, x = w.heap.size := ⟨_, rfl⟩
  rw [← hxb] at HR0 HR1
  have HXB := Lib.hid hxb
  have c0 := HR0.out.cell (i := 0) rfl
  have c1 := HR0.out.cell (i := 1) rfl
  clear hT hU hs hs' hL hM hm hm' hb0 hr0 hr1 hW0 hΦ hΨ hla hlb hxb
  go_enter Tryz.func16, Tryz.ntmps16
  go_upto_region 1 with fail
  simp only [← HXB.out]
  rw [← HW0.out]
  go_wp2_with fail
  refine (HOA.out W0 (Below.refl _ _)).mono ?_
  rintro e W1 ⟨u1, rfl, hown1, hb1⟩
  obtain ⟨ua, uc, rfl⟩ := owns_slice hown1
  have HOW1 := Lib.hid hown1
  have HB1 := Lib.hid hb1
  have hr1 := HR1.out.after hb1
  have d0 := hr1.cell (i := 0) rfl
  have d1 := hr1.cell (i := 1) rfl
  clear c0 c1 hown1 hb1 hr1 HOA
  go_wp2_with fail
  refine (HOB.out W1 HB1.out).mono ?_
  rintro e W2 ⟨u2, rfl, hown2, hb2⟩
  obtain ⟨va, vc, rfl⟩ := owns_slice hown2
  have HOW2 := Lib.hid hown2
  have HOW1' := Lib.hid (owns_below HOW1.out hb2)
  have HB2 := Lib.hid (below_more HB0.out (below_more HB1.out hb2 HB1.out.size) HB0.out.size)
  clear d0 d1 hown2 hb2 HOB HOW1
  by_cases hmm : m = m'
  case neg =>
    have e0 : ((m : Int) != (m' : Int)) = true := by simp; omega
    have HF := Lib.hid (show SameP false (kindL Φ m) (kindL Ψ m') from ⟨fun h => (by cases h), fun h => by
      have := h.length_eq
      rw [kindL_length, kindL_length] at this
      exact absurd this hmm⟩)
    clear hmm
    go_wp2
    exact bodyPost_ret (v := .bool false) (by simp [results, Tryz.results16, go_sem]) rfl ⟨false, rfl, HF.out, HB2.out⟩
  case pos =>
  subst hmm
  have HCA := Lib.hid (show ∀ k, k < m → ∃ g, ua = some ⟨g, 0, none⟩ ∧ g < W2.heap.size ∧ W2.cell? ⟨g, k * 6 + 3, none⟩ = some (.int .i64 (Φ (k * 6 + 3))) ∧ W2.cell? ⟨g, k * 6 + 5, none⟩ = some (.int .i64 (Φ (k * 6 + 5))) from fun k hk => by
    obtain ⟨g, cu, hu, hgb, hgl, -, -, hcell, -⟩ := owns_block HOW1'.out (by omega)
    simp only [Value.slice.injEq, true_and] at hu
    exact ⟨g, hu.1, hgl, hcell _ _ (iv_get Φ (by omega)), hcell _ _ (iv_get Φ (by omega))⟩)
  have HCB := Lib.hid (show ∀ k, k < m → ∃ g, va = some ⟨g, 0, none⟩ ∧ g < W2.heap.size ∧ W2.cell? ⟨g, k * 6 + 3, none⟩ = some (.int .i64 (Ψ (k * 6 + 3))) ∧ W2.cell? ⟨g, k * 6 + 5, none⟩ = some (.int .i64 (Ψ (k * 6 + 5))) from fun k hk => by
    obtain ⟨g, cu, hu, hgb, hgl, -, -, hcell, -⟩ := owns_block HOW2.out (by omega)
    simp only [Value.slice.injEq, true_and] at hu
    exact ⟨g, hu.1, hgl, hcell _ _ (iv_get Ψ (by omega)), hcell _ _ (iv_get Ψ (by omega))⟩)
  clear HOW1' HOW2
  go_wp2_with (at_make; refine wpList_make_full _ rfl _ _ _ rfl W2.heap.size 4 j0 (.bool false) 1 (by kernel_rfl) hj hy0 hy1 _ _ _ _ m rfl rfl rfl rfl (by rw [hy2]; omega) (by unfold maxLen; omega) (by simp) ?_)
  intro X1 hown hgr
  rw [madeCells_bv] at hown
  have hrow := RowIs.of_owns hown
  have HB3 := Lib.hid (show Below W2.heap.size W2 X1 from (Below.refl _ _).grown hgr (by simp) (by simp))
  have HR := Lib.hid hrow
  have HST := Lib.hid (show Matched (kindL Φ m) (kindL Ψ m) 0 (fun _ => false) from Matched.start _ _)
  clear hown hgr hrow
  go_wp2
  go_loopw [8] (fun i ws => ∃ (i' : Nat) (G : Nat → Bool), i' ≤ m ∧ i = .int .i64 i' ∧ Hid (RowIs ws W2.heap.size 4 (bv G m) ∧ Matched (kindL Φ m) (kindL Ψ m) i' G) ∧ Below W2.heap.size W2 ws) (fun i _ => m - (intOf i).toNat)
  case atStart => exact ⟨0, _, by omega, rfl, ⟨HR.out, HST.out⟩, HB3.out⟩
  case round =>
  clear HR HB3 HST
  obtain ⟨i', G, hi', rfl, HS, hb⟩ := hrel
  obtain ⟨X2, rfl⟩ : ∃ X : World, X = wr := ⟨_, rfl⟩
  have HB3 := Lib.hid hb
  clear hb
  by_cases him : i' < m
  case neg =>
    obtain rfl : i' = m := by omega
    have HF := Lib.hid (show SameP true (kindL Φ i') (kindL Ψ i') from ⟨fun _ => Matched.done (by rw [kindL_length, kindL_length]) (by rw [kindL_length]; exact HS.out.2), fun _ => rfl⟩)
    have HBF := Lib.hid (below_more HB2.out HB3.out HB2.out.size)
    go_wp2
    exact bodyPost_ret (v := .bool true) (by simp [results, Tryz.results16, go_sem]) rfl ⟨true, rfl, HF.out, HBF.out⟩
  case pos =>
  obtain ⟨ga, rfl, hga, a3, a5⟩ := HCA.out i' him
  obtain ⟨x3, hx3⟩ : ∃ x, x = Φ (i' * 6 + 3) := ⟨_, rfl⟩
  obtain ⟨x5, hx5⟩ : ∃ x, x = Φ (i' * 6 + 5) := ⟨_, rfl⟩
  rw [← hx3] at a3
  rw [← hx5] at a5
  have HA3 := Lib.hid a3
  have HA5 := Lib.hid a5
  have HXE := Lib.hid (show E! (kindL Φ m) i' = (x3, x5) from by rw [kindL_get Φ him, hx3, hx5])
  have hi0 : (0 : Int) ≤ (i' : Int) := by omega
  have hi1 : (i' : Int) < (m : Int) := by omega
  clear a3 a5 hx3 hx5 HCA
  go_wp2
  go_loopw [9, 10] (fun fd k ws => ∃ (k' : Nat) (fb : Bool) (G' : Nat → Bool), k' ≤ m ∧ fd = .bool fb ∧ k = .int .i64 k' ∧ Hid (RowIs ws W2.heap.size 4 (bv G' m) ∧ (fb = false → G' = G ∧ ∀ j, j < k' → G j = false → E! (kindL Φ m) i' ≠ E! (kindL Ψ m) j) ∧ (fb = true → Matched (kindL Φ m) (kindL Ψ m) (i' + 1) G')) ∧ Below W2.heap.size W2 ws) (fun _ k _ => m - (intOf k).toNat)
  case atStart => exact ⟨0, false, G, by omega, rfl, rfl, ⟨HS.out.1, fun _ => ⟨rfl, fun j h => by omega⟩, fun h => by cases h⟩, HB3.out⟩
  case round =>
  have HMT := Lib.hid HS.out.2
  clear HS HB3
  obtain ⟨k, fb, G', hk, rfl, rfl, HS, hb⟩ := hrel
  obtain ⟨X3, rfl⟩ : ∃ X : World, X = wr := ⟨_, rfl⟩
  have HB3 := Lib.hid hb
  clear hb
  by_cases hkm : k < m
  case neg =>
    obtain rfl : k = m := by omega
    cases fb
    case true =>
      have HN := Lib.hid (HS.out.2.2 rfl)
      go_wp2
      go_roundw
      case rel => exact ⟨i' + 1, G', by omega, by go_num, ⟨HS.out.1, HN.out⟩, HB3.out⟩
      case measure => simp [intOf]; omega
    case false =>
      have HF := Lib.hid (show SameP false (kindL Φ k) (kindL Ψ k) from ⟨fun h => (by cases h), fun h => absurd h (Matched.none HMT.out (by rw [kindL_length]; exact him) (by rw [kindL_length]; exact (HS.out.2.1 rfl).2))⟩)
      have HBF := Lib.hid (below_more HB2.out HB3.out HB2.out.size)
      go_wp2
      exact bodyPost_ret (v := .bool false) (by simp [results, Tryz.results16, go_sem]) rfl ⟨false, rfl, HF.out, HBF.out⟩
  case pos =>
  have hk0 : (0 : Int) ≤ (k : Int) := by omega
  have hk1 : (k : Int) < (m : Int) := by omega
  cases fb
  case true =>
    have HN := Lib.hid (HS.out.2.2 rfl)
    go_upto_region 13 with fail
    go_quiet (fail)
    go_wp2
    go_roundw
    case rel => exact ⟨k + 1, true, G', by omega, rfl, by go_num, ⟨HS.out.1, fun h => (by cases h), fun _ => HN.out⟩, HB3.out.trans ⟨rfl, rfl, rfl, Nat.le_refl _, fun _ _ => rfl⟩⟩
    case measure => simp [intOf]; omega
  case false =>
  obtain ⟨rfl, hall⟩ := HS.out.2.1 rfl
  have HALL := Lib.hid hall
  have cg := HS.out.1.cell (bv_get G' hkm)
  have fg := HS.out.1.free k
  clear hall
  cases hg : G' k
  case true =>
    rw [hg] at cg
    have HN := Lib.hid (show ∀ j, j < k + 1 → G' j = false → E! (kindL Φ m) i' ≠ E! (kindL Ψ m) j from fun j hj hgj => by
      by_cases e : j = k
      · subst e; rw [hg] at hgj; cases hgj
      · exact HALL.out j (by omega) hgj)
    clear hg
    go_upto_region 13 with fail
    go_quiet (fail)
    go_wp2
    go_roundw
    case rel => exact ⟨k + 1, false, G', by omega, rfl, by go_num, ⟨HS.out.1, fun _ => ⟨rfl, HN.out⟩, fun h => by cases h⟩, HB3.out.trans ⟨rfl, rfl, rfl, Nat.le_refl _, fun _ _ => rfl⟩⟩
    case measure => simp [intOf]; omega
  case false =>
  rw [hg] at cg
  obtain ⟨gb, rfl, hgb, b3, b5⟩ := HCB.out k hkm
  obtain ⟨y3, hy3⟩ : ∃ x, x = Ψ (k * 6 + 3) := ⟨_, rfl⟩
  obtain ⟨y5, hy5⟩ : ∃ x, x = Ψ (k * 6 + 5) := ⟨_, rfl⟩
  rw [← hy3] at b3
  rw [← hy5] at b5
  have HYE := Lib.hid (show E! (kindL Ψ m) k = (y3, y5) from by rw [kindL_get Ψ hkm, hy3, hy5])
  have q3 := (HB3.out.cell (p := ⟨ga, i' * 6 + 3, none⟩) hga).trans HA3.out
  have q5 := (HB3.out.cell (p := ⟨ga, i' * 6 + 5, none⟩) hga).trans HA5.out
  have r3 := (HB3.out.cell (p := ⟨gb, k * 6 + 3, none⟩) hgb).trans b3
  have r5 := (HB3.out.cell (p := ⟨gb, k * 6 + 5, none⟩) hgb).trans b5
  have HNO := Lib.hid (show (x3, x5) ≠ (y3, y5) → ∀ j, j < k + 1 → G' j = false → E! (kindL Φ m) i' ≠ E! (kindL Ψ m) j from fun hne j hj hgj => by
    by_cases e : j = k
    · subst e; rw [HXE.out, HYE.out]; exact hne
    · exact HALL.out j (by omega) hgj)
  have HG := Lib.hid hg
  clear b3 b5 hy3 hy5 hg
  by_cases h3 : x3 = y3
  case neg =>
    have e0 : (x3 == y3) = false := by simpa using h3
    have HN := Lib.hid (HNO.out fun e => h3 (by simp only [Prod.mk.injEq] at e; exact e.1))
    clear h3
    go_upto_region 13 with fail
    go_quiet (fail)
    go_wp2
    go_roundw
    case rel => exact ⟨k + 1, false, G', by omega, rfl, by go_num, ⟨HS.out.1, fun _ => ⟨rfl, HN.out⟩, fun h => by cases h⟩, HB3.out.trans ⟨rfl, rfl, rfl, Nat.le_refl _, fun _ _ => rfl⟩⟩
    case measure => simp [intOf]; omega
  case pos =>
  have e0 : (x3 == y3) = true := by simpa using h3
  by_cases h5 : x5 = y5
  case neg =>
    have e1 : (x5 == y5) = false := by simpa using h5
    have HN := Lib.hid (HNO.out fun e => h5 (by simp only [Prod.mk.injEq] at e; exact e.2))
    clear h3 h5
    go_upto_region 13 with fail
    go_quiet (fail)
    go_wp2
    go_roundw
    case rel => exact ⟨k + 1, false, G', by omega, rfl, by go_num, ⟨HS.out.1, fun _ => ⟨rfl, HN.out⟩, fun h => by cases h⟩, HB3.out.trans ⟨rfl, rfl, rfl, Nat.le_refl _, fun _ _ => rfl⟩⟩
    case measure => simp [intOf]; omega
  case pos =>
  have e1 : (x5 == y5) = true := by simpa using h5
  have HN := Lib.hid (show Matched (kindL Φ m) (kindL Ψ m) (i' + 1) (updB G' k true) from HMT.out.step (by rw [kindL_length]; exact him) (by rw [kindL_length]; exact hkm) HG.out (by rw [HXE.out, HYE.out, h3, h5]))
  have hrs := HS.out.1.set k (.bool true)
  rw [bv_set] at hrs
  obtain ⟨X4, hX4⟩ : ∃ X4, X4 = X3.drew := ⟨_, rfl⟩
  have HRS := Lib.hid hrs
  have HBS := Lib.hid (HB3.out.setCell (p := ⟨W2.heap.size, k, none⟩) (Nat.le_refl _) (.bool true))
  clear h3 h5 hrs hX4
  go_upto_region 13 with fail
  go_quiet (fail)
  go_wp2
  go_roundw
  case rel => exact ⟨k + 1, true, _, by omega, rfl, by go_num, ⟨HRS.out, fun h => (by cases h), fun _ => HN.out⟩, HBS.out.trans ⟨rfl, rfl, rfl, Nat.le_refl _, fun _ _ => rfl⟩⟩
  case measure => simp [intOf]; omega
end Go.Proofs.YtbeefabboabfgaaGreat

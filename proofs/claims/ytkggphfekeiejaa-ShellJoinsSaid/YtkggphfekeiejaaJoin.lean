/- shell.Join: the walk. -/
import Derived.Test.YtkggphfekeiejaaJoinRows
import Derived.Deep.RegionHeld3
import Derived.Deep.AppendLies
namespace Go.Proofs.Ytkggphfekeiejaa
set_option linter.unusedVariables false
set_option linter.unusedSimpArgs false
open Go.RowKit
set_option maxRecDepth 100000 in
set_option maxHeartbeats 1500000 in
theorem join_any (P : Nat → PartV) (m cap : Nat) (a : Option Addr) (w : World) (hm : m ≤ 100) (hs : Sized P m) (h : PartsAt w a P m) :
    Calls Try.prog 24 #[.slice a m cap] w fun e w' => JoinPost P m w w' e := by
  obtain ⟨i0, hi, hz0, hz1, hz2⟩ := info_parts info34
  obtain ⟨b, F, hb, hF⟩ := h.vals
  obtain ⟨B, hB⟩ : ∃ B, B = w.heap.size := ⟨_, rfl⟩
  obtain ⟨W0, hW0⟩ : ∃ W0, W0 = (w.alloc (.cells #[.int .i64 0, .slice none 0 0] 24)).alloc (.cells #[.int .i64 0, .slice none 0 0] 24) := ⟨_, rfl⟩
  have HB0 := Lib.hid (show Below B w W0 from by rw [hW0, hB]; exact ((Below.refl _ _).alloc (Nat.le_refl _) _).alloc (by simp) _)
  have HR0 := Lib.hid (show RowIs W0 B 24 [.int .i64 0, .slice none 0 0] from by rw [hW0, hB]; exact (RowIs.made w 24 [.int .i64 0, .slice none 0 0]).alloc _)
  have HX0 := Lib.hid (show RowIs W0 (B + 1) 24 [.int .i64 0, .slice none 0 0] from by
    rw [hW0, hB]
    have := RowIs.made (w.alloc (.cells #[.int .i64 0, .slice none 0 0] 24)) 24 [.int .i64 0, .slice none 0 0]
    simpa using this)
  have HF := Lib.hid hF
  have HS := Lib.hid hs
  clear h hs hF
  go_enter Try.func24, Try.ntmps24
  go_wp2
  rw [← hW0]
  have HBB := Lib.hid hB
  rw [← hB] at hb ⊢
  clear hW0 hB
  go_loopw [18, 5, 6, 7] (fun i u5 u6 v7 ws => ∃ (k : Nat) (v5 v6 : Value), k ≤ m ∧ i = .int .i64 k ∧ v5 = u5 ∧ v6 = u6 ∧ v7 = .int .i64 ((allT P k).length : Nat) ∧ (allT P k).length ≤ k * 100 ∧ (allV P k).length ≤ k * 100 ∧ RightAll P k ∧
      JSt w B [.int .i64 0, .slice none 0 0] [.int .i64 ((allV P k).length : Nat), .slice none 0 0] ws v5 v6 k k (vv (fun k => F k 3) k) (vv (fun k => F k 2) k)) (fun i _ _ _ _ => m - (intOf i).toNat)
  case atStart => exact ⟨0, _, _, by omega, rfl, rfl, rfl, rfl, by simp [allT, gather], by simp [allV, gather], fun k h => by omega, ⟨World.ownsRow_nil _ _ _ _, World.ownsRow_nil _ _ _ _, .inl rfl, HR0.out, HX0.out, HB0.out⟩⟩
  case round =>
    clear HR0 HX0 HB0
    obtain ⟨k, v5, v6, hk, rfl, rfl, rfl, rfl, ht1, hv1, hra, hst⟩ := hrel
    obtain ⟨W1, rfl⟩ : ∃ W1 : World, W1 = wr := ⟨_, rfl⟩
    have HST := Lib.hid hst
    have HRA := Lib.hid hra
    have hsz := hst.size
    by_cases hlt : k < m
    · obtain ⟨rfl, hbl'⟩ := hb (by omega)
      have hbl : b < w.heap.size := by rw [← HBB.out]; exact hbl'
      obtain ⟨⟨c0, c1, c2, c3⟩, hpv⟩ := HF.out k hlt
      have hbb := hst.below
      rw [HBB.out] at hbb
      obtain ⟨aoS, cS, aoV, cV, aoT, cT, e0, e1, e2, e3, hS, hV, hT⟩ := hpv
      rw [e0] at c0
      rw [e1] at c1
      rw [e2] at c2
      rw [e3] at c3
      replace c0 := (hbb.cell (p := ⟨b, _, none⟩) hbl).trans c0
      replace c1 := (hbb.cell (p := ⟨b, _, none⟩) hbl).trans c1
      replace c2 := (hbb.cell (p := ⟨b, _, none⟩) hbl).trans c2
      replace c3 := (hbb.cell (p := ⟨b, _, none⟩) hbl).trans c3
      have HE2 := Lib.hid e2
      have HE3 := Lib.hid e3
      have HTS := Lib.hid (hS.mono (Nat.le_refl _) hbb)
      obtain ⟨z1, z2, z3⟩ := HS.out k hlt
      have HT1 := Lib.hid (show (allT P (k + 1)).length = (allT P k).length + (P k).T.length from by simp [allT, gather_succ])
      have HV1 := Lib.hid (show (allV P (k + 1)).length = (allV P k).length + (P k).V.length from by simp [allV, gather_succ])
      obtain ⟨lT, hlT⟩ : ∃ l, l = (P k).T.length := ⟨_, rfl⟩
      obtain ⟨lV, hlV⟩ : ∃ l, l = (P k).V.length := ⟨_, rfl⟩
      obtain ⟨lS, hlS⟩ : ∃ l, l = (P k).S.length := ⟨_, rfl⟩
      obtain ⟨PN, hPN⟩ : ∃ l, l = (P k).N := ⟨_, rfl⟩
      obtain ⟨nT, hnT⟩ : ∃ l, l = (allT P k).length := ⟨_, rfl⟩
      obtain ⟨nV, hnV⟩ : ∃ l, l = (allV P k).length := ⟨_, rfl⟩
      have HRT := Lib.hid (fun w' (h : TrisAt w' aoS (P k).S) => right_any PN (P k).S lV lT aoS aoV aoT cS cV cT w' (by omega) h)
      rw [← hlS] at c1 z1 HRT
      rw [← hlV] at c2 z2 HV1
      rw [← hlT] at c3 z3 HT1
      rw [← hPN] at c0
      rw [← hnT] at HT1 ht1 ⊢
      rw [← hnV] at HV1 hv1 HST
      have HLS := Lib.hid hlS
      have HLV := Lib.hid hlV
      have HLT := Lib.hid hlT
      have HPN := Lib.hid hPN
      have HNT := Lib.hid hnT
      have HNV := Lib.hid hnV
      clear hst hra hS hV hT e0 e1 e2 e3 hbb hlT hlV hlS hPN hnT hnV
      go_wp2_with fail
      have HJ2 := Lib.hid (show JBox w B [.int .i64 0, .slice none 0 0] [.int .i64 (nV : Int), .slice none 0 0] W1.heap.size [.int .i64 PN, .slice aoS lS cS, .slice aoV lV cV, .slice aoT lT cT]
          (W1.alloc (.cells #[.int .i64 PN, .slice aoS lS cS, .slice aoV lV cV, .slice aoT lT cT] 40)) v5 v6 k k (vv (fun k => F k 3) k) (vv (fun k => F k 2) k) from
        ⟨HST.out.alloc _, RowIs.made W1 40 _, fun e => by have := (HST.out.own5.lt _ e.symm).2; omega, fun e => by have := (HST.out.own6.lt _ e.symm).2; omega, hsz⟩)
      rw [HLS.out] at HRT ⊢
      refine (HRT.out _ (HTS.out.mono (Nat.le_refl _) ((Below.refl _ _).alloc (Nat.le_refl _) _))).mono ?_
      rw [← HLS.out] at HRT ⊢
      rintro e w3 ⟨⟨r, rfl, hr⟩, hb3⟩
      have HJ3 := Lib.hid (HJ2.out.more hb3)
      clear hb3 HJ2
      obtain ⟨pb, hpb⟩ : ∃ pb, pb = W1.heap.size := ⟨_, rfl⟩
      rw [← hpb] at HJ3 ⊢
      clear hpb hsz
      cases r
      · have HNR := Lib.hid (show ¬ RightAll P m from fun hall => by
          have := hall k hlt
          rw [← HPN.out, ← HLV.out, ← HLT.out] at this
          exact absurd (hr.2 this) (by simp))
        have hr0 := (HJ3.out.st.row0.set 0 (.int .i64 0)).set 1 (.slice none 0 0)
        have q0 := HJ3.out.st.row0.cell (i := 0) rfl
        have q1 := HJ3.out.st.row0.cell (i := 1) rfl
        have k0 := hr0.cell (i := 0) rfl
        have k1 := hr0.cell (i := 1) rfl
        have f0 := HJ3.out.st.row0.free 0
        have f1 := HJ3.out.st.row0.free 1
        have HBF := Lib.hid (((HJ3.out.st.below).setCell (p := ⟨B, 0, none⟩) (Nat.le_refl _) (.int .i64 0)).setCell (p := ⟨B, 1, none⟩) (Nat.le_refl _) (.slice none 0 0))
        clear hr0 hr
        go_wp2
        refine bodyPost_ret (v := .tuple #[.agg #[.int .i64 0, .slice none 0 0], .int .i64 1]) (by simp [results, Try.results24, go_sem, k0, k1]) rfl (joinPost_fail (jcode_1 HNR.out) (by decide) ?_)
        rw [← HBB.out]
        exact HBF.out
      · have HRK := Lib.hid (show RightP (P k).N (P k).S (P k).V.length (P k).T.length from by
          rw [← HPN.out, ← HLV.out, ← HLT.out]
          exact hr.1 rfl)
        have hpn : PN = (lV : Int) := by rw [HPN.out, HLV.out]; exact HRK.out.2.1
        subst hpn
        have HRA1 := Lib.hid (show RightAll P (k + 1) from fun j hj => by
          by_cases e : j = k
          · subst e; exact HRK.out
          · exact HRA.out j (by omega))
        have x0 := HJ3.out.st.row1.cell (i := 0) rfl
        have fx0 := HJ3.out.st.row1.free 0
        have y0 := HJ3.out.box.cell (i := 0) rfl
        have y3 := HJ3.out.box.cell (i := 3) rfl
        have HJ4 := Lib.hid (HJ3.out.store 0 (.int .i64 ((nV : Int) + (lV : Int))))
        have y0' := HJ4.out.box.cell (i := 0) rfl
        have y3' := HJ4.out.box.cell (i := 3) rfl
        obtain ⟨W4, hW4⟩ : ∃ W4, W4 = w3.setCell ⟨B + 1, 0, none⟩ (.int .i64 ((nV : Int) + (lV : Int))) := ⟨_, rfl⟩
        rw [← hW4] at HJ4 y0' y3'
        have jb := HJ4.out
        have HX5 := Lib.hid (show vv (fun k => F k 3) (k + 1) = vv (fun k => F k 3) k ++ [.slice aoT lT cT] from by rw [vv_snoc, HE3.out, HLT.out])
        have HX6 := Lib.hid (show vv (fun k => F k 2) (k + 1) = vv (fun k => F k 2) k ++ [.slice aoV lV cV] from by rw [vv_snoc, HE2.out, HLV.out])
        obtain ⟨xs5, hxs5⟩ : ∃ xs, xs = vv (fun k => F k 3) k := ⟨_, rfl⟩
        obtain ⟨xs6, hxs6⟩ : ∃ xs, xs = vv (fun k => F k 2) k := ⟨_, rfl⟩
        rw [← hxs5] at jb HX5
        rw [← hxs6] at jb HX6
        have NE5 := Lib.hid (show ∀ p, W4.heap.size ≤ p → some p ≠ v5.ownBlock from fun p hp e => by have := (HJ4.out.own5.lt _ e.symm).2; omega)
        have NE6 := Lib.hid (show ∀ p, W4.heap.size ≤ p → some p ≠ v6.ownBlock from fun p hp e => by have := (HJ4.out.own6.lt _ e.symm).2; omega)
        clear HJ3 HJ4 hr hxs5 hxs6 y0' y3'
        go_upto_region 11 with fail
        rw [← hW4]
        clear hW4 x0 fx0 y0 y3
        go_region_held3 (fun w' => w'.cell? ⟨pb, 2, none⟩ = some (.slice aoV lV cV) ∧ w'.cell? ⟨pb, 3, none⟩ = some (.slice aoT lT cT))
          (exact JBox.ks (by repeat (first | exact jb | with_reducible apply JBox.alloc | with_reducible apply JBox.drew)))
          (first
            | (refine step_row5 (by rfl) _ _ (by rfl) (by repeat (first | exact jb | with_reducible apply JBox.alloc | with_reducible apply JBox.drew)) (by rfl) (.slice aoT lT cT) _ (by rfl) (by repeat (first | with_reducible exact RowIs.made _ _ _ | with_reducible exact row_made1 _ _ _ _ | with_reducible apply RowIs.alloc | with_reducible apply RowIs.drew1 | with_reducible refine hl _ _ _ (by simp) ?_)) rfl (by omega) W4.heap.size NE5.out ?_; intro g cap5 w1 jb hl)
            | (refine step_row6 (by rfl) _ _ (by rfl) (by repeat (first | exact jb | with_reducible apply JBox.alloc | with_reducible apply JBox.drew)) (by rfl) (.slice aoV lV cV) _ (by rfl) (by repeat (first | with_reducible exact RowIs.made _ _ _ | with_reducible exact row_made1 _ _ _ _ | with_reducible apply RowIs.alloc | with_reducible apply RowIs.drew1 | with_reducible refine hl _ _ _ (by simp) ?_)) rfl (by omega) W4.heap.size NE6.out ?_; intro g cap6 w1 jb hl))
        all_goals
          go_wp2_with fail
          go_roundw
          case rel => exact ⟨k + 1, _, _, by omega, by go_num, rfl, rfl, by rw [HT1.out]; push_cast; rfl, by rw [HT1.out]; omega, by rw [HV1.out]; omega, HRA1.out, by rw [HX5.out, HX6.out, HV1.out]; push_cast; exact JBox.st (by repeat (first | exact jb | with_reducible apply JBox.alloc | with_reducible apply JBox.drew))⟩
          case measure => simp [intOf]; omega
    · obtain rfl : k = m := by omega
      have hbb := hst.below
      rw [HBB.out] at hbb
      obtain ⟨ao5, cap5, rfl, hx5⟩ := rows_own (X := fun k => (P k).T) hst.own5 fun q hq => by
        obtain ⟨-, aoS, cS, aoV, cV, aoT, cT, -, -, -, e3, -, -, hT⟩ := HF.out q hq
        exact ⟨aoT, cT, e3, hT.mono (Nat.le_refl _) hbb⟩
      obtain ⟨ao6, cap6, rfl, hx6⟩ := rows_own (X := fun k => (P k).V) hst.own6 fun q hq => by
        obtain ⟨-, aoS, cS, aoV, cV, aoT, cT, -, -, e2, -, -, hV, -⟩ := HF.out q hq
        exact ⟨aoV, cV, e2, hV.mono (Nat.le_refl _) hbb⟩
      have HX5 := Lib.hid hx5
      have HX6 := Lib.hid hx6
      have hs5 : ∀ q, q < k → (P q).T.length ≤ 100000 := fun q hq => by have := (HS.out q hq).2.2; omega
      have hs6 : ∀ q, q < k → (P q).V.length ≤ 100000 := fun q hq => by have := (HS.out q hq).2.1; omega
      obtain ⟨nT, hnT⟩ : ∃ l, l = (allT P k).length := ⟨_, rfl⟩
      obtain ⟨nV, hnV⟩ : ∃ l, l = (allV P k).length := ⟨_, rfl⟩
      rw [← hnT] at ht1 ⊢
      rw [← hnV] at hv1 HST
      have HNT := Lib.hid hnT
      have HNV := Lib.hid hnV
      have HE5 := Lib.hid (fun X hX => each_any (nT : Int) (fun k => (P k).T) k cap5 ao5 X (by omega) hs5 hX)
      have HE6 := Lib.hid (fun X hX => each_any (nV : Int) (fun k => (P k).V) k cap6 ao6 X (by omega) hs6 hX)
      have HW5 := Lib.hid (fun X hX h => twice_any nT (fun k => (P k).T) k cap5 ao5 X (by omega) (by omega) hs5 hX h)
      have HW6 := Lib.hid (fun X hX h => twice_any nV (fun k => (P k).V) k cap6 ao6 X (by omega) (by omega) hs6 hX h)
      clear hst hra hbb hx5 hx6 hs5 hs6 hnT hnV
      by_cases hin5 : InR (fun k => (P k).T) k (nT : Int)
      case neg =>
        have HIN5 := Lib.hid hin5
        clear hin5
        go_wp2_with fail
        refine (HE5.out W1 HX5.out).mono ?_
        rintro e w2 ⟨⟨r, rfl, hr⟩, hb2⟩
        obtain rfl : r = 2 := by
          rcases hr with ⟨h, _⟩ | ⟨_, h⟩
          · exact absurd h HIN5.out
          · exact h
        have HJ2 := Lib.hid (HST.out.more hb2)
        clear hr hb2
        have r0 := (HJ2.out.row0.set 0 (.int .i64 0)).set 1 (.slice none 0 0)
        have q0 := HJ2.out.row0.cell (i := 0) rfl
        have q1 := HJ2.out.row0.cell (i := 1) rfl
        have k0 := r0.cell (i := 0) rfl
        have k1 := r0.cell (i := 1) rfl
        have f0 := HJ2.out.row0.free 0
        have f1 := HJ2.out.row0.free 1
        have HBF := Lib.hid ((HJ2.out.below.setCell (p := ⟨B, 0, none⟩) (Nat.le_refl _) (.int .i64 0)).setCell (p := ⟨B, 1, none⟩) (Nat.le_refl _) (.slice none 0 0))
        clear r0
        go_wp2
        refine bodyPost_ret (v := .tuple #[.agg #[.int .i64 0, .slice none 0 0], .int .i64 2]) (by simp [results, Try.results24, go_sem, k0, k1]) rfl (joinPost_fail (jcode_2 HRA.out fun h => HIN5.out (by rw [HNT.out]; exact h.1)) (by decide) ?_)
        rw [← HBB.out]
        exact HBF.out
      case pos =>
      have HIN5 := Lib.hid hin5
      clear hin5
      by_cases hin6 : InR (fun k => (P k).V) k (nV : Int)
      case neg =>
        have HIN6 := Lib.hid hin6
        clear hin6
        go_wp2_with fail
        refine (HE5.out W1 HX5.out).mono ?_
        rintro e w2 ⟨⟨r, rfl, hr⟩, hb2⟩
        obtain rfl : r = 0 := by
          rcases hr with ⟨_, h⟩ | ⟨h, _⟩
          · exact h
          · exact absurd HIN5.out h
        have HJ2 := Lib.hid (HST.out.more hb2)
        have HX62 := Lib.hid (HX6.out.mono hb2)
        clear hr hb2
        have x0 := HJ2.out.row1.cell (i := 0) rfl
        go_wp2_with fail
        refine (HE6.out w2 HX62.out).mono ?_
        rintro e w3 ⟨⟨r, rfl, hr⟩, hb3⟩
        obtain rfl : r = 2 := by
          rcases hr with ⟨h, _⟩ | ⟨_, h⟩
          · exact absurd h HIN6.out
          · exact h
        have HJ3 := Lib.hid (HJ2.out.more hb3)
        clear hr hb3 x0
        have r0 := (HJ3.out.row0.set 0 (.int .i64 0)).set 1 (.slice none 0 0)
        have q0 := HJ3.out.row0.cell (i := 0) rfl
        have q1 := HJ3.out.row0.cell (i := 1) rfl
        have k0 := r0.cell (i := 0) rfl
        have k1 := r0.cell (i := 1) rfl
        have f0 := HJ3.out.row0.free 0
        have f1 := HJ3.out.row0.free 1
        have HBF := Lib.hid ((HJ3.out.below.setCell (p := ⟨B, 0, none⟩) (Nat.le_refl _) (.int .i64 0)).setCell (p := ⟨B, 1, none⟩) (Nat.le_refl _) (.slice none 0 0))
        clear r0
        go_wp2
        refine bodyPost_ret (v := .tuple #[.agg #[.int .i64 0, .slice none 0 0], .int .i64 2]) (by simp [results, Try.results24, go_sem, k0, k1]) rfl (joinPost_fail (jcode_2 HRA.out fun h => HIN6.out (by rw [HNV.out]; exact h.2)) (by decide) ?_)
        rw [← HBB.out]
        exact HBF.out
      case pos =>
      have HIN6 := Lib.hid hin6
      clear hin6
      have HIA := Lib.hid (show InAll P k from ⟨by rw [← HNT.out]; exact HIN5.out, by rw [← HNV.out]; exact HIN6.out⟩)
      go_wp2_with fail
      refine (HE5.out W1 HX5.out).mono ?_
      rintro e w2 ⟨⟨r, rfl, hr⟩, hb2⟩
      obtain rfl : r = 0 := by
        rcases hr with ⟨_, h⟩ | ⟨h, _⟩
        · exact h
        · exact absurd HIN5.out h
      have HJ2 := Lib.hid (HST.out.more hb2)
      have HX52 := Lib.hid (HX5.out.mono hb2)
      have HX62 := Lib.hid (HX6.out.mono hb2)
      clear hr hb2
      have x0 := HJ2.out.row1.cell (i := 0) rfl
      go_wp2_with fail
      refine (HE6.out w2 HX62.out).mono ?_
      rintro e w3 ⟨⟨r, rfl, hr⟩, hb3⟩
      obtain rfl : r = 0 := by
        rcases hr with ⟨_, h⟩ | ⟨h, _⟩
        · exact h
        · exact absurd HIN6.out h
      have HJ3 := Lib.hid (HJ2.out.more hb3)
      have HX53 := Lib.hid (HX52.out.mono hb3)
      have HX63 := Lib.hid (HX62.out.mono hb3)
      clear hr hb3 x0 HX52 HX62 HX5 HX6 HJ2 HST
      by_cases hn5 : (gather (fun k => (P k).T) k).Nodup
      case neg =>
        have HN5 := Lib.hid hn5
        clear hn5
        go_wp2_with fail
        refine (HW5.out w3 HX53.out HIN5.out).mono ?_
        rintro e w4 ⟨⟨r, rfl, hr⟩, hb4⟩
        obtain rfl : r = true := hr.2 HN5.out
        have HJ4 := Lib.hid (HJ3.out.more hb4)
        clear hr hb4
        have r0 := (HJ4.out.row0.set 0 (.int .i64 0)).set 1 (.slice none 0 0)
        have q0 := HJ4.out.row0.cell (i := 0) rfl
        have q1 := HJ4.out.row0.cell (i := 1) rfl
        have k0 := r0.cell (i := 0) rfl
        have k1 := r0.cell (i := 1) rfl
        have f0 := HJ4.out.row0.free 0
        have f1 := HJ4.out.row0.free 1
        have HBF := Lib.hid ((HJ4.out.below.setCell (p := ⟨B, 0, none⟩) (Nat.le_refl _) (.int .i64 0)).setCell (p := ⟨B, 1, none⟩) (Nat.le_refl _) (.slice none 0 0))
        clear r0
        go_wp2
        refine bodyPost_ret (v := .tuple #[.agg #[.int .i64 0, .slice none 0 0], .int .i64 9]) (by simp [results, Try.results24, go_sem, k0, k1]) rfl (joinPost_fail (jcode_9 HRA.out HIA.out fun h => HN5.out h.1) (by decide) ?_)
        rw [← HBB.out]
        exact HBF.out
      case pos =>
      have HN5 := Lib.hid hn5
      clear hn5
      go_wp2_with fail
      refine (HW5.out w3 HX53.out HIN5.out).mono ?_
      rintro e w4 ⟨⟨r, rfl, hr⟩, hb4⟩
      obtain rfl : r = false := by
        cases r
        · rfl
        · exact absurd HN5.out (hr.1 rfl)
      have HJ4 := Lib.hid (HJ3.out.more hb4)
      have HX64 := Lib.hid (HX63.out.mono hb4)
      clear hr hb4 HX63 HX53 HJ3
      have x0 := HJ4.out.row1.cell (i := 0) rfl
      by_cases hn6 : (gather (fun k => (P k).V) k).Nodup
      case neg =>
        have HN6 := Lib.hid hn6
        clear hn6
        go_wp2_with fail
        refine (HW6.out w4 HX64.out HIN6.out).mono ?_
        rintro e w5 ⟨⟨r, rfl, hr⟩, hb5⟩
        obtain rfl : r = true := hr.2 HN6.out
        have HJ5 := Lib.hid (HJ4.out.more hb5)
        clear hr hb5 x0
        have r0 := (HJ5.out.row0.set 0 (.int .i64 0)).set 1 (.slice none 0 0)
        have q0 := HJ5.out.row0.cell (i := 0) rfl
        have q1 := HJ5.out.row0.cell (i := 1) rfl
        have k0 := r0.cell (i := 0) rfl
        have k1 := r0.cell (i := 1) rfl
        have f0 := HJ5.out.row0.free 0
        have f1 := HJ5.out.row0.free 1
        have HBF := Lib.hid ((HJ5.out.below.setCell (p := ⟨B, 0, none⟩) (Nat.le_refl _) (.int .i64 0)).setCell (p := ⟨B, 1, none⟩) (Nat.le_refl _) (.slice none 0 0))
        clear r0
        go_wp2
        refine bodyPost_ret (v := .tuple #[.agg #[.int .i64 0, .slice none 0 0], .int .i64 9]) (by simp [results, Try.results24, go_sem, k0, k1]) rfl (joinPost_fail (jcode_9 HRA.out HIA.out fun h => HN6.out h.2) (by decide) ?_)
        rw [← HBB.out]
        exact HBF.out
      case pos =>
      have HN6 := Lib.hid hn6
      clear hn6
      go_wp2_with fail
      refine (HW6.out w4 HX64.out HIN6.out).mono ?_
      rintro e w5 ⟨⟨r, rfl, hr⟩, hb5⟩
      obtain rfl : r = false := by
        cases r
        · rfl
        · exact absurd HN6.out (hr.1 rfl)
      have HJ5 := Lib.hid (HJ4.out.more hb5)
      clear hr hb5 x0 HX64 HJ4
      have HJC := Lib.hid (jcode_0 HRA.out HIA.out ⟨HN5.out, HN6.out⟩)
      clear HE5 HE6 HW5 HW6 HN5 HN6
      obtain ⟨i4, hi4, hy0, hy1, hy2⟩ := info_parts info49
      have hg5 : B + 2 ≤ w5.heap.size := HJ5.out.size
      go_wp2_with (at_make; refine wpList_make_full _ rfl _ _ _ rfl (B + 2) 49 i4 (.agg #[.int .i64 0, .int .i64 0, .int .i64 0]) 3 (by kernel_rfl) hi4 hy0 hy1 _ _ _ _ nT rfl rfl rfl rfl (by rw [hy2]; omega) (by unfold maxLen; omega) hg5 ?_)
      intro w6 hown hgr
      obtain ⟨gT, hgT⟩ : ∃ g, g = w5.heap.size := ⟨_, rfl⟩
      rw [← hgT] at hown hg5 ⊢
      have hrow := RowIs.of_owns hown
      replace hrow : RowIs w6 gT 49 (jv (fun _ => (0, 0, 0)) nT) := by rw [← madeCells_jv]; exact hrow
      have hb6 : Below w5.heap.size w5 w6 := (Below.refl _ _).grown hgr (Nat.le_refl _) (by simp)
      have hr0 := HJ5.out.row0.below hb6 HJ5.out.row0.lt
      have hr1 := HJ5.out.row1.below hb6 HJ5.out.row1.lt
      have hbl6 := below_more HJ5.out.below hb6 (by omega)
      have x0 := hr1.cell (i := 1) rfl
      have f1 := hr1.free 1
      obtain ⟨W7, hW7⟩ : ∃ W7, W7 = w6.setCell ⟨B + 1, 1, none⟩ (.slice (some ⟨gT, 0, none⟩) nT nT) := ⟨_, rfl⟩
      have HR0 := Lib.hid (show RowIs W7 B 24 [.int .i64 0, .slice none 0 0] from by rw [hW7]; exact hr0.other (by simp) _)
      have HR1 := Lib.hid (show RowIs W7 (B + 1) 24 [.int .i64 (nV : Int), .slice (some ⟨gT, 0, none⟩) nT nT] from by rw [hW7]; exact hr1.set 1 _)
      have HRT := Lib.hid (show RowIs W7 gT 49 (jv (fun _ => (0, 0, 0)) nT) from by rw [hW7]; exact hrow.other (by simp; omega) _)
      have HB7 := Lib.hid (show Below B w W7 from by rw [hW7]; exact hbl6.setCell (p := ⟨B + 1, 1, none⟩) (Nat.le_succ _) _)
      have hgl : gT < W7.heap.size := HRT.out.lt
      clear hown hgr hrow hb6 hr0 hr1 hbl6 hi4 hy0 hy1 hy2 hgT HJ5 hi hz0 hz1 hz2
      go_wp2_with fail
      rw [← hW7]
      clear hW7 x0 f1
      go_loopw [76] (fun i ws => ∃ q : Nat, q ≤ k ∧ i = .int .i64 q ∧ RowIs ws gT 49 (jv (jall P q) nT) ∧ But W7.heap.size gT W7 ws) (fun i _ => k - (intOf i).toNat)
      case atStart => exact ⟨0, by omega, rfl, HRT.out, But.refl _ _ _⟩
      case round =>
        clear HRT
        obtain ⟨q, hq, rfl, hrt, hbt⟩ := hrel
        obtain ⟨W8, rfl⟩ : ∃ W8 : World, W8 = wr := ⟨_, rfl⟩
        have HRT := Lib.hid hrt
        have HBT := Lib.hid hbt
        have hs8 := hbt.size
        by_cases hqk : q < k
        · obtain ⟨rfl, hbl'⟩ := hb (by omega)
          have hbl : b < w.heap.size := by rw [← HBB.out]; exact hbl'
          have hbb := HB7.out.trans (hbt.below (B' := B) (by omega) (by omega))
          rw [HBB.out] at hbb
          obtain ⟨⟨c0, c1, c2, c3⟩, aoS, cS, aoV, cV, aoT, cT, e0, e1, e2, e3, hS, hV, hT⟩ := HF.out q hqk
          rw [e0] at c0
          rw [e1] at c1
          rw [e2] at c2
          rw [e3] at c3
          replace c0 := (hbb.cell (p := ⟨b, _, none⟩) hbl).trans c0
          replace c1 := (hbb.cell (p := ⟨b, _, none⟩) hbl).trans c1
          replace c2 := (hbb.cell (p := ⟨b, _, none⟩) hbl).trans c2
          replace c3 := (hbb.cell (p := ⟨b, _, none⟩) hbl).trans c3
          obtain ⟨z1, z2, z3⟩ := HS.out q hqk
          obtain ⟨g1, g2, g3⟩ := HRA.out q hqk
          obtain ⟨lT, hlT⟩ : ∃ l, l = (P q).T.length := ⟨_, rfl⟩
          obtain ⟨lV, hlV⟩ : ∃ l, l = (P q).V.length := ⟨_, rfl⟩
          rw [g1, ← hlT] at c1 z1
          rw [g2, ← hlV] at c0
          rw [← hlV] at c2 z2
          rw [← hlT] at c3 z3
          have HTS := Lib.hid hS
          have HTV := Lib.hid hV
          have HTT := Lib.hid hT
          have HLT := Lib.hid hlT
          have HLV := Lib.hid hlV
          have HSB := Lib.hid (show ∀ i, i < lT → ∀ j, j < 3 → 0 ≤ tg (T! (P q).S i) j ∧ tg (T! (P q).S i) j < (lV : Int) from fun i hi j hj => by
            have := g3 i (by rw [g1, ← hlT]; exact hi) j hj
            rw [g2, ← hlV] at this
            exact this)
          have HLS := Lib.hid (show (P q).S.length = lT from by rw [g1, ← hlT])
          clear hrt hbt hbb e0 e1 e2 e3 hS hV hT g1 g2 g3 hlT hlV
          go_wp2
          obtain ⟨pb, hpb⟩ : ∃ pb, pb = W8.heap.size := ⟨_, rfl⟩
          obtain ⟨W9, hW9⟩ : ∃ W9, W9 = W8.alloc (.cells #[.int .i64 (lV : Int), .slice aoS lT cS, .slice aoV lV cV, .slice aoT lT cT] 40) := ⟨_, rfl⟩
          have HP9 := Lib.hid (show RowIs W9 pb 40 [.int .i64 (lV : Int), .slice aoS lT cS, .slice aoV lV cV, .slice aoT lT cT] from by rw [hW9, hpb]; exact RowIs.made W8 40 [.int .i64 (lV : Int), .slice aoS lT cS, .slice aoV lV cV, .slice aoT lT cT])
          have HRT9 := Lib.hid (show RowIs W9 gT 49 (jv (jall P q) nT) from by rw [hW9]; exact HRT.out.alloc _)
          have HBT9 := Lib.hid (show But W7.heap.size gT W7 W9 from by rw [hW9]; exact HBT.out.more ((Below.refl _ _).alloc (Nat.le_refl _) _) hs8)
          rw [← hW9, ← hpb]
          have hpg : gT < pb := by omega
          have hpl : pb < W9.heap.size := HP9.out.lt
          clear hW9 c0 c1 c2 c3 hpb hs8
          go_loopw [84] (fun i ws => ∃ t : Nat, t ≤ lT ∧ i = .int .i64 t ∧ RowIs ws gT 49 (jv (jpart (P q) (jall P q) t) nT) ∧ But W9.heap.size gT W9 ws) (fun i _ => lT - (intOf i).toNat)
          case atStart => exact ⟨0, by omega, rfl, HRT9.out, But.refl _ _ _⟩
          case round =>
            clear HRT9 HRT HBT
            obtain ⟨t, ht, rfl, hrt, hbt⟩ := hrel
            obtain ⟨W10, rfl⟩ : ∃ W10 : World, W10 = wr := ⟨_, rfl⟩
            have HRT := Lib.hid hrt
            have HBT := Lib.hid hbt
            have hs10 := hbt.size
            have hs9 := HBT9.out.size
            by_cases htl : t < lT
            · have hbb := (HB7.out.trans (HBT9.out.below (B' := B) (by omega) (by omega))).trans (hbt.below (B' := B) (by omega) (by omega))
              rw [HBB.out] at hbb
              obtain ⟨sb, so, sx, sy, sz, rfl, hst, s0, s1, s2, -, -⟩ := HTS.out.get (Nat.le_refl _) hbb (i := t) (by rw [HLS.out]; exact htl)
              obtain ⟨tb, tof, x', rfl, hx', tc, htb, -⟩ := HTT.out.get (Nat.le_refl _) hbb (i := t) (by rw [← HLT.out]; exact htl)
              have hxin := HIA.out.1 x' (gather_mem.2 ⟨q, hqk, mem_I.2 ⟨t, by rw [← HLT.out]; exact htl, hx'.out⟩⟩)
              obtain ⟨x, rfl⟩ := Int.eq_ofNat_of_zero_le hxin.1
              have hxn : x < nT := by have := HNT.out; omega
              have HST := Lib.hid hst.out
              have HXX := Lib.hid hx'.out
              have HSJ := Lib.hid (HSB.out t htl)
              have hr1 := HBT.out.row (HBT9.out.row HR1.out (by omega) (by omega)) (by omega) (by omega)
              have hrp := HBT.out.row HP9.out hpl (by omega)
              have HBB10 := Lib.hid hbb
              have htbg : tb ≠ gT := by have := HBB.out; omega
              clear hrt hbt hst hx' hxin hbb
              go_wp2
              obtain ⟨W11, hW11⟩ : ∃ W11, W11 = W10.alloc (.cells #[.int .i64 sx, .int .i64 sy, .int .i64 sz] 49) := ⟨_, rfl⟩
              have hba : Below W10.heap.size W10 W11 := by rw [hW11]; exact (Below.refl _ _).alloc (Nat.le_refl _) _
              have HR1' := Lib.hid (hr1.below hba hr1.lt)
              have HP' := Lib.hid (hrp.below hba hrp.lt)
              have HT' := Lib.hid (HRT.out.below hba HRT.out.lt)
              have HTC := Lib.hid ((hba.cell (p := ⟨tb, tof + t, none⟩) (show tb < W10.heap.size by have := HBB10.out.size; omega)).trans tc)
              have HBB11 := Lib.hid (below_more HBB10.out hba (by have := HBB10.out.size; omega))
              have HBT11 := Lib.hid (HBT.out.more hba hs10)
              rw [← hW11]
              clear hW11 hba hr1 hrp tc s0 s1 s2 HBB10 HBT HRT
              go_loopw [90] (fun i ws => ∃ j : Nat, j ≤ 3 ∧ i = .int .i64 j ∧ RowIs ws gT 49 (jm (jpart (P q) (jall P q) t) x (mapped (P q) t) j nT) ∧ But W11.heap.size gT W11 ws) (fun i _ => 3 - (intOf i).toNat)
              case atStart => exact ⟨0, by omega, rfl, by rw [jm_zero]; exact HT'.out, But.refl _ _ _⟩
              case round =>
                clear HT'
                obtain ⟨j, hj, rfl, hrt, hbt⟩ := hrel
                obtain ⟨W12, rfl⟩ : ∃ W12 : World, W12 = wr := ⟨_, rfl⟩
                have HRT := Lib.hid hrt
                have HBT := Lib.hid hbt
                by_cases hj3 : j < 3
                · have hix := index_tri sx sy sz j hj3
                  have hsj := HSJ.out j hj3
                  rw [HST.out] at hsj
                  obtain ⟨vn, hvn⟩ := Int.eq_ofNat_of_zero_le hsj.1
                  have hvl : vn < lV := by omega
                  rw [hvn] at hix
                  have hbb := HBB11.out.trans (hbt.below (B' := w.heap.size) (by have := HBB11.out.size; omega) (by have := HBB.out; omega))
                  obtain ⟨vb, vo, u, rfl, hu, vc, hvb, -⟩ := HTV.out.get (Nat.le_refl _) hbb (i := vn) (by rw [← HLV.out]; exact hvl)
                  have HMU := Lib.hid (show tg (mapped (P q) t) j = u from by
                    have e : tg (mapped (P q) t) j = I! (P q).V (tg (T! (P q).S t) j).toNat := by
                      match j, hj3 with
                      | 0, _ => rfl
                      | 1, _ => rfl
                      | 2, _ => rfl
                    rw [e, HST.out, hvn, Int.toNat_natCast, hu.out])
                  have hr1 := hbt.row HR1'.out HR1'.out.lt (by omega)
                  have hrp := hbt.row HP'.out HP'.out.lt (by omega)
                  have k1 := hr1.cell (i := 1) rfl
                  have k2 := hrp.cell (i := 2) rfl
                  have k3 := hrp.cell (i := 3) rfl
                  have k4 := (hbt.cell (i := tof + t) (show tb < W11.heap.size by have := HBB11.out.size; omega) htbg).trans HTC.out
                  have k5 := vc
                  have hvbg : vb ≠ gT := by have := HBB.out; omega
                  have hst := grown_set W12 gT (x * 3 + j) (.int .i64 u)
                  have l1 := ((hr1.other (p := ⟨gT, x * 3 + j, none⟩) (by simp; omega) (.int .i64 u))).cell (i := 1) rfl
                  have l2 := ((hrp.other (p := ⟨gT, x * 3 + j, none⟩) (by simp; omega) (.int .i64 u))).cell (i := 2) rfl
                  have l3 := ((hrp.other (p := ⟨gT, x * 3 + j, none⟩) (by simp; omega) (.int .i64 u))).cell (i := 3) rfl
                  have l4 := (hst.cell_far ⟨tb, tof + t, none⟩ (show tb < W12.heap.size by have := hbb.size; omega) (by simpa using htbg)).trans k4
                  have l5 := (hst.cell_far ⟨vb, vo + vn, none⟩ (show vb < W12.heap.size by have := hbb.size; omega) (by simpa using hvbg)).trans k5
                  have hgc := hrt.cell (i := x * 3 + j) (iv_get _ (by omega))
                  have hgf := hrt.free (x * 3 + j)
                  have hr9 := hrt.set (x * 3 + j) (.int .i64 u)
                  rw [← HMU.out, jm_set _ _ _ _ _ hj3, HMU.out] at hr9
                  have HR9 := Lib.hid hr9
                  have HB9 := Lib.hid (hbt.grown hst (by have := hbt.size; omega) fun q' hq' => .inr (Option.some.inj hq').symm)
                  clear hrt hbt hsj hvn hbb hu vc hr1 hrp hst hr9
                  generalize (if (x * 3 + j) / 3 = x ∧ (x * 3 + j) % 3 < j then tg (mapped (P q) t) ((x * 3 + j) % 3) else tg (jpart (P q) (jall P q) t ((x * 3 + j) / 3)) ((x * 3 + j) % 3)) = old at hgc
                  go_upto_region 27 with fail
                  go_region_held3 (fun w' => w'.cell? ⟨B + 1, 1, none⟩ = some (.slice (some ⟨gT, 0, none⟩) nT nT) ∧ w'.cell? ⟨pb, 2, none⟩ = some (.slice (some ⟨vb, vo, none⟩) lV cV) ∧ w'.cell? ⟨pb, 3, none⟩ = some (.slice (some ⟨tb, tof, none⟩) lT cT) ∧
                      w'.cell? ⟨tb, tof + t, none⟩ = some (.int .i64 (x : Int)) ∧ w'.cell? ⟨vb, vo + vn, none⟩ = some (.int .i64 u)) (first | exact ⟨k1, k2, k3, k4, k5⟩ | exact ⟨l1, l2, l3, l4, l5⟩)
                    (first | fail)
                  all_goals
                    go_wp2_with fail
                    go_roundw
                    case rel => exact ⟨j + 1, by omega, by go_num, HR9.out, by first | exact HB9.out | exact HB9.out.trans ⟨rfl, rfl, rfl, Nat.le_refl _, fun _ _ _ => rfl⟩⟩
                    case measure => simp [intOf]; omega
                · obtain rfl : j = 3 := by omega
                  have HR9 := Lib.hid (show RowIs W12 gT 49 (jv (jpart (P q) (jall P q) (t + 1)) nT) from by
                    have e : jpart (P q) (jall P q) (t + 1) = updT (jpart (P q) (jall P q) t) x (mapped (P q) t) := by
                      show updT _ (I! (P q).T t).toNat _ = _
                      rw [HXX.out, Int.toNat_natCast]
                    rw [e, ← jm_three]
                    exact hrt)
                  have HB9 := Lib.hid (HBT11.out.trans (hbt.mono HBT11.out.size))
                  clear hrt hbt
                  go_wp2
                  go_roundw
                  case rel => exact ⟨t + 1, by omega, by go_num, HR9.out, HB9.out⟩
                  case measure => simp [intOf]; omega
            · obtain rfl : t = lT := by omega
              have HR9 := Lib.hid (show RowIs W10 gT 49 (jv (jall P (q + 1)) nT) from by
                show RowIs W10 gT 49 (jv (jpart (P q) (jall P q) (P q).T.length) nT)
                rw [← HLT.out]
                exact hrt)
              have HB9 := Lib.hid (HBT9.out.trans (hbt.mono HBT9.out.size))
              clear hrt hbt
              go_wp2
              go_roundw
              case rel => exact ⟨q + 1, by omega, by go_num, HR9.out, HB9.out⟩
              case measure => simp [intOf]; omega
        · obtain rfl : q = k := by omega
          have hr0 := HBT.out.row HR0.out (by omega) (by omega)
          have hr1 := HBT.out.row HR1.out (by omega) (by omega)
          have hbb := HB7.out.trans (hbt.below (B' := B) (by omega) (by omega))
          have c0 := hr1.cell (i := 0) rfl
          have c1 := hr1.cell (i := 1) rfl
          have d0 := hr0.cell (i := 0) rfl
          have d1 := hr0.cell (i := 1) rfl
          have f0 := hr0.free 0
          have f1 := hr0.free 1
          have hr9 := (hr0.set 0 (.int .i64 (nV : Int))).set 1 (.slice (some ⟨gT, 0, none⟩) nT nT)
          have k0 := hr9.cell (i := 0) rfl
          have k1 := hr9.cell (i := 1) rfl
          have HBF := Lib.hid ((hbb.setCell (p := ⟨B, 0, none⟩) (Nat.le_refl _) (.int .i64 (nV : Int))).setCell (p := ⟨B, 1, none⟩) (Nat.le_refl _) (.slice (some ⟨gT, 0, none⟩) nT nT))
          have HTF := Lib.hid ((hrt.other (p := ⟨B, 0, none⟩) (by simp; omega) (.int .i64 (nV : Int))).other (p := ⟨B, 1, none⟩) (by simp; omega) (.slice (some ⟨gT, 0, none⟩) nT nT)).jtris
          have hlen : ((List.range nT).map (jall P q)).length = nT := by simp
          clear hr0 hr1 hbb hr9 hrt hbt
          go_wp2
          refine bodyPost_ret (v := .tuple #[.agg #[.int .i64 (nV : Int), .slice (some ⟨gT, 0, none⟩) nT nT], .int .i64 0]) (by simp [results, Try.results24, go_sem, k0, k1]) rfl ⟨(nV : Int), some ⟨gT, 0, none⟩, nT, (List.range nT).map (jall P q), 0, by rw [hlen], HJC.out.symm, fun _ => ⟨by rw [HNV.out], by rw [HNT.out]⟩, fun h => absurd rfl h, HTF.out, ?_⟩
          rw [← HBB.out]
          exact HBF.out
end Go.Proofs.Ytkggphfekeiejaa

/- gypsumref13.Join: the walk. -/
import Derived.Test.YtkggphfekeiejaaPartsOff
import Derived.StillTailTactics
namespace Go.Proofs.Ytkggphfekeiejaa
set_option linter.unusedVariables false
set_option linter.unusedSimpArgs false
open Go.RowKit
/-- The state of gypsumref13.Join's last loop. -/
structure RJ (w : World) (B gT ob gt gv nT nV : Nat) (X : World) (f : Nat → Tr) (β γ : Nat → Bool) : Prop where
  r0 : RowIs X B 24 [.int .i64 0, .slice none 0 0]
  ro : RowIs X ob 24 [.int .i64 (nV : Int), .slice (some ⟨gT, 0, none⟩) nT nT]
  rT : RowIs X gT 49 (jv f nT)
  rt : RowIs X gt 4 (bv β nT)
  rv : RowIs X gv 4 (bv γ nV)
  below : Below B w X
section
variable {w X Y : World} {B gT ob gt gv nT nV : Nat} {f : Nat → Tr} {β γ : Nat → Bool}
theorem RJ.more (h : RJ w B gT ob gt gv nT nV X f β γ) (hb : Below X.heap.size X Y) : RJ w B gT ob gt gv nT nV Y f β γ :=
  ⟨h.r0.below hb h.r0.lt, h.ro.below hb h.ro.lt, h.rT.below hb h.rT.lt, h.rt.below hb h.rt.lt, h.rv.below hb h.rv.lt, below_more h.below hb (by have := h.r0.lt; omega)⟩
theorem RJ.markT (h : RJ w B gT ob gt gv nT nV X f β γ) (h1 : B < gT) (h2 : gT < ob) (h3 : ob < gt) (h4 : gt < gv) (x : Nat) : RJ w B gT ob gt gv nT nV (X.setCell ⟨gt, x, none⟩ (.bool true)) f (updB β x true) γ :=
  ⟨h.r0.other (by simp; omega) _, h.ro.other (by simp; omega) _, h.rT.other (by simp; omega) _, by rw [← bv_set]; exact h.rt.set x _, h.rv.other (by simp; omega) _, h.below.setCell (p := ⟨gt, x, none⟩) (by simp; omega) _⟩
theorem RJ.markV (h : RJ w B gT ob gt gv nT nV X f β γ) (h1 : B < gT) (h2 : gT < ob) (h3 : ob < gt) (h4 : gt < gv) (x : Nat) : RJ w B gT ob gt gv nT nV (X.setCell ⟨gv, x, none⟩ (.bool true)) f β (updB γ x true) :=
  ⟨h.r0.other (by simp; omega) _, h.ro.other (by simp; omega) _, h.rT.other (by simp; omega) _, h.rt.other (by simp; omega) _, by rw [← bv_set]; exact h.rv.set x _, h.below.setCell (p := ⟨gv, x, none⟩) (by simp; omega) _⟩
theorem RJ.lay (h : RJ w B gT ob gt gv nT nV X f β γ) (h1 : B < gT) (h2 : gT < ob) (h3 : ob < gt) (h4 : gt < gv) (x : Nat) (a b c : Int) :
    RJ w B gT ob gt gv nT nV (((X.setCell ⟨gT, x * 3, none⟩ (.int .i64 a)).setCell ⟨gT, x * 3 + 1, none⟩ (.int .i64 b)).setCell ⟨gT, x * 3 + 2, none⟩ (.int .i64 c)) (updT f x (a, b, c)) β γ :=
  ⟨((h.r0.other (by simp; omega) _).other (by simp; omega) _).other (by simp; omega) _, ((h.ro.other (by simp; omega) _).other (by simp; omega) _).other (by simp; omega) _,
    by
      have e := ((h.rT.set (x * 3) (.int .i64 a)).set (x * 3 + 1) (.int .i64 b)).set (x * 3 + 2) (.int .i64 c)
      rw [← jm_zero f x (a, b, c) nT] at e
      have e0 := jm_set f x (a, b, c) 0 nT (by omega)
      have e1 := jm_set f x (a, b, c) 1 nT (by omega)
      have e2 := jm_set f x (a, b, c) 2 nT (by omega)
      simp only [tg, Nat.add_zero] at e0 e1 e2
      rw [e0, e1, e2, jm_three] at e
      exact e,
    ((h.rt.other (by simp; omega) _).other (by simp; omega) _).other (by simp; omega) _, ((h.rv.other (by simp; omega) _).other (by simp; omega) _).other (by simp; omega) _,
    ((h.below.setCell (p := ⟨gT, x * 3, none⟩) (by simp; omega) _).setCell (p := ⟨gT, x * 3 + 1, none⟩) (by simp; omega) _).setCell (p := ⟨gT, x * 3 + 2, none⟩) (by simp; omega) _⟩
end
set_option maxRecDepth 100000 in
set_option maxHeartbeats 6000000 in
theorem rjoin_any (P : Nat → PartV) (m cap : Nat) (a : Option Addr) (w : World) (hm : m ≤ 100) (hs : Sized P m) (h : PartsOff w a P m) :
    Calls Try.prog 25 #[.slice a m cap] w fun e w' => JoinPost P m w w' e := by
  obtain ⟨b, off, F, hb, hF⟩ := h.vals
  obtain ⟨B, hB⟩ : ∃ B, B = w.heap.size := ⟨_, rfl⟩
  obtain ⟨W0, hW0⟩ : ∃ W0, W0 = w.alloc (.cells #[.int .i64 0, .slice none 0 0] 24) := ⟨_, rfl⟩
  have HB0 := Lib.hid (show Below B w W0 from by rw [hW0, hB]; exact (Below.refl _ _).alloc (Nat.le_refl _) _)
  have HR0 := Lib.hid (show RowIs W0 B 24 [.int .i64 0, .slice none 0 0] from by rw [hW0, hB]; exact RowIs.made w 24 [.int .i64 0, .slice none 0 0])
  have HBB := Lib.hid hB
  have HF0 := Lib.hid hF
  have HS := Lib.hid hs
  have HV := Lib.hid (show ∀ (X : World) (k : Nat), k < m → Below B w X → ∃ b off aoS cS aoV cV aoT cT, a = some ⟨b, off, none⟩ ∧ X.cell? ⟨b, off + k * 4, none⟩ = some (.int .i64 (P k).N) ∧ X.cell? ⟨b, off + k * 4 + 1, none⟩ = some (.slice aoS (P k).S.length cS) ∧
      X.cell? ⟨b, off + k * 4 + 2, none⟩ = some (.slice aoV (P k).V.length cV) ∧ X.cell? ⟨b, off + k * 4 + 3, none⟩ = some (.slice aoT (P k).T.length cT) ∧ TrisAt w aoS (P k).S ∧ IntsAt w aoV (P k).V ∧ IntsAt w aoT (P k).T ∧ b < B from fun X k hk hX => by
    obtain ⟨ea, hbl⟩ := hb (by omega)
    obtain ⟨⟨c0, c1, c2, c3⟩, aoS, cS, aoV, cV, aoT, cT, e0, e1, e2, e3, hS, hV, hT⟩ := hF k hk
    rw [← hB] at hbl
    rw [hB] at hX
    refine ⟨b, off, aoS, cS, aoV, cV, aoT, cT, ea, ?_, ?_, ?_, ?_, hS, hV, hT, hbl⟩
    · rw [← e0]; exact (hX.cell (p := ⟨b, _, none⟩) (by rw [← hB]; exact hbl)).trans c0
    · rw [← e1]; exact (hX.cell (p := ⟨b, _, none⟩) (by rw [← hB]; exact hbl)).trans c1
    · rw [← e2]; exact (hX.cell (p := ⟨b, _, none⟩) (by rw [← hB]; exact hbl)).trans c2
    · rw [← e3]; exact (hX.cell (p := ⟨b, _, none⟩) (by rw [← hB]; exact hbl)).trans c3)
  clear h hs hF hb HF0 F b off
  go_enter Try.func25, Try.ntmps25
  go_wp2
  rw [← hW0]
  rw [← hB]
  clear hW0 hB
  go_loopw [6, 4, 5] (fun i v4 v5 ws => ∃ k : Nat, k ≤ m ∧ i = .int .i64 k ∧ v4 = .int .i64 ((allT P k).length : Nat) ∧ v5 = .int .i64 ((allV P k).length : Nat) ∧ (allT P k).length ≤ k * 100 ∧ (allV P k).length ≤ k * 100 ∧ RightAll P k ∧ Below W0.heap.size W0 ws) (fun i _ _ _ => m - (intOf i).toNat)
  case atStart => exact ⟨0, by omega, rfl, rfl, rfl, by simp [allT, gather], by simp [allV, gather], fun k h => by omega, Below.refl _ _⟩
  case round =>
    obtain ⟨k, hk, rfl, rfl, rfl, ht1, hv1, hra, hb⟩ := hrel
    obtain ⟨W1, rfl⟩ : ∃ W1 : World, W1 = wr := ⟨_, rfl⟩
    have HRA := Lib.hid hra
    have HB := Lib.hid hb
    by_cases hlt : k < m
    · as_aux_lemma =>
      have hbw : Below B w W1 := HB0.out.trans (hb.mono (Nat.le_of_lt HR0.out.lt))
      obtain ⟨pb, po, aoS, cS, aoV, cV, aoT, cT, rfl, c0, c1, c2, c3, hS, hV, hT, hpl⟩ := HV.out W1 k hlt hbw
      obtain ⟨z1, z2, z3⟩ := HS.out k hlt
      have HT1 := Lib.hid (show (allT P (k + 1)).length = (allT P k).length + (P k).T.length from by simp [allT, gather_succ])
      have HV1 := Lib.hid (show (allV P (k + 1)).length = (allV P k).length + (P k).V.length from by simp [allV, gather_succ])
      have HTS := Lib.hid hS
      have HNR := Lib.hid (show ¬ RightP (P k).N (P k).S (P k).V.length (P k).T.length → ¬ RightAll P m from fun hn hall => hn (hall k hlt))
      obtain ⟨lT, hlT⟩ : ∃ l, l = (P k).T.length := ⟨_, rfl⟩
      obtain ⟨lV, hlV⟩ : ∃ l, l = (P k).V.length := ⟨_, rfl⟩
      obtain ⟨lS, hlS⟩ : ∃ l, l = (P k).S.length := ⟨_, rfl⟩
      obtain ⟨PN, hPN⟩ : ∃ l, l = (P k).N := ⟨_, rfl⟩
      obtain ⟨nT, hnT⟩ : ∃ l, l = (allT P k).length := ⟨_, rfl⟩
      obtain ⟨nV, hnV⟩ : ∃ l, l = (allV P k).length := ⟨_, rfl⟩
      rw [← hlS] at c1 z1
      rw [← hlV] at c2 z2 HV1 HNR
      rw [← hlT] at c3 z3 HT1 HNR
      rw [← hPN] at c0 HNR
      rw [← hnT] at HT1 ht1 ⊢
      rw [← hnV] at HV1 hv1 ⊢
      have HLS := Lib.hid hlS
      have HLV := Lib.hid hlV
      have HLT := Lib.hid hlT
      have HPN := Lib.hid hPN
      have HBW := Lib.hid hbw
      have HR1 := Lib.hid (HR0.out.below hb HR0.out.lt)
      clear hra hS hV hT hlT hlV hlS hPN hnT hnV hb hbw
      have hq0 := HR1.out.cell (i := 0) rfl
      have hq1 := HR1.out.cell (i := 1) rfl
      have hf0 := HR1.out.free 0
      have hf1 := HR1.out.free 1
      have k0 : ∀ q, ((W1.drewN q).setCell ⟨B, 0, none⟩ (.int .i64 0)).cell? ⟨B, 0, none⟩ = some (.int .i64 0) := fun q => ((HR1.out.drew q).set 0 (.int .i64 0)).cell rfl
      have k1 : ∀ q, (((W1.drewN q).setCell ⟨B, 0, none⟩ (.int .i64 0)).setCell ⟨B, 1, none⟩ (.slice none 0 0)).cell? ⟨B, 1, none⟩ = some (.slice none 0 0) := fun q => (((HR1.out.drew q).set 0 (.int .i64 0)).set 1 (.slice none 0 0)).cell rfl
      have HBF := Lib.hid (((HBW.out).setCell (p := ⟨B, 0, none⟩) (Nat.le_refl _) (.int .i64 0)).setCell (p := ⟨B, 1, none⟩) (Nat.le_refl _) (.slice none 0 0))
      by_cases g1 : lS = lT
      case neg =>
        have hb1 : ((lS : Int) != (lT : Int)) = true := by simp; omega
        have hb2 : ((lS : Int) == (lT : Int)) = false := by simp; omega
        have HF1 := Lib.hid (HNR.out fun h => g1 (HLS.out.trans h.1))
        clear g1
        go_wp2_with fail
        go_quiet (fail)
        go_wp2
        exact bodyPost_ret (v := .tuple #[.agg #[.int .i64 0, .slice none 0 0], .int .i64 1]) (by simp [results, Try.results25, go_sem, k0, k1]) rfl (joinPost_fail (jcode_1 HF1.out) (by decide) (by rw [← HBB.out]; exact HBF.out.trans ⟨rfl, rfl, rfl, Nat.le_refl _, fun _ _ => rfl⟩))
      case pos =>
      subst g1
      by_cases g2 : PN = (lV : Int)
      case neg =>
        have hb1 : (PN != (lV : Int)) = true := by simp [g2]
        have hb2 : (PN == (lV : Int)) = false := by simp [g2]
        have HF1 := Lib.hid (HNR.out fun h => g2 (h.2.1))
        clear g2
        go_wp2_with fail
        go_quiet (fail)
        go_wp2
        exact bodyPost_ret (v := .tuple #[.agg #[.int .i64 0, .slice none 0 0], .int .i64 1]) (by simp [results, Try.results25, go_sem, k0, k1]) rfl (joinPost_fail (jcode_1 HF1.out) (by decide) (by rw [← HBB.out]; exact HBF.out.trans ⟨rfl, rfl, rfl, Nat.le_refl _, fun _ _ => rfl⟩))
      case pos =>
      subst g2
      clear k0 k1 HBF
      go_wp2_with fail
      go_quiet (fail)
      go_wp2
      clear c0 c1 c2 c3 hq0 hq1 hf0 hf1
      obtain ⟨W2, hW2⟩ : ∃ W2, W2 = W1.drewN nq := ⟨_, rfl⟩
      have HB2 := Lib.hid (show Below W0.heap.size W0 W2 from by rw [hW2]; exact HB.out.trans ⟨rfl, rfl, rfl, Nat.le_refl _, fun _ _ => rfl⟩)
      rw [← hW2]
      clear hW2 HB HR1 HBW
      have HBD := Lib.hid (show RightP (lV : Int) (P k).S lV lS → RightP (P k).N (P k).S (P k).V.length (P k).T.length from by rw [← HPN.out, ← HLV.out, ← HLT.out]; exact id)
      go_loopw [7] (fun i ws => ∃ q : Nat, q ≤ lS ∧ i = .int .i64 q ∧ (∀ i, i < q → ∀ j, j < 3 → 0 ≤ tg (T! (P k).S i) j ∧ tg (T! (P k).S i) j < (lV : Int)) ∧ ws = W2) (fun i _ => lS - (intOf i).toNat)
      case atStart => exact ⟨0, by omega, rfl, fun i h => by omega, rfl⟩
      case round =>
        obtain ⟨q, hq, rfl, hall, rfl⟩ := hrel
        obtain ⟨W2, rfl⟩ : ∃ W2 : World, W2 = wr := ⟨_, rfl⟩
        have HA := Lib.hid hall
        have hbw : Below B w W2 := HB0.out.trans (HB2.out.mono (Nat.le_of_lt HR0.out.lt))
        have hbw' : Below w.heap.size w W2 := by rw [← HBB.out]; exact hbw
        obtain ⟨pb', po', aoS', cS', aoV', cV', aoT', cT', e', c0, c1, c2, c3, hS', -, -, -⟩ := HV.out W2 k hlt hbw
        cases e'
        rw [← HPN.out] at c0
        rw [← HLT.out] at c3
        rw [← HLS.out] at c1
        rw [← HLV.out] at c2
        by_cases hql : q < lS
        · have HBW := Lib.hid hbw
          clear hall hbw c2
          go_wp2
          clear c3
          go_loopw [8] (fun i ws => ∃ j : Nat, j ≤ 3 ∧ i = .int .i64 j ∧ (∀ l, l < j → 0 ≤ tg (T! (P k).S q) l ∧ tg (T! (P k).S q) l < (lV : Int)) ∧ ws = W2) (fun i _ => 3 - (intOf i).toNat)
          case atStart => exact ⟨0, by omega, rfl, fun l h => by omega, rfl⟩
          case round =>
            obtain ⟨j, hj, rfl, hdone, rfl⟩ := hrel
            obtain ⟨W2, rfl⟩ : ∃ W2 : World, W2 = wr := ⟨_, rfl⟩
            have HD := Lib.hid hdone
            clear hdone
            by_cases hj3 : j < 3
            · obtain ⟨sb, so, rfl, sc, -⟩ := (hS'.mono (Nat.le_refl _) hbw').at (i := q) (j := j) (by rw [← HLS.out]; exact hql) hj3
              obtain ⟨v, hv⟩ : ∃ v, v = tg (T! (P k).S q) j := ⟨_, rfl⟩
              rw [← hv] at sc
              by_cases g0 : v < 0
              · have hd : decide (v < 0) = true := by simpa using g0
                have HF1 := Lib.hid (HNR.out fun h => by
                  have := h.2.2 q (by rw [← HLS.out]; exact hql) j hj3
                  rw [← hv] at this
                  omega)
                have hr0 := HR0.out.below HB2.out HR0.out.lt
                have q0 := hr0.cell (i := 0) rfl
                have q1 := hr0.cell (i := 1) rfl
                have f0 := hr0.free 0
                have f1 := hr0.free 1
                have hr9 := (hr0.set 0 (.int .i64 0)).set 1 (.slice none 0 0)
                have k0 := hr9.cell (i := 0) rfl
                have k1 := hr9.cell (i := 1) rfl
                have HBF := Lib.hid ((HBW.out.setCell (p := ⟨B, 0, none⟩) (Nat.le_refl _) (.int .i64 0)).setCell (p := ⟨B, 1, none⟩) (Nat.le_refl _) (.slice none 0 0))
                clear hr0 hr9 hv g0
                go_wp2
                exact bodyPost_ret (v := .tuple #[.agg #[.int .i64 0, .slice none 0 0], .int .i64 1]) (by simp [results, Try.results25, go_sem, k0, k1]) rfl (joinPost_fail (jcode_1 HF1.out) (by decide) (by rw [← HBB.out]; exact HBF.out))
              have hd0 : decide (v < 0) = false := by simpa using g0
              by_cases g1 : v ≥ (lV : Int)
              · have hd : decide (v ≥ (lV : Int)) = true := by simpa using g1
                have HF1 := Lib.hid (HNR.out fun h => by
                  have := h.2.2 q (by rw [← HLS.out]; exact hql) j hj3
                  rw [← hv] at this
                  omega)
                have hr0 := HR0.out.below HB2.out HR0.out.lt
                have q0 := hr0.cell (i := 0) rfl
                have q1 := hr0.cell (i := 1) rfl
                have f0 := hr0.free 0
                have f1 := hr0.free 1
                have hr9 := (hr0.set 0 (.int .i64 0)).set 1 (.slice none 0 0)
                have k0 := hr9.cell (i := 0) rfl
                have k1 := hr9.cell (i := 1) rfl
                have HBF := Lib.hid ((HBW.out.setCell (p := ⟨B, 0, none⟩) (Nat.le_refl _) (.int .i64 0)).setCell (p := ⟨B, 1, none⟩) (Nat.le_refl _) (.slice none 0 0))
                clear hr0 hr9 hv g0 g1
                go_wp2
                exact bodyPost_ret (v := .tuple #[.agg #[.int .i64 0, .slice none 0 0], .int .i64 1]) (by simp [results, Try.results25, go_sem, k0, k1]) rfl (joinPost_fail (jcode_1 HF1.out) (by decide) (by rw [← HBB.out]; exact HBF.out))
              have hd1 : decide (v ≥ (lV : Int)) = false := by simpa using g1
              have HD' := Lib.hid (show ∀ l, l < j + 1 → 0 ≤ tg (T! (P k).S q) l ∧ tg (T! (P k).S q) l < (lV : Int) from fun l hl => by
                by_cases e : l = j
                · subst e; rw [← hv]; omega
                · exact HD.out l (by omega))
              clear hv g0 g1
              go_wp2
              go_roundw
              case rel => exact ⟨j + 1, by omega, by go_num, HD'.out, by trivial⟩
              case measure => simp [intOf]; omega
            · obtain rfl : j = 3 := by omega
              have HA' := Lib.hid (show ∀ i, i < q + 1 → ∀ j, j < 3 → 0 ≤ tg (T! (P k).S i) j ∧ tg (T! (P k).S i) j < (lV : Int) from fun i hi j hj => by
                by_cases e : i = q
                · subst e; exact HD.out j hj
                · exact HA.out i (by omega) j hj)
              clear c0 c1
              go_wp2
              go_roundw
              case rel => exact ⟨q + 1, by omega, by go_num, HA'.out, by trivial⟩
              case measure => simp [intOf]; omega
        · obtain rfl : q = lS := by omega
          have HRA1 := Lib.hid (show RightAll P (k + 1) from fun i hi => by
            by_cases e : i = k
            · subst e; exact HBD.out ⟨HLS.out.symm, rfl, fun i hi j hj => hall i (by rw [HLS.out]; exact hi) j hj⟩
            · exact HRA.out i (by omega))
          clear hall hbw hbw' c0 c1 hS'
          go_wp2
          go_roundw
          case rel => exact ⟨k + 1, by omega, by go_num, by rw [HT1.out]; push_cast; rfl, by rw [HV1.out]; push_cast; rfl, by rw [HT1.out]; omega, by rw [HV1.out]; omega, HRA1.out, HB2.out⟩
          case measure => simp [intOf]; omega
    · obtain rfl : k = m := by omega
      have hbw : Below B w W1 := HB0.out.trans (hb.mono (Nat.le_of_lt HR0.out.lt))
      have hbw' : Below w.heap.size w W1 := by rw [← HBB.out]; exact hbw
      have HR1 := Lib.hid (HR0.out.below hb HR0.out.lt)
      have HBW := Lib.hid hbw
      obtain ⟨m, hm'⟩ : ∃ m, m = k := ⟨_, rfl⟩
      subst hm'
      obtain ⟨nT, hnT⟩ : ∃ l, l = (allT P m).length := ⟨_, rfl⟩
      obtain ⟨nV, hnV⟩ : ∃ l, l = (allV P m).length := ⟨_, rfl⟩
      rw [← hnT] at ht1 ⊢
      rw [← hnV] at hv1 ⊢
      have HNT := Lib.hid hnT
      have HNV := Lib.hid hnV
      have HVW := Lib.hid (fun k hk => HV.out W1 k hk hbw)
      have hbs := HR1.out.lt
      clear hra hb hbw hnT hnV HB HB0 HR0
      go_wp2
      go_loopw [10] (fun i ws => ∃ k : Nat, k ≤ m ∧ i = .int .i64 k ∧ (∀ x, x ∈ gather (fun k => (P k).T) k → 0 ≤ x ∧ x < (nT : Int)) ∧ (∀ x, x ∈ gather (fun k => (P k).V) k → 0 ≤ x ∧ x < (nV : Int)) ∧ ws = W1) (fun i _ => m - (intOf i).toNat)
      case atStart => exact ⟨0, by omega, rfl, fun x h => by simp [gather] at h, fun x h => by simp [gather] at h, rfl⟩
      case round =>
        obtain ⟨i, hi, rfl, hiT, hiV, rfl⟩ := hrel
        obtain ⟨W1, rfl⟩ : ∃ W1 : World, W1 = wr := ⟨_, rfl⟩
        have HIT := Lib.hid hiT
        have HIV := Lib.hid hiV
        clear hiT hiV
        by_cases him : i < m
        · as_aux_lemma =>
          obtain ⟨pb, po, aoS, cS, aoV, cV, aoT, cT, rfl, -, -, c2, c3, -, hV, hT, -⟩ := HVW.out i him
          obtain ⟨z1, z2, z3⟩ := HS.out i him
          obtain ⟨lT, hlT⟩ : ∃ l, l = (P i).T.length := ⟨_, rfl⟩
          obtain ⟨lV, hlV⟩ : ∃ l, l = (P i).V.length := ⟨_, rfl⟩
          rw [← hlV] at c2 z2
          rw [← hlT] at c3 z3
          have HLV := Lib.hid hlV
          have HLT := Lib.hid hlT
          have HTI := Lib.hid hT
          have HVI := Lib.hid hV
          clear hlT hlV hT hV z1
          go_wp2
          go_loopw [11] (fun u ws => ∃ q : Nat, q ≤ lT ∧ u = .int .i64 q ∧ (∀ x, x ∈ ((P i).T).take q → 0 ≤ x ∧ x < (nT : Int)) ∧ ws = W1) (fun u _ => lT - (intOf u).toNat)
          case atStart => exact ⟨0, by omega, rfl, fun x h => by simp at h, rfl⟩
          case round =>
            obtain ⟨q, hq, rfl, hdone, rfl⟩ := hrel
            obtain ⟨W1, rfl⟩ : ∃ W1 : World, W1 = wr := ⟨_, rfl⟩
            have HD := Lib.hid hdone
            clear hdone
            by_cases hql : q < lT
            · have hT := HTI.out
              obtain ⟨xo, xoff, x, rfl, hx, xc, -, -⟩ := hT.get (Nat.le_refl _) hbw' (i := q) (by rw [← HLT.out]; exact hql)
              have HM := Lib.hid (show x ∈ gather (fun k => (P k).T) m from gather_mem.2 ⟨i, him, mem_I.2 ⟨q, by rw [← HLT.out]; exact hql, hx.out⟩⟩)
              have HXI := Lib.hid hx.out
              clear hx
              by_cases g0 : x < 0
              · have hd : decide (x < 0) = true := by simpa using g0
                have HF1 := Lib.hid (show ¬ InAll P m from fun h => by have := (h.1 x HM.out).1; omega)
                clear g0
                have q0 := HR1.out.cell (i := 0) rfl
                have q1 := HR1.out.cell (i := 1) rfl
                have f0 := HR1.out.free 0
                have f1 := HR1.out.free 1
                have hr9 := (HR1.out.set 0 (.int .i64 0)).set 1 (.slice none 0 0)
                have k0 := hr9.cell (i := 0) rfl
                have k1 := hr9.cell (i := 1) rfl
                have HBF := Lib.hid ((HBW.out.setCell (p := ⟨B, 0, none⟩) (Nat.le_refl _) (.int .i64 0)).setCell (p := ⟨B, 1, none⟩) (Nat.le_refl _) (.slice none 0 0))
                clear hr9
                go_wp2
                exact bodyPost_ret (v := .tuple #[.agg #[.int .i64 0, .slice none 0 0], .int .i64 2]) (by simp [results, Try.results25, go_sem, k0, k1]) rfl (joinPost_fail (jcode_2 HRA.out HF1.out) (by decide) (by rw [← HBB.out]; exact HBF.out))
              · have hd : decide (x < 0) = false := by simpa using g0
                by_cases g1 : x ≥ (nT : Int)
                · have hd1 : decide (x ≥ (nT : Int)) = true := by simpa using g1
                  have HF1 := Lib.hid (show ¬ InAll P m from fun h => by have h1 := (h.1 x HM.out).2; rw [← HNT.out] at h1; omega)
                  clear g0 g1
                  have q0 := HR1.out.cell (i := 0) rfl
                  have q1 := HR1.out.cell (i := 1) rfl
                  have f0 := HR1.out.free 0
                  have f1 := HR1.out.free 1
                  have hr9 := (HR1.out.set 0 (.int .i64 0)).set 1 (.slice none 0 0)
                  have k0 := hr9.cell (i := 0) rfl
                  have k1 := hr9.cell (i := 1) rfl
                  have HBF := Lib.hid ((HBW.out.setCell (p := ⟨B, 0, none⟩) (Nat.le_refl _) (.int .i64 0)).setCell (p := ⟨B, 1, none⟩) (Nat.le_refl _) (.slice none 0 0))
                  clear hr9
                  go_wp2
                  exact bodyPost_ret (v := .tuple #[.agg #[.int .i64 0, .slice none 0 0], .int .i64 2]) (by simp [results, Try.results25, go_sem, k0, k1]) rfl (joinPost_fail (jcode_2 HRA.out HF1.out) (by decide) (by rw [← HBB.out]; exact HBF.out))
                · have hd1 : decide (x ≥ (nT : Int)) = false := by simpa using g1
                  have HD' := Lib.hid (show ∀ z, z ∈ ((P i).T).take (q + 1) → 0 ≤ z ∧ z < (nT : Int) from fun z hz => by
                    rw [List.take_add_one, I!_get (by rw [← HLT.out]; exact hql), HXI.out] at hz
                    rcases List.mem_append.1 hz with h | h
                    · exact HD.out z h
                    · simp at h; subst h; omega)
                  clear g0 g1
                  go_wp2
                  go_roundw
                  case rel => exact ⟨q + 1, by omega, by go_num, HD'.out, by trivial⟩
                  case measure => simp [intOf]; omega
            · obtain rfl : q = lT := by omega
              have HIT1 := Lib.hid (show ∀ x, x ∈ gather (fun k => (P k).T) (i + 1) → 0 ≤ x ∧ x < (nT : Int) from fun x hx => by
                rw [gather_succ] at hx
                rcases List.mem_append.1 hx with h | h
                · exact HIT.out x h
                · exact HD.out x (by rw [HLT.out, List.take_length]; exact h))
              clear HD HIT
              go_wp2
              go_loopw [12] (fun u ws => ∃ q : Nat, q ≤ lV ∧ u = .int .i64 q ∧ (∀ x, x ∈ ((P i).V).take q → 0 ≤ x ∧ x < (nV : Int)) ∧ ws = W1) (fun u _ => lV - (intOf u).toNat)
              case atStart => exact ⟨0, by omega, rfl, fun x h => by simp at h, rfl⟩
              case round =>
                obtain ⟨q, hq, rfl, hdone, rfl⟩ := hrel
                obtain ⟨W1, rfl⟩ : ∃ W1 : World, W1 = wr := ⟨_, rfl⟩
                have HD := Lib.hid hdone
                clear hdone
                by_cases hql : q < lV
                · have hV := HVI.out
                  obtain ⟨xo, xoff, x, rfl, hx, xc, -, -⟩ := hV.get (Nat.le_refl _) hbw' (i := q) (by rw [← HLV.out]; exact hql)
                  have HM := Lib.hid (show x ∈ gather (fun k => (P k).V) m from gather_mem.2 ⟨i, him, mem_I.2 ⟨q, by rw [← HLV.out]; exact hql, hx.out⟩⟩)
                  have HXI := Lib.hid hx.out
                  clear hx
                  by_cases g0 : x < 0
                  · have hd : decide (x < 0) = true := by simpa using g0
                    have HF1 := Lib.hid (show ¬ InAll P m from fun h => by have := (h.2 x HM.out).1; omega)
                    clear g0
                    have q0 := HR1.out.cell (i := 0) rfl
                    have q1 := HR1.out.cell (i := 1) rfl
                    have f0 := HR1.out.free 0
                    have f1 := HR1.out.free 1
                    have hr9 := (HR1.out.set 0 (.int .i64 0)).set 1 (.slice none 0 0)
                    have k0 := hr9.cell (i := 0) rfl
                    have k1 := hr9.cell (i := 1) rfl
                    have HBF := Lib.hid ((HBW.out.setCell (p := ⟨B, 0, none⟩) (Nat.le_refl _) (.int .i64 0)).setCell (p := ⟨B, 1, none⟩) (Nat.le_refl _) (.slice none 0 0))
                    clear hr9
                    go_wp2
                    exact bodyPost_ret (v := .tuple #[.agg #[.int .i64 0, .slice none 0 0], .int .i64 2]) (by simp [results, Try.results25, go_sem, k0, k1]) rfl (joinPost_fail (jcode_2 HRA.out HF1.out) (by decide) (by rw [← HBB.out]; exact HBF.out))
                  · have hd : decide (x < 0) = false := by simpa using g0
                    by_cases g1 : x ≥ (nV : Int)
                    · have hd1 : decide (x ≥ (nV : Int)) = true := by simpa using g1
                      have HF1 := Lib.hid (show ¬ InAll P m from fun h => by have h1 := (h.2 x HM.out).2; rw [← HNV.out] at h1; omega)
                      clear g0 g1
                      have q0 := HR1.out.cell (i := 0) rfl
                      have q1 := HR1.out.cell (i := 1) rfl
                      have f0 := HR1.out.free 0
                      have f1 := HR1.out.free 1
                      have hr9 := (HR1.out.set 0 (.int .i64 0)).set 1 (.slice none 0 0)
                      have k0 := hr9.cell (i := 0) rfl
                      have k1 := hr9.cell (i := 1) rfl
                      have HBF := Lib.hid ((HBW.out.setCell (p := ⟨B, 0, none⟩) (Nat.le_refl _) (.int .i64 0)).setCell (p := ⟨B, 1, none⟩) (Nat.le_refl _) (.slice none 0 0))
                      clear hr9
                      go_wp2
                      exact bodyPost_ret (v := .tuple #[.agg #[.int .i64 0, .slice none 0 0], .int .i64 2]) (by simp [results, Try.results25, go_sem, k0, k1]) rfl (joinPost_fail (jcode_2 HRA.out HF1.out) (by decide) (by rw [← HBB.out]; exact HBF.out))
                    · have hd1 : decide (x ≥ (nV : Int)) = false := by simpa using g1
                      have HD' := Lib.hid (show ∀ z, z ∈ ((P i).V).take (q + 1) → 0 ≤ z ∧ z < (nV : Int) from fun z hz => by
                        rw [List.take_add_one, I!_get (by rw [← HLV.out]; exact hql), HXI.out] at hz
                        rcases List.mem_append.1 hz with h | h
                        · exact HD.out z h
                        · simp at h; subst h; omega)
                      clear g0 g1
                      go_wp2
                      go_roundw
                      case rel => exact ⟨q + 1, by omega, by go_num, HD'.out, by trivial⟩
                      case measure => simp [intOf]; omega
                · obtain rfl : q = lV := by omega
                  have HIV1 := Lib.hid (show ∀ x, x ∈ gather (fun k => (P k).V) (i + 1) → 0 ≤ x ∧ x < (nV : Int) from fun x hx => by
                    rw [gather_succ] at hx
                    rcases List.mem_append.1 hx with h | h
                    · exact HIV.out x h
                    · exact HD.out x (by rw [HLV.out, List.take_length]; exact h))
                  go_wp2
                  go_roundw
                  case rel => exact ⟨i + 1, by omega, by go_num, HIT1.out, HIV1.out, by trivial⟩
                  case measure => simp [intOf]; omega
        · obtain rfl : i = m := by omega
          have HIA := Lib.hid (show InAll P i from ⟨by rw [← HNT.out]; exact HIT.out, by rw [← HNV.out]; exact HIV.out⟩)
          clear HIT HIV HVW
          obtain ⟨i4, hi4, hy0, hy1, hy2⟩ := info_parts info49
          obtain ⟨i1, hi1, hu0, hu1, hu2⟩ := info_parts info4
          have hs1 : B + 1 ≤ W1.heap.size := hbs
          obtain ⟨gT, hgT⟩ : ∃ g, g = W1.heap.size := ⟨_, rfl⟩
          go_wp2_with (at_make; refine wpList_make_full _ rfl _ _ _ rfl (B + 1) 49 i4 (.agg #[.int .i64 0, .int .i64 0, .int .i64 0]) 3 (by kernel_rfl) hi4 hy0 hy1 _ _ _ _ nT rfl rfl rfl rfl (by rw [hy2]; omega) (by unfold maxLen; omega) hs1 ?_)
          intro w2 hown hgr
          rw [← hgT] at hown ⊢
          have hrow : RowIs w2 gT 49 (jv (fun _ => (0, 0, 0)) nT) := by rw [← madeCells_jv]; exact RowIs.of_owns hown
          have hb2 : Below W1.heap.size W1 w2 := (Below.refl _ _).grown hgr (Nat.le_refl _) (by simp)
          obtain ⟨ob, hob⟩ : ∃ g, g = w2.heap.size := ⟨_, rfl⟩
          have hba : Below w2.heap.size w2 (w2.alloc (.cells #[.int .i64 (nV : Int), .slice (some ⟨gT, 0, none⟩) nT nT] 24)) := (Below.refl _ _).alloc (Nat.le_refl _) _
          have HR3 := Lib.hid ((HR1.out.after hb2).after hba)
          have HT3 := Lib.hid (hrow.after hba)
          have HO3 := Lib.hid (show RowIs (w2.alloc (.cells #[.int .i64 (nV : Int), .slice (some ⟨gT, 0, none⟩) nT nT] 24)) ob 24 [.int .i64 (nV : Int), .slice (some ⟨gT, 0, none⟩) nT nT] from by rw [hob]; exact RowIs.made w2 24 [.int .i64 (nV : Int), .slice (some ⟨gT, 0, none⟩) nT nT])
          have HB3 := Lib.hid (below_more (below_more HBW.out hb2 (by omega)) hba (by have := hb2.size; omega))
          have ho1 : gT < ob := by rw [hob]; exact hrow.lt
          have ho0 : B < gT := by omega
          have hos : ob + 1 = (w2.alloc (.cells #[.int .i64 (nV : Int), .slice (some ⟨gT, 0, none⟩) nT nT] 24)).heap.size := by rw [hob]; simp
          clear hown hgr hrow hb2 hba HR1 HBW hi4 hy0 hy1 hy2 hgT
          go_wp2_with (at_make; refine wpList_make_full _ rfl _ _ _ rfl (B + 1) 4 i1 (.bool false) 1 (by kernel_rfl) hi1 hu0 hu1 _ _ _ _ nT rfl rfl rfl rfl (by rw [hu2]; omega) (by unfold maxLen; omega) (by simp; omega) ?_)
          intro w4 hown hgr
          rw [madeCells_bv] at hown
          have hrow := RowIs.of_owns hown
          have hb4 : Below (w2.alloc (.cells #[.int .i64 (nV : Int), .slice (some ⟨gT, 0, none⟩) nT nT] 24)).heap.size (w2.alloc (.cells #[.int .i64 (nV : Int), .slice (some ⟨gT, 0, none⟩) nT nT] 24)) w4 := (Below.refl _ _).grown hgr (Nat.le_refl _) (by simp)
          rw [← hob] at hrow
          have HR4 := Lib.hid (HR3.out.after hb4)
          have HT4 := Lib.hid (HT3.out.after hb4)
          have HO4 := Lib.hid (HO3.out.after hb4)
          have HM4 := Lib.hid hrow
          have HB4 := Lib.hid (below_more HB3.out hb4 (by omega))
          have hs4 : ob + 1 < w4.heap.size := hrow.lt
          obtain ⟨gv, hgv⟩ : ∃ g, g = w4.heap.size := ⟨_, rfl⟩
          obtain ⟨gt, hgt⟩ : ∃ g, g = ob + 1 := ⟨_, rfl⟩
          rw [← hgt] at HM4 hs4
          clear hown hgr hrow hb4 HR3 HT3 HO3 HB3
          go_wp2_with (at_make; refine wpList_make_full _ rfl _ _ _ rfl (B + 1) 4 i1 (.bool false) 1 (by kernel_rfl) hi1 hu0 hu1 _ _ _ _ nV rfl rfl rfl rfl (by rw [hu2]; omega) (by unfold maxLen; omega) (by omega) ?_)
          intro w5 hown hgr
          rw [madeCells_bv] at hown
          have hrow := RowIs.of_owns hown
          have hb5 : Below w4.heap.size w4 w5 := (Below.refl _ _).grown hgr (Nat.le_refl _) (by simp)
          have HJ := Lib.hid (show RJ w B gT ob gt gv nT nV w5 (jall P 0) (fun _ => false) (fun _ => false) from
            ⟨HR4.out.after hb5, HO4.out.after hb5, HT4.out.after hb5, HM4.out.after hb5, by rw [hgv]; exact hrow, below_more HB4.out hb5 (by omega)⟩)
          have h34 : ob < gt := by omega
          have h45 : gt < gv := by omega
          rw [← hgv]
          try rw [← hob]
          try rw [← hgt]
          clear hown hgr hrow hb5 HR4 HT4 HO4 HM4 HB4 hi1 hu0 hu1 hu2 hgv hgt hos hob hs4 hbs hs1 hbw'
          go_wp2
          go_loopw [16] (fun u ws => ∃ (k : Nat) (β γ : Nat → Bool), k ≤ i ∧ u = .int .i64 k ∧ RJ w B gT ob gt gv nT nV ws (jall P k) β γ ∧ Marks β (gather (fun k => (P k).T) k) ∧ Marks γ (gather (fun k => (P k).V) k)) (fun u _ => i - (intOf u).toNat)
          case atStart => exact ⟨0, _, _, by omega, rfl, HJ.out, Marks.start, Marks.start⟩
          case round =>
            clear HJ
            obtain ⟨k, β, γ, hk, rfl, hrj, hmb, hmg⟩ := hrel
            obtain ⟨W6, rfl⟩ : ∃ W6 : World, W6 = wr := ⟨_, rfl⟩
            have HRJ := Lib.hid hrj
            have HMB := Lib.hid hmb
            have HMG := Lib.hid hmg
            clear hmb hmg
            by_cases hki : k < i
            · obtain ⟨pb, po, aoS, cS, aoV, cV, aoT, cT, rfl, -, -, -, -, -, -, -, hpl⟩ := HV.out W6 k hki hrj.below
              obtain ⟨z1, z2, z3⟩ := HS.out k hki
              obtain ⟨g1, g2, g3⟩ := HRA.out k hki
              obtain ⟨lT, hlT⟩ : ∃ l, l = (P k).T.length := ⟨_, rfl⟩
              obtain ⟨lV, hlV⟩ : ∃ l, l = (P k).V.length := ⟨_, rfl⟩
              rw [← hlV] at z2
              rw [← hlT] at z3
              have HLT := Lib.hid hlT
              have HLV := Lib.hid hlV
              have HLS := Lib.hid (show (P k).S.length = lT from by rw [g1, ← hlT])
              have HSB := Lib.hid (show ∀ i, i < lT → ∀ j, j < 3 → 0 ≤ tg (T! (P k).S i) j ∧ tg (T! (P k).S i) j < (lV : Int) from fun i hi j hj => by
                have := g3 i (by rw [g1, ← hlT]; exact hi) j hj
                rw [g2, ← hlV] at this
                exact this)
              have HVX := Lib.hid (show ∀ X, Below B w X → ∃ aoS cS aoV cV aoT cT, X.cell? ⟨pb, po + k * 4 + 1, none⟩ = some (.slice aoS lT cS) ∧ X.cell? ⟨pb, po + k * 4 + 2, none⟩ = some (.slice aoV lV cV) ∧ X.cell? ⟨pb, po + k * 4 + 3, none⟩ = some (.slice aoT lT cT) ∧ TrisAt w aoS (P k).S ∧ IntsAt w aoV (P k).V ∧ IntsAt w aoT (P k).T ∧ Below w.heap.size w X from fun X hX => by
                obtain ⟨pb', po', aoS, cS, aoV, cV, aoT, cT, e', -, c1, c2, c3, hS, hV, hT, -⟩ := HV.out X k hki hX
                cases e'
                rw [g1, ← hlT] at c1
                rw [← hlV] at c2
                rw [← hlT] at c3
                exact ⟨aoS, cS, aoV, cV, aoT, cT, c1, c2, c3, hS, hV, hT, by rw [← HBB.out]; exact hX⟩)
              obtain ⟨aoS, cS, aoV, cV, aoT, cT, c1, c2, c3, -, -, -, -⟩ := HVX.out W6 hrj.below
              clear hrj z1 g1 g2 g3 hlT hlV
              go_wp2
              clear c1 c2 c3
              go_loopw [17] (fun u ws => ∃ (q : Nat) (β : Nat → Bool), q ≤ lT ∧ u = .int .i64 q ∧ RJ w B gT ob gt gv nT nV ws (jpart (P k) (jall P k) q) β γ ∧ Marks β (pre (fun k => (P k).T) k q)) (fun u _ => lT - (intOf u).toNat)
              case atStart => exact ⟨0, β, by omega, rfl, HRJ.out, by rw [pre_zero]; exact HMB.out⟩
              case round =>
                clear HRJ HMB β
                obtain ⟨q, β, hq, rfl, hrj, hmb⟩ := hrel
                obtain ⟨W7, rfl⟩ : ∃ W7 : World, W7 = wr := ⟨_, rfl⟩
                obtain ⟨aoS, cS, aoV, cV, aoT, cT, c1, c2, c3, hS, hV, hT, hbx⟩ := HVX.out W7 hrj.below
                by_cases hql : q < lT
                · obtain ⟨xo, xoff, x', rfl, hx, xc, -, -⟩ := hT.get (Nat.le_refl _) hbx (i := q) (by rw [← HLT.out]; exact hql)
                  have hxin := HIA.out.1 x' (gather_mem.2 ⟨k, hki, mem_I.2 ⟨q, by rw [← HLT.out]; exact hql, hx.out⟩⟩)
                  obtain ⟨x, rfl⟩ := Int.eq_ofNat_of_zero_le hxin.1
                  have hxn : x < nT := by have := HNT.out; omega
                  have HXI := Lib.hid hx.out
                  have HP := Lib.hid (show pre (fun k => (P k).T) k (q + 1) = pre (fun k => (P k).T) k q ++ [(x : Int)] from by rw [pre_succ (fun k => (P k).T) (by show q < (P k).T.length; rw [← HLT.out]; exact hql)]; simp only [hx.out])
                  have tc := hrj.rt.cell (bv_get β hxn)
                  have tf := hrj.rt.free x
                  clear hx hxin
                  cases hbv : β x
                  case true =>
                    rw [hbv] at tc
                    have HF1 := Lib.hid (show ¬ OnceAll P i from fun h => hmb.no hbv (by rw [← HP.out]; exact h.1.sublist (pre_sub hki)))
                    have q0 := hrj.r0.cell (i := 0) rfl
                    have q1 := hrj.r0.cell (i := 1) rfl
                    have f0 := hrj.r0.free 0
                    have f1 := hrj.r0.free 1
                    have hr9 := (hrj.r0.set 0 (.int .i64 0)).set 1 (.slice none 0 0)
                    have k0 := hr9.cell (i := 0) rfl
                    have k1 := hr9.cell (i := 1) rfl
                    have HBF := Lib.hid ((hrj.below.setCell (p := ⟨B, 0, none⟩) (Nat.le_refl _) (.int .i64 0)).setCell (p := ⟨B, 1, none⟩) (Nat.le_refl _) (.slice none 0 0))
                    clear hr9 hrj hmb hbx
                    go_wp2
                    exact bodyPost_ret (v := .tuple #[.agg #[.int .i64 0, .slice none 0 0], .int .i64 9]) (by simp [results, Try.results25, go_sem, k0, k1]) rfl (joinPost_fail (jcode_9 HRA.out HIA.out HF1.out) (by decide) (by rw [← HBB.out]; exact HBF.out))
                  case false =>
                    rw [hbv] at tc
                    have HMB := Lib.hid (show Marks (updB β x true) (pre (fun k => (P k).T) k (q + 1)) from by rw [HP.out]; exact hmb.step hbv)
                    have hrj8 := hrj.markT ho0 ho1 h34 h45 x
                    obtain ⟨aoS8, cS8, aoV8, cV8, aoT8, cT8, d1, d2, d3, hS8, hV8, hT8, hbx8⟩ := HVX.out _ hrj8.below
                    obtain ⟨sb, so, sx, sy, sz, rfl, hst, s0, s1, s2, -, -⟩ := hS8.get (Nat.le_refl _) hbx8 (i := q) (by rw [HLS.out]; exact hql)
                    have HSTT := Lib.hid hst.out
                    have HRJ8 := Lib.hid hrj8
                    clear hrj hmb hbv hbx hrj8 hbx8 d2 d3 hst c1 c2 hS hV hV8 hT8 hS8
                    have n0 := HSB.out q hql 0 (by omega)
                    have n1 := HSB.out q hql 1 (by omega)
                    have n2 := HSB.out q hql 2 (by omega)
                    rw [HSTT.out] at n0 n1 n2
                    simp only [tg] at n0 n1 n2
                    obtain ⟨v0, rfl⟩ := Int.eq_ofNat_of_zero_le n0.1
                    obtain ⟨v1, rfl⟩ := Int.eq_ofNat_of_zero_le n1.1
                    obtain ⟨v2, rfl⟩ := Int.eq_ofNat_of_zero_le n2.1
                    have b0 : v0 < lV := by omega
                    have b1 : v1 < lV := by omega
                    have b2 : v2 < lV := by omega
                    clear n0 n1 n2
                    go_upto_region 44 with fail
                    clear c3 xc tc tf d1 s0 s1 s2
                    obtain ⟨xb, hxb⟩ : ∃ xb, xb = W7.heap.size := ⟨_, rfl⟩
                    obtain ⟨W9, hW9⟩ : ∃ W9, W9 = (W7.setCell ⟨gt, x, none⟩ (.bool true)).alloc (.cells #[.int .i64 (v0 : Int), .int .i64 (v1 : Int), .int .i64 (v2 : Int)] 49) := ⟨_, rfl⟩
                    have HRJ9 := Lib.hid (show RJ w B gT ob gt gv nT nV W9 (jpart (P k) (jall P k) q) (updB β x true) γ from by rw [hW9]; exact HRJ8.out.more ((Below.refl _ _).alloc (Nat.le_refl _) _))
                    have HXB := Lib.hid (show RowIs W9 xb 49 [.int .i64 (v0 : Int), .int .i64 (v1 : Int), .int .i64 (v2 : Int)] from by
                      rw [hW9, hxb]
                      have := RowIs.made (W7.setCell ⟨gt, x, none⟩ (.bool true)) 49 [.int .i64 (v0 : Int), .int .i64 (v1 : Int), .int .i64 (v2 : Int)]
                      simpa [World.setCell] using this)
                    have hgx : gT < xb := by have := HRJ8.out.rT.lt; simp [World.setCell] at this; omega
                    try rw [← hW9]
                    try rw [← hxb]
                    obtain ⟨aoS9, cS9, aoV9, cV9, aoT9, cT9, -, d2, d3, -, hV9, hT9, hb9⟩ := HVX.out W9 HRJ9.out.below
                    obtain ⟨yo, yoff, y', rfl, hy, yc, hyl, -⟩ := hT9.get (Nat.le_refl _) hb9 (i := q) (by rw [← HLT.out]; exact hql)
                    obtain rfl : y' = (x : Int) := hy.out.symm.trans HXI.out
                    obtain ⟨vb, vo, u0, rfl, hu0, e0, hvl, -⟩ := hV9.get (Nat.le_refl _) hb9 (i := v0) (by rw [← HLV.out]; exact b0)
                    obtain ⟨vb', vo', u1, eq, hu1, e1, -, -⟩ := hV9.get (Nat.le_refl _) hb9 (i := v1) (by rw [← HLV.out]; exact b1)
                    cases eq
                    obtain ⟨vb', vo', u2, eq, hu2, e2, -, -⟩ := hV9.get (Nat.le_refl _) hb9 (i := v2) (by rw [← HLV.out]; exact b2)
                    cases eq
                    have HMP := Lib.hid (show mapped (P k) q = (u0, u1, u2) from by
                      unfold mapped
                      rw [HSTT.out]
                      simp only [Int.toNat_natCast]
                      rw [hu0.out, hu1.out, hu2.out])
                    have k1 := HRJ9.out.ro.cell (i := 1) rfl
                    have x0 := HXB.out.cell (i := 0) rfl
                    have x1 := HXB.out.cell (i := 1) rfl
                    have x2 := HXB.out.cell (i := 2) rfl
                    have hxl := HXB.out.lt
                    have hol := HRJ9.out.ro.lt
                    have hyn : yo ≠ gT := by have := HBB.out; omega
                    have hvn : vb ≠ gT := by have := HBB.out; omega
                    have hs9 : B < W9.heap.size := by omega
                    have hwB : w.heap.size ≤ B := by have := HBB.out; omega
                    have HRJe : mapped (P k) q = (u0, u1, u2) → jpart (P k) (jall P k) (q + 1) = updT (jpart (P k) (jall P k) q) x (u0, u1, u2) := fun e => by
                      show updT _ (I! (P k).T q).toNat _ = _
                      rw [HXI.out, Int.toNat_natCast, e]
                    have HRJF := Lib.hid (show RJ w B gT ob gt gv nT nV _ (jpart (P k) (jall P k) (q + 1)) (updB β x true) γ from by rw [HRJe HMP.out]; exact HRJ9.out.lay ho0 ho1 h34 h45 x u0 u1 u2)
                    have HRJG := Lib.hid (show RJ w B gT ob gt gv nT nV _ (jpart (P k) (jall P k) (q + 1)) (updB β x true) γ from by rw [HRJe HMP.out]; exact (HRJ9.out.more (Below.refl _ _).drew).lay ho0 ho1 h34 h45 x u0 u1 u2)
                    have t0 := HRJ9.out.rT.cell (i := x * 3) (iv_get _ (by omega))
                    have t1 := HRJ9.out.rT.cell (i := x * 3 + 1) (iv_get _ (by omega))
                    have t2 := HRJ9.out.rT.cell (i := x * 3 + 2) (iv_get _ (by omega))
                    have tf0 := HRJ9.out.rT.free (x * 3)
                    have tf1 := HRJ9.out.rT.free (x * 3 + 1)
                    have tf2 := HRJ9.out.rT.free (x * 3 + 2)
                    obtain ⟨o0, ho0'⟩ : ∃ o, W9.cell? ⟨gT, x * 3, none⟩ = some (.int .i64 o) := ⟨_, t0⟩
                    obtain ⟨o1, ho1'⟩ : ∃ o, W9.cell? ⟨gT, x * 3 + 1, none⟩ = some (.int .i64 o) := ⟨_, t1⟩
                    obtain ⟨o2, ho2'⟩ : ∃ o, W9.cell? ⟨gT, x * 3 + 2, none⟩ = some (.int .i64 o) := ⟨_, t2⟩
                    clear t0 t1 t2 HRJe hW9 hxb hV9 hT9 hb9 hy hu0 hu1 hu2 HRJ8 HRJ9 HXB
                    go_still_tail 39, (by kernel_rfl)
                    clear k1 x0 x1 x2 d2 d3 yc e0 e1 e2
                    go_wp2_with fail
                    go_roundw
                    case rel => exact ⟨q + 1, _, by omega, by go_num, by first | exact HRJG.out | exact HRJF.out | exact HRJF.out.more (Below.refl _ _).drew, HMB.out⟩
                    case measure => simp [intOf]; omega
                · obtain rfl : q = lT := by omega
                  have HMB := Lib.hid (show Marks β (gather (fun k => (P k).T) (k + 1)) from by rw [← pre_full, ← HLT.out]; exact hmb)
                  have HRJ := Lib.hid (show RJ w B gT ob gt gv nT nV W7 (jall P (k + 1)) β γ from by
                    show RJ w B gT ob gt gv nT nV W7 (jpart (P k) (jall P k) (P k).T.length) β γ
                    rw [← HLT.out]; exact hrj)
                  clear hrj hmb hbx c1 hS hV hT
                  go_wp2
                  clear c2 c3
                  go_loopw [19] (fun u ws => ∃ (q : Nat) (γ : Nat → Bool), q ≤ lV ∧ u = .int .i64 q ∧ RJ w B gT ob gt gv nT nV ws (jall P (k + 1)) β γ ∧ Marks γ (pre (fun k => (P k).V) k q)) (fun u _ => lV - (intOf u).toNat)
                  case atStart => exact ⟨0, γ, by omega, rfl, HRJ.out, by rw [pre_zero]; exact HMG.out⟩
                  case round =>
                    clear HRJ HMG
                    obtain ⟨q, γ, hq, rfl, hrj, hmb⟩ := hrel
                    obtain ⟨W7, rfl⟩ : ∃ W7 : World, W7 = wr := ⟨_, rfl⟩
                    obtain ⟨aoS, cS, aoV, cV, aoT, cT, c1, c2, c3, hS, hV, hT, hbx⟩ := HVX.out W7 hrj.below
                    by_cases hql : q < lV
                    · obtain ⟨xo, xoff, x', rfl, hx, xc, -, -⟩ := hV.get (Nat.le_refl _) hbx (i := q) (by rw [← HLV.out]; exact hql)
                      have hxin := HIA.out.2 x' (gather_mem.2 ⟨k, hki, mem_I.2 ⟨q, by rw [← HLV.out]; exact hql, hx.out⟩⟩)
                      obtain ⟨x, rfl⟩ := Int.eq_ofNat_of_zero_le hxin.1
                      have hxn : x < nV := by have := HNV.out; omega
                      have HP := Lib.hid (show pre (fun k => (P k).V) k (q + 1) = pre (fun k => (P k).V) k q ++ [(x : Int)] from by rw [pre_succ (fun k => (P k).V) (by show q < (P k).V.length; rw [← HLV.out]; exact hql)]; simp only [hx.out])
                      have tc := hrj.rv.cell (bv_get γ hxn)
                      have tf := hrj.rv.free x
                      clear hx hxin
                      cases hbv : γ x
                      case true =>
                        rw [hbv] at tc
                        have HF1 := Lib.hid (show ¬ OnceAll P i from fun h => hmb.no hbv (by rw [← HP.out]; exact h.2.sublist (pre_sub hki)))
                        have q0 := hrj.r0.cell (i := 0) rfl
                        have q1 := hrj.r0.cell (i := 1) rfl
                        have f0 := hrj.r0.free 0
                        have f1 := hrj.r0.free 1
                        have hr9 := (hrj.r0.set 0 (.int .i64 0)).set 1 (.slice none 0 0)
                        have k0 := hr9.cell (i := 0) rfl
                        have k1 := hr9.cell (i := 1) rfl
                        have HBF := Lib.hid ((hrj.below.setCell (p := ⟨B, 0, none⟩) (Nat.le_refl _) (.int .i64 0)).setCell (p := ⟨B, 1, none⟩) (Nat.le_refl _) (.slice none 0 0))
                        clear hr9 hrj hmb hbx
                        go_wp2
                        exact bodyPost_ret (v := .tuple #[.agg #[.int .i64 0, .slice none 0 0], .int .i64 9]) (by simp [results, Try.results25, go_sem, k0, k1]) rfl (joinPost_fail (jcode_9 HRA.out HIA.out HF1.out) (by decide) (by rw [← HBB.out]; exact HBF.out))
                      case false =>
                        rw [hbv] at tc
                        have HMG := Lib.hid (show Marks (updB γ x true) (pre (fun k => (P k).V) k (q + 1)) from by rw [HP.out]; exact hmb.step hbv)
                        have HRJ8 := Lib.hid (hrj.markV ho0 ho1 h34 h45 x)
                        clear hrj hmb hbv hbx c1 c3 hS hV hT
                        go_wp2
                        go_roundw
                        case rel => exact ⟨q + 1, _, by omega, by go_num, HRJ8.out, HMG.out⟩
                        case measure => simp [intOf]; omega
                    · obtain rfl : q = lV := by omega
                      have HMG := Lib.hid (show Marks γ (gather (fun k => (P k).V) (k + 1)) from by rw [← pre_full, ← HLV.out]; exact hmb)
                      have HRJ := Lib.hid hrj
                      clear hrj hmb hbx c1 c3 hS hV hT
                      go_wp2
                      go_roundw
                      case rel => exact ⟨k + 1, _, _, by omega, by go_num, HRJ.out, HMB.out, HMG.out⟩
                      case measure => simp [intOf]; omega
            · obtain rfl : k = i := by omega
              have HJC := Lib.hid (jcode_0 HRA.out HIA.out ⟨HMB.out.2, HMG.out.2⟩)
              have c0 := hrj.ro.cell (i := 0) rfl
              have c1 := hrj.ro.cell (i := 1) rfl
              have d0 := hrj.r0.cell (i := 0) rfl
              have d1 := hrj.r0.cell (i := 1) rfl
              have f0 := hrj.r0.free 0
              have f1 := hrj.r0.free 1
              have hr9 := (hrj.r0.set 0 (.int .i64 (nV : Int))).set 1 (.slice (some ⟨gT, 0, none⟩) nT nT)
              have k0 := hr9.cell (i := 0) rfl
              have k1 := hr9.cell (i := 1) rfl
              have HBF := Lib.hid ((hrj.below.setCell (p := ⟨B, 0, none⟩) (Nat.le_refl _) (.int .i64 (nV : Int))).setCell (p := ⟨B, 1, none⟩) (Nat.le_refl _) (.slice (some ⟨gT, 0, none⟩) nT nT))
              have HTF := Lib.hid ((hrj.rT.other (p := ⟨B, 0, none⟩) (by simp; omega) (.int .i64 (nV : Int))).other (p := ⟨B, 1, none⟩) (by simp; omega) (.slice (some ⟨gT, 0, none⟩) nT nT)).jtris
              have hlen : ((List.range nT).map (jall P k)).length = nT := by simp
              clear hr9 hrj
              go_wp2
              refine bodyPost_ret (v := .tuple #[.agg #[.int .i64 (nV : Int), .slice (some ⟨gT, 0, none⟩) nT nT], .int .i64 0]) (by simp [results, Try.results25, go_sem, k0, k1]) rfl ⟨(nV : Int), some ⟨gT, 0, none⟩, nT, (List.range nT).map (jall P k), 0, by rw [hlen], HJC.out.symm, fun _ => ⟨by rw [HNV.out], by rw [HNT.out]⟩, fun h => absurd rfl h, HTF.out, ?_⟩
              rw [← HBB.out]
              exact HBF.out
end Go.Proofs.Ytkggphfekeiejaa

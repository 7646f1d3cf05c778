/- gypsumref15.Fan: a vertex's triangles, and how many of them hang together. gypsumref15.Is: true just of a surface. -/
import Derived.Test.YtfbpjlfimmjieaaGreatFanLaw
namespace Go.Proofs.YtfbpjlfimmjieaaGreat
set_option linter.unusedVariables false
set_option linter.unusedSimpArgs false
open Go.RowKit
theorem nat_ne_zero {n : Nat} (h : ¬ n = 0) : ((n : Int) == 0) = false := by simp; omega
def FanSays (T : List Tr) (v : Int) (m : Nat) : Prop :=
  (atV T v T.length).length = 0 ∧ m = 0 ∨ 0 < (atV T v T.length).length ∧ m ≤ (atV T v T.length).length ∧ (m = (atV T v T.length).length ↔ ∀ i k, i < T.length → k < T.length → hasB (T! T i) v = true → hasB (T! T k) v = true → Conn (BAdj T v) i k)
/-- In the middle of the marking. -/
def FSt (T : List Tr) (v : Int) (I : List Nat) (W ws : World) (r i k : Nat) (β : Nat → Bool) (m : Nat) : Prop := RowIs ws W.heap.size 4 (bv β T.length) ∧ FInv T v I r i k β m ∧ Below W.heap.size W ws
theorem FSt.more {T : List Tr} {v : Int} {I : List Nat} {W ws wt : World} {r i k : Nat} {β : Nat → Bool} {m : Nat} (h : FSt T v I W ws r i k β m) (hb : Below ws.heap.size ws wt) : FSt T v I W wt r i k β m :=
  ⟨h.1.below hb h.1.lt, h.2.1, below_more h.2.2 hb h.2.2.size⟩
theorem FSt.inv {T : List Tr} {v : Int} {I : List Nat} {W ws : World} {r i k r' i' k' : Nat} {β : Nat → Bool} {m : Nat} (h : FSt T v I W ws r i k β m) (f : FInv T v I r i k β m → FInv T v I r' i' k' β m) : FSt T v I W ws r' i' k' β m :=
  ⟨h.1, f h.2.1, h.2.2⟩
theorem FSt.mle {T : List Tr} {v : Int} {W ws : World} {r i k : Nat} {β : Nat → Bool} {m : Nat} (h : FSt T v (atV T v T.length) W ws r i k β m) : m ≤ T.length := by
  have h1 : m ≤ (atV T v T.length).length := by rw [h.2.1.cnt]; exact nTrue_le fun t ht hb => (h.2.1.sound t ht hb).1
  have := atV_le T v T.length
  omega
set_option maxRecDepth 100000 in
set_option maxHeartbeats 2000000 in
theorem fan15 (N : Int) (ao : Option Addr) (cap : Nat) (T : List Tr) (v : Int) (w : World) (hT : TrisAt w ao T) (hl : T.length ≤ 10000) (hsym : ∀ a b, BAdj T v a b → BAdj T v b a) :
    Calls Tryz.prog 47 #[.agg #[.int .i64 N, .slice ao T.length cap], .int .i64 v] w fun e w' => ∃ n m : Nat, e = .returned (.tuple #[.int .i64 (n : Int), .int .i64 (m : Int)]) ∧ n = (atV T v T.length).length ∧ FanSays T v m ∧ Below w.heap.size w w' := by
  obtain ⟨i0, hi, hz0, hz1, hz2⟩ := info_parts info3
  obtain ⟨len, hlen⟩ : ∃ n, n = T.length := ⟨_, rfl⟩
  rw [← hlen] at hl ⊢
  have HL := Lib.hid hlen
  have HSY := Lib.hid hsym
  have HT := Lib.hid (hT.mono (Nat.le_refl _) ((Below.refl _ _).alloc (Nat.le_refl _) (.cells #[.int .i64 N, .slice ao len cap] 24)))
  clear hlen hT hsym
  go_enter Tryz.func47, Tryz.ntmps47
  go_wp2
  go_loopw [7, 6] (fun i u ws => ∃ (k : Nat), k ≤ len ∧ i = .int .i64 k ∧ ws.ownsRow (w.heap.size + 1) 3 1 u (atV T v k).length (nv (atV T v k)) ∧
      Below (w.heap.size + 1) (w.alloc (.cells #[.int .i64 N, .slice ao len cap] 24)) ws) (fun i _ _ => len - (intOf i).toNat)
  case atStart => exact ⟨0, by omega, rfl, by exact World.ownsRow_nil _ _ _ _, Below.refl _ _⟩
  case round =>
    obtain ⟨k, hk, rfl, hown, hb⟩ := hrel
    obtain ⟨hc0, hc1, hbw, hsz⟩ := box_soup hb
    have hle := atV_le T v k
    have HW := Lib.hid hown
    have HB := Lib.hid hb
    have HBw := Lib.hid hbw
    clear hbw
    by_cases hlt : k < len
    · obtain ⟨b, off, x, y, z, rfl, ht, g0, g1, g2, hbs, hbs'⟩ := HT.out.get (by simp) HB.out (i := k) (by have := HL.out; omega)
      clear hown hb hbs
      have hct := fun w => has15 x y z v w
      cases hh : hasB (x, y, z) v
      · rw [hh] at hct
        have HC := Lib.hid hct
        have hE := atV_succ_no (T := T) (v := v) (k := k) (by rw [ht.out]; exact hh)
        have HE := Lib.hid hE
        clear hct hh hE
        go_wp2_with fail
        refine (HC.out _).mono ?_
        rintro e w2 ⟨rfl, hb2⟩
        have HB2 := Lib.hid (below_more HB.out hb2 (by omega))
        have HW2 := Lib.hid (owns_below HW.out hb2)
        clear hb2
        go_wp2
        go_roundw
        case rel => exact ⟨k + 1, by omega, by go_num, by rw [HE.out]; exact HW2.out, HB2.out⟩
        case measure => simp [intOf]; omega
      · rw [hh] at hct
        have HC := Lib.hid hct
        have hE := atV_succ_yes (T := T) (v := v) (k := k) (by rw [ht.out]; exact hh)
        have HE := Lib.hid hE
        clear hct hh hE
        go_wp2_with fail
        refine (HC.out _).mono ?_
        rintro e w2 ⟨rfl, hb2⟩
        have HB2 := Lib.hid (below_more HB.out hb2 (by omega))
        have HW2 := Lib.hid (owns_below HW.out hb2)
        have hs2 := hb2.size
        clear hb2 hc0 hc1 g0 g1 g2
        go_wp2_with (at_builtin; refine wpList_append_new _ rfl _ _ 25 rfl (w.heap.size + 1) 3 i0 _ 1 8 (by kernel_rfl) hi hz0 hz1 hz2 rfl (by decide) _ _ _ rfl HW2.out _ _ _ rfl (by first | rfl | simp) rfl ?_ ?_ ?_ ?_ ?_)
        · first | rfl | (intro u hu; simp at hu; subst hu; rfl)
        · unfold maxLen; omega
        · omega
        · omega
        · intro v' w3 hown3 hbel hgr
          have HW3 := Lib.hid hown3
          have HB3 := Lib.hid (hbel (w.heap.size + 1) _ (Nat.le_refl _) HB2.out)
          clear hown3 hbel hgr
          go_wp2
          go_roundw
          case rel => exact ⟨k + 1, by omega, by go_num, by
            rw [HE.out, nv_snoc, List.length_append]
            exact HW3.out, HB3.out⟩
          case measure => simp [intOf]; omega
    · obtain rfl : len = k := by omega
      obtain ⟨W1, rfl⟩ : ∃ W1 : World, W1 = wr := ⟨_, rfl⟩
      have HmT := Lib.hid (show len = T.length from HL.out)
      obtain ⟨I, hI⟩ : ∃ I, I = atV T v len := ⟨_, rfl⟩
      rw [← hI] at hle hown HW
      have HII := Lib.hid hI
      clear hI hb
      by_cases hm0 : I.length = 0
      · have HE := Lib.hid (show FanSays T v 0 from .inl ⟨by rw [← HmT.out, ← HII.out]; exact hm0, rfl⟩)
        obtain ⟨io, icap, rfl⟩ := owns_slice hown
        have HN := Lib.hid (show 0 = I.length from hm0.symm)
        rw [hm0]
        clear hm0 hown HW
        go_wp2
        exact bodyPost_ret (v := .tuple #[.int .i64 0, .int .i64 0]) (by simp [results, Tryz.results47, go_sem]) rfl ⟨0, 0, rfl, by rw [← HII.out]; exact HN.out, HE.out, HBw.out⟩
      · have hm1 := nat_ne_zero hm0
        have hmp : 0 < I.length := by omega
        obtain ⟨gi, icap, rfl, hgb, hgl, hcap, hcm, hcell, -⟩ := owns_block hown hmp
        have HIC := Lib.hid (show ∀ j, j < I.length → W1.cell? ⟨gi, j, none⟩ = some (.int .i64 ((I.getD j 0 : Nat) : Int)) from fun j hj => hcell j _ (by
          refine nv_get ?_
          rw [List.getD_eq_getElem?_getD, List.getElem?_eq_getElem hj]; rfl))
        have hlt0 : I.getD 0 0 < len := by
          have := mem_getD hmp
          rw [HII.out] at this
          have := (atV_mem.1 this).1
          rw [← HII.out] at this
          exact this
        have hci := HIC.out 0 hmp
        clear hi hz0 hz1 hz2 i0 hcell hown HW
        obtain ⟨i0, hi, hz0, hz1, hz2⟩ := info_parts info4
        go_wp2_with (at_make; refine wpList_make_full _ rfl _ _ _ rfl W1.heap.size 4 i0 (.bool false) 1 (by kernel_rfl) hi hz0 hz1 _ _ _ _ len rfl rfl rfl rfl (by rw [hz2]; omega) (by unfold maxLen; omega) (Nat.le_refl _) ?_)
        intro w2 hown2 hgr2
        rw [madeCells_bv] at hown2
        have hrow := RowIs.of_owns hown2
        have hb2 : Below W1.heap.size W1 w2 := (Below.refl _ _).grown hgr2 (Nat.le_refl _) (by simp)
        obtain ⟨q, hq⟩ : ∃ q, q = I.getD 0 0 := ⟨_, rfl⟩
        rw [← hq] at hci hlt0
        have hc0' := hrow.cell (bv_get (fun _ => false) hlt0)
        have hf0' := hrow.free q
        have hci' := (hb2.cell (p := ⟨gi, 0, none⟩) hgl).trans hci
        have hr2 := hrow.set q (.bool true)
        rw [bv_set] at hr2
        have HS := Lib.hid (show FSt T v I W1 (w2.setCell ⟨W1.heap.size, q, none⟩ (.bool true)) 0 0 0 (updB (fun _ => false) q true) 1 from by
          refine ⟨by rw [← HmT.out]; exact hr2, ?_, hb2.setCell (Nat.le_refl _) _⟩
          rw [hq, HII.out, HmT.out]
          exact FInv.start (by rw [← HmT.out, ← HII.out]; exact hmp))
        clear hown2 hgr2 hrow hb2 hr2 hc0 hc1 hq hci
        go_wp2
        clear hc0' hf0' hci'
        have HXK := Lib.hid (show ∀ ws, Below W1.heap.size W1 ws → ws.cell? ⟨w.heap.size, 1, none⟩ = some (.slice ao len cap) ∧ TrisAt ws ao T ∧ (∀ j, j < I.length → ws.cell? ⟨gi, j, none⟩ = some (.int .i64 ((I.getD j 0 : Nat) : Int))) from fun ws hb =>
          ⟨(box_soup (below_more HB.out hb (by omega))).2.1, HT.out.mono (by simp) (below_more HB.out hb (by omega)), fun j hj => (hb.cell (p := ⟨gi, _, none⟩) hgl).trans (HIC.out j hj)⟩)
        go_loopw [10, 9] (fun i c ws => ∃ (r m : Nat) (β : Nat → Bool), r ≤ I.length ∧ i = .int .i64 r ∧ c = .int .i64 m ∧ FSt T v I W1 ws r 0 0 β m) (fun i _ _ => I.length - (intOf i).toNat)
        case atStart => exact ⟨0, 1, _, by omega, rfl, rfl, HS.out⟩
        case round =>
          clear HS
          obtain ⟨r, m, β, hr, rfl, rfl, hst⟩ := hrel
          have hml : m ≤ len := by
            have h := hst
            rw [HII.out, HmT.out] at h
            rw [HmT.out]; exact h.mle
          have HS := Lib.hid hst
          clear hst
          by_cases hrm : r < I.length
          · go_wp2
            go_loopw [11, 9] (fun i c ws => ∃ (p m : Nat) (β : Nat → Bool), p ≤ I.length ∧ i = .int .i64 p ∧ c = .int .i64 m ∧ FSt T v I W1 ws r p 0 β m) (fun i _ _ => I.length - (intOf i).toNat)
            case atStart => exact ⟨0, m, β, by omega, rfl, rfl, HS.out⟩
            case round =>
              clear HS
              obtain ⟨p, m, β, hp, rfl, rfl, hst⟩ := hrel
              have hml : m ≤ len := by
                have h := hst
                rw [HII.out, HmT.out] at h
                rw [HmT.out]; exact h.mle
              have HS := Lib.hid hst
              clear hst
              by_cases hpm : p < I.length
              · go_wp2
                go_loopw [12, 9] (fun i c ws => ∃ (q m : Nat) (β : Nat → Bool), q ≤ I.length ∧ i = .int .i64 q ∧ c = .int .i64 m ∧ FSt T v I W1 ws r p q β m) (fun i _ _ => I.length - (intOf i).toNat)
                case atStart => exact ⟨0, m, β, by omega, rfl, rfl, HS.out⟩
                case round =>
                  clear HS
                  obtain ⟨q, m, β, hq, rfl, rfl, hst⟩ := hrel
                  have hml : m ≤ len := by
                    have h := hst
                    rw [HII.out, HmT.out] at h
                    rw [HmT.out]; exact h.mle
                  have HS := Lib.hid hst
                  by_cases hqm : q < I.length
                  · have hcp := HXK.out wr hst.2.2
                    obtain ⟨hxc, hxt, hxi⟩ := hcp
                    have hip := hxi p hpm
                    have hiq := hxi q hqm
                    have memI : ∀ j, j < I.length → I.getD j 0 < len := fun j hj => by
                      have := mem_getD hj
                      rw [HII.out] at this
                      have := (atV_mem.1 this).1
                      rwa [← HII.out] at this
                    have hpl := memI p hpm
                    have hql := memI q hqm
                    obtain ⟨tp, htp⟩ : ∃ x, Hid (I.getD p 0 = x) := ⟨_, rfl⟩
                    obtain ⟨tq, htq⟩ : ∃ x, Hid (I.getD q 0 = x) := ⟨_, rfl⟩
                    rw [htp.out] at hip hpl
                    rw [htq.out] at hiq hql
                    have hr1 := hst.1
                    rw [← HmT.out] at hr1
                    have hbp := hr1.cell (bv_get β hpl)
                    have hbq := hr1.cell (bv_get β hql)
                    have hbf := hr1.free tq
                    obtain ⟨x, hx⟩ : ∃ x, Hid (β tp = x) := ⟨_, rfl⟩
                    obtain ⟨y, hy⟩ : ∃ y, Hid (β tq = y) := ⟨_, rfl⟩
                    rw [hx.out] at hbp
                    rw [hy.out] at hbq
                    obtain ⟨W5, rfl⟩ : ∃ W5 : World, W5 = wr := ⟨_, rfl⟩
                    have HDD := Lib.hid (show ∀ n, Below W5.heap.size W5 (W5.drewN n) from fun _ => ⟨rfl, rfl, rfl, Nat.le_refl _, fun _ _ => rfl⟩)
                    have HD1 := Lib.hid (show Below W5.heap.size W5 W5.drew from ⟨rfl, rfl, rfl, Nat.le_refl _, fun _ _ => rfl⟩)
                    have skip : (x = true → besB (T! T tp) (T! T tq) = true → y = true) → FInv T v I r p q β m → FInv T v I r p (q + 1) β m := fun hno hi => hi.keep (by
                      rw [htp.out, htq.out, hx.out, hy.out]; exact hno)
                    cases x
                    · have HS' := Lib.hid (HS.out.inv (skip (fun h => by cases h)))
                      clear hst hr1 hbf hbq skip HS memI hxi hxt
                      go_upto_region 21 with fail
                      go_quiet (fail)
                      go_wp2
                      go_roundw
                      case rel => exact ⟨q + 1, m, β, by omega, by go_num, rfl, by first | exact HS'.out | exact HS'.out.more (HDD.out _)⟩
                      case measure => simp [intOf]; omega
                    · cases y
                      · obtain ⟨b, off, a1, a2, a3, hE1, ht1, p0, p1, p2, hbs, -⟩ := hxt.get (Nat.le_refl _) (Below.refl _ _) (i := tp) (by rw [← HmT.out]; exact hpl)
                        subst hE1
                        obtain ⟨b', off', b1, b2, b3, hE2, ht2, q0, q1, q2, -, -⟩ := hxt.get (Nat.le_refl _) (Below.refl _ _) (i := tq) (by rw [← HmT.out]; exact hql)
                        cases hE2
                        have hgl5 : gi < W5.heap.size := by have := hst.2.2.size; omega
                        have hwl5 : w.heap.size < W5.heap.size := by have := hst.2.2.size; omega
                        have hrl := hr1.lt
                        have HK := Lib.hid (show ∀ w', Hid (Below W5.heap.size W5 w') → w'.cell? ⟨gi, p, none⟩ = some (.int .i64 (tp : Int)) ∧ w'.cell? ⟨gi, q, none⟩ = some (.int .i64 (tq : Int)) ∧ w'.cell? ⟨W1.heap.size, tp, none⟩ = some (.bool true) ∧ w'.cell? ⟨W1.heap.size, tq, none⟩ = some (.bool false) ∧
                            w'.cell? ⟨w.heap.size, 1, none⟩ = some (.slice (some ⟨b, off, none⟩) len cap) ∧ w'.cell? ⟨b, off + tp * 3, none⟩ = some (.int .i64 a1) ∧ w'.cell? ⟨b, off + tp * 3 + 1, none⟩ = some (.int .i64 a2) ∧ w'.cell? ⟨b, off + tp * 3 + 2, none⟩ = some (.int .i64 a3) ∧
                            w'.cell? ⟨b, off + tq * 3, none⟩ = some (.int .i64 b1) ∧ w'.cell? ⟨b, off + tq * 3 + 1, none⟩ = some (.int .i64 b2) ∧ w'.cell? ⟨b, off + tq * 3 + 2, none⟩ = some (.int .i64 b3) from fun w' hb' =>
                          ⟨(hb'.out.cell (p := ⟨gi, _, none⟩) hgl5).trans hip, (hb'.out.cell (p := ⟨gi, _, none⟩) hgl5).trans hiq, (hb'.out.cell (p := ⟨W1.heap.size, _, none⟩) hrl).trans hbp, (hb'.out.cell (p := ⟨W1.heap.size, _, none⟩) hrl).trans hbq,
                            (hb'.out.cell (p := ⟨w.heap.size, _, none⟩) hwl5).trans hxc, (hb'.out.cell (p := ⟨b, _, none⟩) hbs).trans p0, (hb'.out.cell (p := ⟨b, _, none⟩) hbs).trans p1, (hb'.out.cell (p := ⟨b, _, none⟩) hbs).trans p2,
                            (hb'.out.cell (p := ⟨b, _, none⟩) hbs).trans q0, (hb'.out.cell (p := ⟨b, _, none⟩) hbs).trans q1, (hb'.out.cell (p := ⟨b, _, none⟩) hbs).trans q2⟩)
                        have HCA := Lib.hid (show ∀ (s : Bool), besB (a1, a2, a3) (b1, b2, b3) = s → ∀ w', Hid (Below W5.heap.size W5 w') → Calls Tryz.prog 84 #[.agg #[.int .i64 a1, .int .i64 a2, .int .i64 a3], .agg #[.int .i64 b1, .int .i64 b2, .int .i64 b3]] w' fun e w'' => e = .returned (.bool s) ∧ Hid (Below W5.heap.size W5 w'') from fun s hs w' hb' => by
                          have := bes15 (a1, a2, a3) (b1, b2, b3) w'
                          rw [hs] at this
                          exact this.mono fun e w'' ⟨q1, q2⟩ => ⟨q1, below_more hb'.out q2 hb'.out.size⟩)
                        have HBS := Lib.hid (show besB (T! T tp) (T! T tq) = besB (a1, a2, a3) (b1, b2, b3) from by rw [ht1.out, ht2.out])
                        have HSK := Lib.hid skip
                        have HRW := Lib.hid (show ∀ w', Below W5.heap.size W5 w' → w'.cell? ⟨W1.heap.size, tq, none⟩ = some (.bool false) ∧ w'.frozen? ⟨W1.heap.size, tq, none⟩ = false ∧ w'.cell? ⟨gi, q, none⟩ = some (.int .i64 (tq : Int)) from fun w' hb' =>
                          ⟨(hb'.cell (p := ⟨W1.heap.size, _, none⟩) hrl).trans hbq, (hr1.below hb' hrl).free tq, (hb'.cell (p := ⟨gi, _, none⟩) hgl5).trans hiq⟩)
                        clear hst hr1 hbf skip memI hxi hxt p0 p1 p2 q0 q1 q2 hip hiq hbp hbq hxc
                        cases hbes : besB (a1, a2, a3) (b1, b2, b3)
                        · have HCC := Lib.hid (HCA.out _ hbes)
                          have HS' := Lib.hid (HS.out.inv (HSK.out (fun _ h => by rw [HBS.out, hbes] at h; cases h)))
                          clear hbes
                          go_upto_region 21 with fail
                          go_region_held3 (fun w' => w'.cell? ⟨gi, p, none⟩ = some (.int .i64 (tp : Int)) ∧ w'.cell? ⟨gi, q, none⟩ = some (.int .i64 (tq : Int)) ∧ w'.cell? ⟨W1.heap.size, tp, none⟩ = some (.bool true) ∧ w'.cell? ⟨W1.heap.size, tq, none⟩ = some (.bool false) ∧
                            w'.cell? ⟨w.heap.size, 1, none⟩ = some (.slice (some ⟨b, off, none⟩) len cap) ∧ w'.cell? ⟨b, off + tp * 3, none⟩ = some (.int .i64 a1) ∧ w'.cell? ⟨b, off + tp * 3 + 1, none⟩ = some (.int .i64 a2) ∧ w'.cell? ⟨b, off + tp * 3 + 2, none⟩ = some (.int .i64 a3) ∧
                            w'.cell? ⟨b, off + tq * 3, none⟩ = some (.int .i64 b1) ∧ w'.cell? ⟨b, off + tq * 3 + 1, none⟩ = some (.int .i64 b2) ∧ w'.cell? ⟨b, off + tq * 3 + 2, none⟩ = some (.int .i64 b3)) (exact HK.out _ (by assumption))
                            (first | (go_at_call 84; (with_reducible refine (HCC.out _ (by assumption)).mono ?_); rintro e wA ⟨rfl, hhA⟩))
                          all_goals
                            go_wp2
                            go_roundw
                            case rel => exact ⟨q + 1, m, β, by omega, by go_num, rfl, HS'.out.more hhA.out⟩
                            case measure => simp [intOf]; omega
                        · have HCC := Lib.hid (HCA.out _ hbes)
                          have HFI := Lib.hid (show FInv T v I r p (q + 1) (updB β tq true) (m + 1) from by
                            have h := HS.out.2.1
                            have hip : p < (atV T v T.length).length := by rw [← HmT.out, ← HII.out]; exact hpm
                            have hiq : q < (atV T v T.length).length := by rw [← HmT.out, ← HII.out]; exact hqm
                            have eI : atV T v T.length = I := by rw [HII.out, HmT.out]
                            rw [← eI] at h
                            have h2 := h.mark hip hiq (by rw [eI, htp.out]; exact hx.out) (by rw [eI, htq.out]; exact hy.out) (by rw [eI, htp.out, htq.out, HBS.out]; exact hbes)
                            rw [eI, htq.out] at h2
                            exact h2)
                          clear hbes
                          go_upto_region 21 with fail
                          go_region_held3 (fun w' => w'.cell? ⟨gi, p, none⟩ = some (.int .i64 (tp : Int)) ∧ w'.cell? ⟨gi, q, none⟩ = some (.int .i64 (tq : Int)) ∧ w'.cell? ⟨W1.heap.size, tp, none⟩ = some (.bool true) ∧ w'.cell? ⟨W1.heap.size, tq, none⟩ = some (.bool false) ∧
                            w'.cell? ⟨w.heap.size, 1, none⟩ = some (.slice (some ⟨b, off, none⟩) len cap) ∧ w'.cell? ⟨b, off + tp * 3, none⟩ = some (.int .i64 a1) ∧ w'.cell? ⟨b, off + tp * 3 + 1, none⟩ = some (.int .i64 a2) ∧ w'.cell? ⟨b, off + tp * 3 + 2, none⟩ = some (.int .i64 a3) ∧
                            w'.cell? ⟨b, off + tq * 3, none⟩ = some (.int .i64 b1) ∧ w'.cell? ⟨b, off + tq * 3 + 1, none⟩ = some (.int .i64 b2) ∧ w'.cell? ⟨b, off + tq * 3 + 2, none⟩ = some (.int .i64 b3)) (exact HK.out _ (by assumption))
                            (first | (go_at_call 84; (with_reducible refine (HCC.out _ (by assumption)).mono ?_); rintro e wA ⟨rfl, hhA⟩))
                          all_goals
                            obtain ⟨k0, k1, k2⟩ := HRW.out _ hhA.out
                            have HSM := Lib.hid (HS.out.more hhA.out)
                            go_wp2
                            go_roundw
                            case rel => exact ⟨q + 1, m + 1, updB β tq true, by omega, by go_num, by go_num, by
                              refine ⟨?_, HFI.out, HSM.out.2.2.setCell (Nat.le_refl _) _⟩
                              have := HSM.out.1.set tq (.bool true)
                              rw [bv_set] at this
                              exact this⟩
                            case measure => simp [intOf]; omega
                      · have HS' := Lib.hid (HS.out.inv (skip (fun _ _ => rfl)))
                        clear hst hr1 hbf skip HS memI hxi hxt
                        go_upto_region 21 with fail
                        go_quiet (fail)
                        go_wp2
                        go_roundw
                        case rel => exact ⟨q + 1, m, β, by omega, by go_num, rfl, by first | exact HS'.out | exact HS'.out.more (HDD.out _)⟩
                        case measure => simp [intOf]; omega
                  · obtain rfl : q = I.length := by omega
                    clear hst
                    go_wp2
                    go_roundw
                    case rel => exact ⟨p + 1, m, β, by omega, by go_num, rfl, HS.out.inv FInv.row⟩
                    case measure => simp [intOf]; omega
              · obtain rfl : p = I.length := by omega
                go_wp2
                go_roundw
                case rel => exact ⟨r + 1, m, β, by omega, by go_num, rfl, HS.out.inv FInv.round⟩
                case measure => simp [intOf]; omega
          · obtain rfl : r = I.length := by omega
            have HF := Lib.hid (show FanSays T v m from by
              have h := HS.out.2.1
              rw [HII.out, HmT.out] at h
              have := h.stop HSY.out
              exact .inr ⟨by rw [← HmT.out, ← HII.out]; exact hmp, this.1, this.2⟩)
            go_wp2
            exact bodyPost_ret (v := .tuple #[.int .i64 (I.length : Int), .int .i64 (m : Int)]) (by simp [results, Tryz.results47, go_sem]) rfl ⟨I.length, m, rfl, by rw [HII.out, HmT.out], HF.out, below_more HBw.out HS.out.2.2 (by omega)⟩
def SaysB (r : Bool) (P : Prop) : Prop := r = true ↔ P
theorem says_no {P : Prop} (h : ¬ P) : SaysB false P := ⟨fun e => (by cases e), fun p => absurd p h⟩
theorem says_yes {P : Prop} (h : P) : SaysB true P := ⟨fun _ => h, fun _ => rfl⟩
def BoolPost (P : Prop) (w : World) (e : Ending) (w' : World) : Prop := ∃ r, e = .returned (.bool r) ∧ SaysB r P ∧ Below w.heap.size w w'
set_option maxRecDepth 100000 in
set_option maxHeartbeats 2000000 in
theorem is15 (N : Int) (ao : Option Addr) (cap : Nat) (T : List Tr) (w : World) (hT : TrisAt w ao T) (hl : T.length ≤ 10000) :
    Calls Tryz.prog 15 #[.agg #[.int .i64 N, .slice ao T.length cap]] w (BoolPost (Surf N T) w) := by
  obtain ⟨len, hlen⟩ : ∃ n, n = T.length := ⟨_, rfl⟩
  rw [← hlen] at hl ⊢
  have HL := Lib.hid hlen
  have HT := Lib.hid (hT.mono (Nat.le_refl _) ((Below.refl _ _).alloc (Nat.le_refl _) (.cells #[.int .i64 N, .slice ao len cap] 24)))
  have HB0 := Lib.hid ((Below.refl w.heap.size w).alloc (Nat.le_refl _) (.cells #[.int .i64 N, .slice ao len cap] 24))
  clear hT hlen
  by_cases hbig : N < 0 ∨ 4096 < N ∨ 8192 < len
  · have HNS := Lib.hid (show ¬ Surf N T from fun hs => by
      have := hs.n0; have := hs.n1; have := hs.t1; have := HL.out
      omega)
    by_cases h1 : N < 0
    · clear hbig
      go_enter Tryz.func15, Tryz.ntmps15
      go_wp2
      go_ret
      exact ⟨_, rfl, says_no HNS.out, HB0.out⟩
    · have d1 : decide (N < 0) = false := by simpa using h1
      by_cases h2 : 4096 < N
      · clear hbig
        go_enter Tryz.func15, Tryz.ntmps15
        go_wp2
        go_ret
        exact ⟨_, rfl, says_no HNS.out, HB0.out⟩
      · have d2 : decide (4096 < N) = false := by simpa using h2
        have h3 : 8192 < len := by omega
        clear hbig
        go_enter Tryz.func15, Tryz.ntmps15
        go_wp2
        go_ret
        exact ⟨_, rfl, says_no HNS.out, HB0.out⟩
  · have h1 : ¬ N < 0 := fun h => hbig (.inl h)
    have h2 : ¬ 4096 < N := fun h => hbig (.inr (.inl h))
    have h3 : ¬ 8192 < len := fun h => hbig (.inr (.inr h))
    have d1 : decide (N < 0) = false := by simpa using h1
    have d2 : decide (4096 < N) = false := by simpa using h2
    have d3 : decide (8192 < len) = false := by simpa using h3
    obtain ⟨n, rfl⟩ := Int.eq_ofNat_of_zero_le (show 0 ≤ N by omega)
    have HNL := Lib.hid (show n ≤ 4096 by omega)
    have HLL := Lib.hid (show len ≤ 8192 by omega)
    clear hbig h1 h2
    go_enter Tryz.func15, Tryz.ntmps15
    go_wp2
    clear d1 d2 d3 h3
    go_loopw [3] (fun i ws => ∃ (k : Nat), k ≤ len ∧ i = .int .i64 k ∧ (∀ i j, i < k → j < 3 → vxOK n (T! T i) j) ∧
        Below (w.heap.size + 1) (w.alloc (.cells #[.int .i64 (n : Int), .slice ao len cap] 24)) ws) (fun i _ => len - (intOf i).toNat)
    case atStart => exact ⟨0, by omega, rfl, fun i j h => by omega, Below.refl _ _⟩
    case round =>
      obtain ⟨k, hk, rfl, hno, hb⟩ := hrel
      obtain ⟨hc0, hc1, hbw, hsz⟩ := box_soup hb
      have HNO := Lib.hid hno
      have HB := Lib.hid hb
      have HBw := Lib.hid hbw
      obtain ⟨W2, rfl⟩ : ∃ W2 : World, W2 = wr := ⟨_, rfl⟩
      clear hno hb hbw
      by_cases hlt : k < len
      · obtain ⟨b, off, x, y, z, rfl, ht, g0, g1, g2, hbs, hbs'⟩ := HT.out.get (by simp) HB.out (i := k) (by have := HL.out; omega)
        clear hbs
        obtain ⟨W3, hW3⟩ : ∃ W3, W3 = W2.alloc (.cells #[.int .i64 x, .int .i64 y, .int .i64 z] 49) := ⟨_, rfl⟩
        have HR3 := Lib.hid (show RowIs W3 W2.heap.size 49 (tcc (x, y, z)) from by rw [hW3]; exact RowIs.made W2 49 (tcc (x, y, z)))
        have hb23 : Below W2.heap.size W2 W3 := by rw [hW3]; exact (Below.refl _ _).alloc (Nat.le_refl _) _
        have hc3 : W3.cell? ⟨w.heap.size, 0, none⟩ = some (.int .i64 (n : Int)) := (hb23.cell (p := ⟨w.heap.size, 0, none⟩) (by show w.heap.size < _; omega)).trans hc0
        have HB3 := Lib.hid (below_more HB.out hb23 (by omega))
        have HW3 := Lib.hid hW3
        clear hb23 hW3
        go_wp2
        rw [← HW3.out]
        clear hc0 hc1 g0 g1 g2
        go_loopw [5] (fun i ys => ∃ (j : Nat), j ≤ 3 ∧ i = .int .i64 j ∧ (∀ l, l < j → vxOK n (x, y, z) l) ∧ ∃ q, ys = W3.drewN q) (fun i _ => 3 - (intOf i).toNat)
        case atStart => exact ⟨0, by omega, rfl, fun l h => by omega, 0, rfl⟩
        case round =>
          obtain ⟨j, hj, rfl, hok, q, rfl⟩ := hrel
          have HOK := Lib.hid hok
          clear hok
          by_cases hj3 : j < 3
          · obtain ⟨j1, hj1⟩ : ∃ j1, j1 = (j + 1) % 3 := ⟨_, rfl⟩
            have lj : j1 < 3 := by omega
            have s1 : ((j : Int) + 1) % 3 = (j1 : Int) := by omega
            have p1 := HR3.out.cell (tcc_get (x, y, z) hj3)
            have p2 := HR3.out.cell (tcc_get (x, y, z) lj)
            obtain ⟨u, hu⟩ : ∃ u, Hid (tg (x, y, z) j = u) := ⟨_, rfl⟩
            obtain ⟨v, hv⟩ : ∃ v, Hid (tg (x, y, z) j1 = v) := ⟨_, rfl⟩
            rw [hu.out] at p1
            rw [hv.out] at p2
            have HV := Lib.hid (show vxOK n (x, y, z) j ↔ 0 ≤ u ∧ u < n ∧ u ≠ v from by unfold vxOK; rw [← hj1, hu.out, hv.out])
            have HX := Lib.hid (show ¬ vxOK n (x, y, z) j → ¬ Surf n T from fun h hs => h (by have := hs.vx (i := k) (k := j) (by have := HL.out; omega) hj3; rw [ht.out] at this; exact this))
            have HBE := Lib.hid (show ∀ a b, Below w.heap.size w ((W3.drewN a).drewN b) from fun a b => below_more HBw.out (show Below W2.heap.size W2 ((W3.drewN a).drewN b) from by rw [HW3.out]; exact ((Below.refl _ _).alloc (Nat.le_refl _) _).trans ⟨rfl, rfl, rfl, Nat.le_refl _, fun _ _ => rfl⟩) (by omega))
            clear hj1
            by_cases u0 : u < 0
            · have du : decide (u < 0) = true := by simpa using u0
              have HF := Lib.hid (HX.out (fun h => by have := (HV.out.1 h).1; omega))
              clear u0 p2
              go_upto_region 10 with fail
              go_quiet (fail)
              go_wp2
              exact bodyPost_ret (v := .bool false) (by simp [results, Tryz.results15, go_sem]) rfl ⟨_, rfl, says_no HF.out, HBE.out _ _⟩
            · have du : decide (u < 0) = false := by simpa using u0
              by_cases u1 : (n : Int) ≤ u
              · have dn : decide ((n : Int) ≤ u) = true := by simpa using u1
                have dn2 : decide (u ≥ (n : Int)) = true := by simpa using u1
                have HF := Lib.hid (HX.out (fun h => by have := (HV.out.1 h).2.1; omega))
                clear u0 u1 p2
                go_upto_region 10 with fail
                go_quiet (fail)
                go_wp2
                exact bodyPost_ret (v := .bool false) (by simp [results, Tryz.results15, go_sem]) rfl ⟨_, rfl, says_no HF.out, HBE.out _ _⟩
              · have dn : decide ((n : Int) ≤ u) = false := by simpa using u1
                have dn2 : decide (u ≥ (n : Int)) = false := by simpa using u1
                cases e : u == v
                · have HN := Lib.hid (show vxOK n (x, y, z) j from HV.out.2 ⟨by omega, by omega, by simpa using e⟩)
                  clear u0 u1
                  go_upto_region 10 with fail
                  go_quiet (fail)
                  go_wp2
                  go_roundw
                  case rel => exact ⟨j + 1, by omega, by go_num, fun l hl => by
                    by_cases e : l = j
                    · subst e; exact HN.out
                    · exact HOK.out l (by omega), _, rfl⟩
                  case measure => simp [intOf]; omega
                · have HF := Lib.hid (HX.out (fun h => (HV.out.1 h).2.2 (by simpa using e)))
                  clear u0 u1
                  go_upto_region 10 with fail
                  go_quiet (fail)
                  go_wp2
                  exact bodyPost_ret (v := .bool false) (by simp [results, Tryz.results15, go_sem]) rfl ⟨_, rfl, says_no HF.out, HBE.out _ _⟩
          · obtain rfl : j = 3 := by omega
            have HB' := Lib.hid (HB3.out.trans (show Below _ W3 (W3.drewN q) from ⟨rfl, rfl, rfl, Nat.le_refl _, fun _ _ => rfl⟩))
            go_wp2
            go_roundw
            case rel => exact ⟨k + 1, by omega, by go_num, fun i j hi hj => by
              by_cases e : i = k
              · subst e; rw [ht.out]; exact HOK.out j hj
              · exact HNO.out i j (by omega) hj, HB'.out⟩
            case measure => simp [intOf]; omega
      · obtain rfl : len = k := by omega
        go_wp2
        clear hc0 hc1
        go_loopw [6] (fun i ws => ∃ (k : Nat), k ≤ len ∧ i = .int .i64 k ∧ (∀ i j, i < k → j < i → twoOK (T! T i) (T! T j)) ∧
            Below (w.heap.size + 1) (w.alloc (.cells #[.int .i64 (n : Int), .slice ao len cap] 24)) ws) (fun i _ => len - (intOf i).toNat)
        case atStart => exact ⟨0, by omega, rfl, fun i j h => by omega, HB.out⟩
        case round =>
          clear HB HBw
          obtain ⟨i, hi, rfl, htw, hb⟩ := hrel
          obtain ⟨hc0, hc1, hbw, hsz⟩ := box_soup hb
          have HTW := Lib.hid htw
          have HB := Lib.hid hb
          have HBw := Lib.hid hbw
          clear htw hb hbw
          by_cases hil : i < len
          · go_wp2
            clear hc0 hc1
            go_loopw [7] (fun c ws => ∃ (k : Nat), k ≤ i ∧ c = .int .i64 k ∧ (∀ j, j < k → twoOK (T! T i) (T! T j)) ∧
                Below (w.heap.size + 1) (w.alloc (.cells #[.int .i64 (n : Int), .slice ao len cap] 24)) ws) (fun c _ => i - (intOf c).toNat)
            case atStart => exact ⟨0, by omega, rfl, fun j h => by omega, HB.out⟩
            case round =>
              clear HB HBw
              obtain ⟨k, hk, rfl, htk, hb⟩ := hrel
              have HTK := Lib.hid htk
              have HB := Lib.hid hb
              clear htk hb
              by_cases hki : k < i
              · go_wp2
                go_loopw [9, 8] (fun c s ws => ∃ (x : Nat), x ≤ 3 ∧ c = .int .i64 x ∧ s = .int .i64 (cntH (T! T i) (T! T k) x : Nat) ∧ (∀ p q, p < x → q < 3 → dirB (T! T i) (T! T k) p q = false) ∧
                    Below (w.heap.size + 1) (w.alloc (.cells #[.int .i64 (n : Int), .slice ao len cap] 24)) ws) (fun c _ _ => 3 - (intOf c).toNat)
                case atStart => exact ⟨0, by omega, rfl, rfl, fun p q h => by omega, HB.out⟩
                case round =>
                  clear HB
                  obtain ⟨x, hx, rfl, rfl, hdi, hb⟩ := hrel
                  have HDI := Lib.hid hdi
                  have HB := Lib.hid hb
                  have hcl := cntH_le (T! T i) (T! T k) x
                  clear hdi hb
                  by_cases hx3 : x < 3
                  · have hxt := HT.out.mono (by simp) HB.out
                    obtain ⟨hc0, hc1, hbw, hsz⟩ := box_soup HB.out
                    obtain ⟨W4, rfl⟩ : ∃ W4 : World, W4 = wr := ⟨_, rfl⟩
                    have hiT : i < T.length := by have := HL.out; omega
                    have hkT : k < T.length := by omega
                    have hkl : k < len := by omega
                    obtain ⟨b, off, hE0, hcx, hbs⟩ := hxt.at hiT hx3
                    subst hE0
                    obtain ⟨b', off', x0, y0, z0, hE1, ht, g0, g1, g2, -, -⟩ := hxt.get (Nat.le_refl _) (Below.refl _ _) hkT
                    cases hE1
                    have HAT := Lib.hid (show ∀ a j, a < T.length → j < 3 → W4.cell? ⟨b, off + a * 3 + j, none⟩ = some (.int .i64 (tg (T! T a) j)) from fun a j ha hj => by
                      obtain ⟨b', off', hE, h, -⟩ := hxt.at ha hj
                      cases hE; exact h)
                    obtain ⟨u, hu⟩ : ∃ u, Hid (tg (T! T i) x = u) := ⟨_, rfl⟩
                    rw [hu.out] at hcx
                    have hcs : cntH (T! T i) (T! T k) (x + 1) = cntH (T! T i) (T! T k) x + if hasB (x0, y0, z0) u then 1 else 0 := by rw [← ht.out, ← hu.out]; rfl
                    obtain ⟨m, hm⟩ : ∃ m, m = cntH (T! T i) (T! T k) x := ⟨_, rfl⟩
                    obtain ⟨m', hm'⟩ : ∃ m, m = cntH (T! T i) (T! T k) (x + 1) := ⟨_, rfl⟩
                    rw [← hm, ← hm'] at hcs
                    rw [← hm] at hcl ⊢
                    have HM := Lib.hid hm'
                    have HK := Lib.hid (show ∀ w', Hid (Below W4.heap.size W4 w') → w'.cell? ⟨w.heap.size, 1, none⟩ = some (.slice (some ⟨b, off, none⟩) len cap) ∧ w'.cell? ⟨b, off + i * 3 + x, none⟩ = some (.int .i64 u) ∧ w'.cell? ⟨b, off + k * 3, none⟩ = some (.int .i64 x0) ∧ w'.cell? ⟨b, off + k * 3 + 1, none⟩ = some (.int .i64 y0) ∧ w'.cell? ⟨b, off + k * 3 + 2, none⟩ = some (.int .i64 z0) from fun w' hb' =>
                      ⟨(hb'.out.cell (p := ⟨w.heap.size, _, none⟩) (by show w.heap.size < _; omega)).trans hc1, (hb'.out.cell (p := ⟨b, _, none⟩) hbs).trans hcx, (hb'.out.cell (p := ⟨b, _, none⟩) hbs).trans g0, (hb'.out.cell (p := ⟨b, _, none⟩) hbs).trans g1, (hb'.out.cell (p := ⟨b, _, none⟩) hbs).trans g2⟩)
                    have HD1 := Lib.hid (show Below W4.heap.size W4 W4.drew from ⟨rfl, rfl, rfl, Nat.le_refl _, fun _ _ => rfl⟩)
                    have HCA := Lib.hid (show ∀ (s : Bool), hasB (x0, y0, z0) u = s → ∀ w', Hid (Below W4.heap.size W4 w') → Calls Tryz.prog 46 #[.agg #[.int .i64 x0, .int .i64 y0, .int .i64 z0], .int .i64 u] w' fun e w'' => e = .returned (.bool s) ∧ Hid (Below W4.heap.size W4 w'') from fun s hs w' hb' => by
                      have := has15 x0 y0 z0 u w'
                      rw [hs] at this
                      exact this.mono fun e w'' ⟨q1, q2⟩ => ⟨q1, below_more hb'.out q2 hb'.out.size⟩)
                    have HBW := Lib.hid hbw
                    have HC1 := Lib.hid hc1
                    clear hcx g0 g1 g2 hm hm' hxt hc0 hbw hc1
                    go_upto_region 22 with fail
                    obtain ⟨γ, hγ⟩ : ∃ γ, hasB (x0, y0, z0) u = γ := ⟨_, rfl⟩
                    have HCC := Lib.hid (HCA.out _ hγ)
                    rw [hγ] at hcs
                    clear hγ
                    go_cut [95] (fun s95 wc => s95 = .bool γ ∧ Below W4.heap.size W4 wc)
                    case first =>
                      clear hcs
                      go_region_held3 (fun w' => w'.cell? ⟨w.heap.size, 1, none⟩ = some (.slice (some ⟨b, off, none⟩) len cap) ∧ w'.cell? ⟨b, off + i * 3 + x, none⟩ = some (.int .i64 u) ∧ w'.cell? ⟨b, off + k * 3, none⟩ = some (.int .i64 x0) ∧ w'.cell? ⟨b, off + k * 3 + 1, none⟩ = some (.int .i64 y0) ∧ w'.cell? ⟨b, off + k * 3 + 2, none⟩ = some (.int .i64 z0)) (exact HK.out _ (by assumption))
                        (first | (go_at_call 46; (with_reducible refine (HCC.out _ (by assumption)).mono ?_); rintro e wA ⟨rfl, hhA⟩))
                      all_goals
                        go_wp2
                        go_meet
                        exact ⟨rfl, hhA.out⟩
                    case rest =>
                      obtain ⟨rfl, hbc⟩ := hcut
                      obtain ⟨W5, rfl⟩ : ∃ W5 : World, W5 = wc := ⟨_, rfl⟩
                      have HB5 := Lib.hid (show Below W4.heap.size W4 W5 from hbc)
                      clear hbc
                      have hsp : (γ = false ∧ m' = m) ∨ (γ = true ∧ m' = m + 1) := by
                        cases γ
                        · exact .inl ⟨rfl, by simpa using hcs⟩
                        · exact .inr ⟨rfl, by simpa using hcs⟩
                      clear hcs
                      rcases hsp with ⟨rfl, rfl⟩ | ⟨rfl, rfl⟩
                      · go_wp2
                        go_loopw [10] (fun c ws => ∃ y : Nat, y ≤ 3 ∧ c = .int .i64 y ∧ (∀ q, q < y → dirB (T! T i) (T! T k) x q = false) ∧ Below W4.heap.size W4 ws) (fun c _ => 3 - (intOf c).toNat)
                        case atStart => exact ⟨0, by omega, rfl, fun q h => by omega, HB5.out⟩
                        case round =>
                          clear HB5
                          obtain ⟨y, hy, rfl, hdy, hb⟩ := hrel
                          have HDY := Lib.hid hdy
                          have HB6 := Lib.hid hb
                          obtain ⟨W6, rfl⟩ : ∃ W6 : World, W6 = wr := ⟨_, rfl⟩
                          have HDW := Lib.hid (show ∀ q, Below W4.heap.size W4 (W6.drewN q) from fun q => hb.trans ⟨rfl, rfl, rfl, Nat.le_refl _, fun _ _ => rfl⟩)
                          clear hdy
                          by_cases hy3 : y < 3
                          · obtain ⟨x1, hx1⟩ : ∃ j, j = (x + 1) % 3 := ⟨_, rfl⟩
                            obtain ⟨y1, hy1⟩ : ∃ j, j = (y + 1) % 3 := ⟨_, rfl⟩
                            have lx : x1 < 3 := by omega
                            have ly : y1 < 3 := by omega
                            have s1 : ((x : Int) + 1) % 3 = (x1 : Int) := by omega
                            have s2 : ((y : Int) + 1) % 3 = (y1 : Int) := by omega
                            have p1 := (hb.cell (p := ⟨b, off + i * 3 + x, none⟩) hbs).trans (HAT.out i x hiT hx3)
                            have p2 := (hb.cell (p := ⟨b, off + i * 3 + x1, none⟩) hbs).trans (HAT.out i x1 hiT lx)
                            have q1 := (hb.cell (p := ⟨b, off + k * 3 + y, none⟩) hbs).trans (HAT.out k y hkT hy3)
                            have q2 := (hb.cell (p := ⟨b, off + k * 3 + y1, none⟩) hbs).trans (HAT.out k y1 hkT ly)
                            have hcb := (hb.cell (p := ⟨w.heap.size, 1, none⟩) (by show w.heap.size < _; omega)).trans HC1.out
                            have HP := Lib.hid (show dirB (T! T i) (T! T k) x y = (tg (T! T i) x == tg (T! T k) y && tg (T! T i) x1 == tg (T! T k) y1) from by rw [hx1, hy1]; rfl)
                            have HX := Lib.hid (show dirB (T! T i) (T! T k) x y = true → ¬ Surf n T from fun h hs => by
                              rw [(hs.two (i := i) (k := k) hiT hki).1 x y hx3 hy3] at h; cases h)
                            obtain ⟨dd, hdd⟩ : ∃ d, d = dirB (T! T i) (T! T k) x y := ⟨_, rfl⟩
                            rw [← hdd] at HP HX
                            have HDD := Lib.hid hdd
                            clear hx1 hy1 hdd hb
                            generalize tg (T! T i) x = e1 at p1 HP
                            generalize tg (T! T i) x1 = e2 at p2 HP
                            generalize tg (T! T k) y = e3 at q1 HP
                            generalize tg (T! T k) y1 = e4 at q2 HP
                            have HBO := Lib.hid (show ∀ q, Below w.heap.size w (W6.drewN q) from fun q => below_more HBW.out (HDW.out q) (by omega))
                            cases c1 : e1 == e3
                            · have HF := Lib.hid (show dirB (T! T i) (T! T k) x y = false from by rw [← HDD.out, HP.out, c1]; rfl)
                              clear p2 q2 s1 s2
                              go_upto_region 27 with fail
                              go_quiet (fail)
                              go_wp2
                              go_roundw
                              case rel => exact ⟨y + 1, by omega, by go_num, fun q h => by
                                by_cases e : q = y
                                · subst e; exact HF.out
                                · exact HDY.out q (by omega), HDW.out _⟩
                              case measure => simp [intOf]; omega
                            · cases c2 : e2 == e4
                              · have HF := Lib.hid (show dirB (T! T i) (T! T k) x y = false from by rw [← HDD.out, HP.out, c1, c2]; rfl)
                                go_upto_region 27 with fail
                                go_quiet (fail)
                                go_wp2
                                go_roundw
                                case rel => exact ⟨y + 1, by omega, by go_num, fun q h => by
                                  by_cases e : q = y
                                  · subst e; exact HF.out
                                  · exact HDY.out q (by omega), HDW.out _⟩
                                case measure => simp [intOf]; omega
                              · have HF := Lib.hid (HX.out (by rw [HP.out, c1, c2]; rfl))
                                go_upto_region 27 with fail
                                go_quiet (fail)
                                go_wp2
                                exact bodyPost_ret (v := .bool false) (by simp [results, Tryz.results15, go_sem]) rfl ⟨_, rfl, says_no HF.out, HBO.out _⟩
                          · obtain rfl : y = 3 := by omega
                            clear hb
                            go_wp2
                            go_roundw
                            case rel => exact ⟨x + 1, by omega, by go_num, by rw [← HM.out] <;> go_num, fun p q hp hq => by
                              by_cases e : p = x
                              · subst e; exact HDY.out q hq
                              · exact HDI.out p q (by omega) hq, below_more HB.out HB6.out (by omega)⟩
                            case measure => simp [intOf]; omega
                      · go_wp2
                        go_loopw [10] (fun c ws => ∃ y : Nat, y ≤ 3 ∧ c = .int .i64 y ∧ (∀ q, q < y → dirB (T! T i) (T! T k) x q = false) ∧ Below W4.heap.size W4 ws) (fun c _ => 3 - (intOf c).toNat)
                        case atStart => exact ⟨0, by omega, rfl, fun q h => by omega, HB5.out⟩
                        case round =>
                          clear HB5
                          obtain ⟨y, hy, rfl, hdy, hb⟩ := hrel
                          have HDY := Lib.hid hdy
                          have HB6 := Lib.hid hb
                          obtain ⟨W6, rfl⟩ : ∃ W6 : World, W6 = wr := ⟨_, rfl⟩
                          have HDW := Lib.hid (show ∀ q, Below W4.heap.size W4 (W6.drewN q) from fun q => hb.trans ⟨rfl, rfl, rfl, Nat.le_refl _, fun _ _ => rfl⟩)
                          clear hdy
                          by_cases hy3 : y < 3
                          · obtain ⟨x1, hx1⟩ : ∃ j, j = (x + 1) % 3 := ⟨_, rfl⟩
                            obtain ⟨y1, hy1⟩ : ∃ j, j = (y + 1) % 3 := ⟨_, rfl⟩
                            have lx : x1 < 3 := by omega
                            have ly : y1 < 3 := by omega
                            have s1 : ((x : Int) + 1) % 3 = (x1 : Int) := by omega
                            have s2 : ((y : Int) + 1) % 3 = (y1 : Int) := by omega
                            have p1 := (hb.cell (p := ⟨b, off + i * 3 + x, none⟩) hbs).trans (HAT.out i x hiT hx3)
                            have p2 := (hb.cell (p := ⟨b, off + i * 3 + x1, none⟩) hbs).trans (HAT.out i x1 hiT lx)
                            have q1 := (hb.cell (p := ⟨b, off + k * 3 + y, none⟩) hbs).trans (HAT.out k y hkT hy3)
                            have q2 := (hb.cell (p := ⟨b, off + k * 3 + y1, none⟩) hbs).trans (HAT.out k y1 hkT ly)
                            have hcb := (hb.cell (p := ⟨w.heap.size, 1, none⟩) (by show w.heap.size < _; omega)).trans HC1.out
                            have HP := Lib.hid (show dirB (T! T i) (T! T k) x y = (tg (T! T i) x == tg (T! T k) y && tg (T! T i) x1 == tg (T! T k) y1) from by rw [hx1, hy1]; rfl)
                            have HX := Lib.hid (show dirB (T! T i) (T! T k) x y = true → ¬ Surf n T from fun h hs => by
                              rw [(hs.two (i := i) (k := k) hiT hki).1 x y hx3 hy3] at h; cases h)
                            obtain ⟨dd, hdd⟩ : ∃ d, d = dirB (T! T i) (T! T k) x y := ⟨_, rfl⟩
                            rw [← hdd] at HP HX
                            have HDD := Lib.hid hdd
                            clear hx1 hy1 hdd hb
                            generalize tg (T! T i) x = e1 at p1 HP
                            generalize tg (T! T i) x1 = e2 at p2 HP
                            generalize tg (T! T k) y = e3 at q1 HP
                            generalize tg (T! T k) y1 = e4 at q2 HP
                            have HBO := Lib.hid (show ∀ q, Below w.heap.size w (W6.drewN q) from fun q => below_more HBW.out (HDW.out q) (by omega))
                            cases c1 : e1 == e3
                            · have HF := Lib.hid (show dirB (T! T i) (T! T k) x y = false from by rw [← HDD.out, HP.out, c1]; rfl)
                              clear p2 q2 s1 s2
                              go_upto_region 27 with fail
                              go_quiet (fail)
                              go_wp2
                              go_roundw
                              case rel => exact ⟨y + 1, by omega, by go_num, fun q h => by
                                by_cases e : q = y
                                · subst e; exact HF.out
                                · exact HDY.out q (by omega), HDW.out _⟩
                              case measure => simp [intOf]; omega
                            · cases c2 : e2 == e4
                              · have HF := Lib.hid (show dirB (T! T i) (T! T k) x y = false from by rw [← HDD.out, HP.out, c1, c2]; rfl)
                                go_upto_region 27 with fail
                                go_quiet (fail)
                                go_wp2
                                go_roundw
                                case rel => exact ⟨y + 1, by omega, by go_num, fun q h => by
                                  by_cases e : q = y
                                  · subst e; exact HF.out
                                  · exact HDY.out q (by omega), HDW.out _⟩
                                case measure => simp [intOf]; omega
                              · have HF := Lib.hid (HX.out (by rw [HP.out, c1, c2]; rfl))
                                go_upto_region 27 with fail
                                go_quiet (fail)
                                go_wp2
                                exact bodyPost_ret (v := .bool false) (by simp [results, Tryz.results15, go_sem]) rfl ⟨_, rfl, says_no HF.out, HBO.out _⟩
                          · obtain rfl : y = 3 := by omega
                            clear hb
                            go_wp2
                            go_roundw
                            case rel => exact ⟨x + 1, by omega, by go_num, by rw [← HM.out] <;> go_num, fun p q hp hq => by
                              by_cases e : p = x
                              · subst e; exact HDY.out q hq
                              · exact HDI.out p q (by omega) hq, below_more HB.out HB6.out (by omega)⟩
                            case measure => simp [intOf]; omega
                  · obtain rfl : x = 3 := by omega
                    have hbw := (box_soup HB.out).2.2.1
                    by_cases c3 : cntH (T! T i) (T! T k) 3 = 3
                    · have HF := Lib.hid (show ¬ Surf n T from fun hs => (hs.two (i := i) (k := k) (by have := HL.out; omega) hki).2 c3)
                      have HBX := Lib.hid hbw
                      rw [c3]
                      clear hbw c3 hcl
                      go_wp2
                      exact bodyPost_ret (v := .bool false) (by simp [results, Tryz.results15, go_sem]) rfl ⟨_, rfl, says_no HF.out, HBX.out⟩
                    · have HN := Lib.hid (show twoOK (T! T i) (T! T k) from ⟨HDI.out, c3⟩)
                      obtain ⟨m, hm⟩ : ∃ m, m = cntH (T! T i) (T! T k) 3 := ⟨_, rfl⟩
                      rw [← hm] at c3 ⊢
                      have hd : (((m : Nat) : Int) == 3) = false := by simp; omega
                      have hd2 : (m == 3) = false := by simpa using c3
                      clear hbw c3 hcl hm
                      go_wp2
                      go_roundw
                      case rel => exact ⟨k + 1, by omega, by go_num, fun j hj => by
                        by_cases e : j = k
                        · subst e; exact HN.out
                        · exact HTK.out j (by omega), HB.out⟩
                      case measure => simp [intOf]; omega
              · obtain rfl : k = i := by omega
                go_wp2
                go_roundw
                case rel => exact ⟨k + 1, by omega, by go_num, fun a c ha hc => by
                  by_cases e : a = k
                  · subst e; exact HTK.out c hc
                  · exact HTW.out a c (by omega) hc, HB.out⟩
                case measure => simp [intOf]; omega
          · obtain rfl : len = i := by omega
            have HLP := Lib.hid (show ∀ i, i < T.length → loopB (T! T i) = false from fun i hi => loop_iff fun k hk => HNO.out i k (by have := HL.out; omega) hk)
            have HSY := Lib.hid (show ∀ (v : Int) a b, BAdj T v a b → BAdj T v b a from fun v a b ⟨h1, h2, h3, h4, h5⟩ => ⟨h2, h1, h4, h3, bes_symm (HLP.out a h1) h5⟩)
            go_wp2
            clear hc0 hc1
            go_loopw [11] (fun c ws => ∃ (v : Nat), v ≤ n ∧ c = .int .i64 v ∧ (∀ u : Nat, u < v → 0 < (atV T u T.length).length ∧ ∀ i k, i < T.length → k < T.length → hasB (T! T i) u = true → hasB (T! T k) u = true → Conn (BAdj T u) i k) ∧
                Below (w.heap.size + 1) (w.alloc (.cells #[.int .i64 (n : Int), .slice ao len cap] 24)) ws) (fun c _ => n - (intOf c).toNat)
            case atStart => exact ⟨0, by omega, rfl, fun u h => by omega, HB.out⟩
            case round =>
              clear HB HBw
              obtain ⟨v, hv, rfl, hfa, hb⟩ := hrel
              obtain ⟨hc0, hc1, hbw, hsz⟩ := box_soup hb
              have HFA := Lib.hid hfa
              have HB := Lib.hid hb
              have HBw := Lib.hid hbw
              have hn4 := HNL.out
              clear hfa hb hbw
              by_cases hvn : v < n
              · have HC := Lib.hid (fan15 n ao cap T v wr (HT.out.mono (by simp) HB.out) (by have := HL.out; omega) (HSY.out v))
                rw [← HL.out] at HC
                have HX := Lib.hid (fun (hs : Surf n T) => hs.fan (v := (v : Int)) (by omega) (by omega))
                go_wp2_with fail
                refine HC.out.mono ?_
                rintro e w2 ⟨p, m, rfl, hp, hfs, hb2⟩
                rw [HL.out] at hp
                have HB2 := Lib.hid (below_more HB.out hb2 (by omega))
                have HBW2 := Lib.hid (below_more HBw.out hb2 (by omega))
                clear hb2 hc0 hc1
                by_cases p0 : p = 0
                · have HF := Lib.hid (show ¬ Surf n T from fun hs => by have := (HX.out hs).1; omega)
                  subst p0
                  clear hp hfs
                  go_wp2
                  exact bodyPost_ret (v := .bool false) (by simp [results, Tryz.results15, go_sem]) rfl ⟨_, rfl, says_no HF.out, HBW2.out⟩
                · have d0 := nat_ne_zero p0
                  have d1 : (p == 0) = false := by simpa using p0
                  obtain ⟨hm1, hm2⟩ : m ≤ (atV T v T.length).length ∧ (m = (atV T v T.length).length ↔ ∀ i k, i < T.length → k < T.length → hasB (T! T i) v = true → hasB (T! T k) v = true → Conn (BAdj T v) i k) := by
                    rcases hfs with ⟨h, _⟩ | ⟨_, h⟩
                    · omega
                    · exact h
                  by_cases pm : p = m
                  · have HN := Lib.hid (show 0 < (atV T v T.length).length ∧ ∀ i k, i < T.length → k < T.length → hasB (T! T i) v = true → hasB (T! T k) v = true → Conn (BAdj T v) i k from ⟨by omega, hm2.1 (by omega)⟩)
                    subst pm
                    clear hp hfs hm1 hm2
                    go_wp2
                    go_roundw
                    case rel => exact ⟨v + 1, by omega, by go_num, fun u hu => by
                      by_cases e : u = v
                      · subst e; exact HN.out
                      · exact HFA.out u (by omega), HB2.out⟩
                    case measure => simp [intOf]; omega
                  · have HF := Lib.hid (show ¬ Surf n T from fun hs => pm (by have := hm2.2 (HX.out hs).2; omega))
                    have dn : ((p : Int) != (m : Int)) = true := by simp; omega
                    have dn2 : (p != m) = true := by simpa using pm
                    have dn3 : ((p : Int) == (m : Int)) = false := by simp; omega
                    clear hp hfs hm1 hm2
                    go_wp2
                    exact bodyPost_ret (v := .bool false) (by simp [results, Tryz.results15, go_sem]) rfl ⟨_, rfl, says_no HF.out, HBW2.out⟩
              · obtain rfl : v = n := by omega
                have HY := Lib.hid (show Surf v T from Surf.of_is (by omega) (by have := HNL.out; omega) (by rw [← HL.out]; exact HLL.out) (fun i k hi hk => HNO.out i k (by have := HL.out; omega) hk) (fun i k hi hk => HTW.out i k (by have := HL.out; omega) hk) (fun u hu => HFA.out u (by omega)))
                go_wp2
                exact bodyPost_ret (v := .bool true) (by simp [results, Tryz.results15, go_sem]) rfl ⟨_, rfl, says_yes HY.out, HBw.out⟩
end Go.Proofs.YtfbpjlfimmjieaaGreat

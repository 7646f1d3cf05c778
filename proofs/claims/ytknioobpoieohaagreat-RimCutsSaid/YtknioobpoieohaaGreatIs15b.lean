/- gypsumref15.Fan: a vertex's triangles, and how many of them hang together. -/
import Derived.Test.YtknioobpoieohaaGreatIs15Law
namespace Go.Proofs.YtknioobpoieohaaGreat
set_option linter.unusedVariables false
set_option linter.unusedSimpArgs false
open Go.RowKit
theorem nat_ne_zero {n : Nat} (h : ¬ n = 0) : ((n : Int) == 0) = false := by simp; omega
def FanSays (T : List Tr) (v : Int) (m : Nat) : Prop :=
  (atV T v T.length).length = 0 ∧ m = 0 ∨ 0 < (atV T v T.length).length ∧ m ≤ (atV T v T.length).length ∧ (m = (atV T v T.length).length ↔ ∀ i k, i < T.length → k < T.length → hasB (T! T i) v = true → hasB (T! T k) v = true → Conn (BAdj T v) i k)
/-- In the middle of the marking. -/
def FSt (T : List Tr) (v : Int) (I : List Nat) (W ws : World) (r i k : Nat) (β : Nat → Bool) (m : Nat) : Prop := RowIs ws W.heap.size 4 (bv β T.length) ∧ FInv T v I r i k β m ∧ Below W.heap.size W ws
theorem FSt.more {T : List Tr} {v : Int} {I : List Nat} {W ws wt : World} {r i k : Nat} {β : Nat → Bool} {m : Nat} (h : FSt T v I W ws r i k β m) (hb : Below ws.heap.size ws wt) : FSt T v I W wt r i k β m :=
  ⟨h.1.below hb h.1.lt, h.2.1, below_more h.2.2 hb h.2.2.size⟩
theorem FSt.inv {T : List Tr} {v : Int} {I : List Nat} {W ws : World} {r i k r' i' k' : Nat} {β : Nat → Bool} {m : Nat} (h : FSt T v I W ws r i k β m) (f : FInv T v I r i k β m → FInv T v I r' i' k' β m) : FSt T v I W ws r' i' k' β m :=
  ⟨h.1, f h.2.1, h.2.2⟩
theorem FSt.mle {T : List Tr} {v : Int} {W ws : World} {r i k : Nat} {β : Nat → Bool} {m : Nat} (h : FSt T v (atV T v T.length) W ws r i k β m) : m ≤ T.length := by
  have h1 : m ≤ (atV T v T.length).length := by rw [h.2.1.cnt]; exact nTrue_le fun t ht hb => (h.2.1.sound t ht hb).1
  have := atV_le T v T.length
  omega
set_option maxRecDepth 100000 in
set_option maxHeartbeats 2000000 in
theorem fan15 (N : Int) (ao : Option Addr) (cap : Nat) (T : List Tr) (v : Int) (w : World) (hT : TrisAt w ao T) (hl : T.length ≤ 10000) (hsym : ∀ a b, BAdj T v a b → BAdj T v b a) :
    Calls Tryz.prog 44 #[.agg #[.int .i64 N, .slice ao T.length cap], .int .i64 v] w fun e w' => ∃ n m : Nat, e = .returned (.tuple #[.int .i64 (n : Int), .int .i64 (m : Int)]) ∧ n = (atV T v T.length).length ∧ FanSays T v m ∧ Below w.heap.size w w' := by
  obtain ⟨i0, hi, hz0, hz1, hz2⟩ := info_parts info3
  obtain ⟨len, hlen⟩ : ∃ n, n = T.length := ⟨_, rfl⟩
  rw [← hlen] at hl ⊢
  have HL := Lib.hid hlen
  have HSY := Lib.hid hsym
  have HT := Lib.hid (hT.mono (Nat.le_refl _) ((Below.refl _ _).alloc (Nat.le_refl _) (.cells #[.int .i64 N, .slice ao len cap] 24)))
  clear hlen hT hsym
  go_enter Tryz.func44, Tryz.ntmps44
  go_wp2
  go_loopw [7, 6] (fun i u ws => ∃ (k : Nat), k ≤ len ∧ i = .int .i64 k ∧ ws.ownsRow (w.heap.size + 1) 3 1 u (atV T v k).length (nv (atV T v k)) ∧
      Below (w.heap.size + 1) (w.alloc (.cells #[.int .i64 N, .slice ao len cap] 24)) ws) (fun i _ _ => len - (intOf i).toNat)
  case atStart => exact ⟨0, by omega, rfl, by exact World.ownsRow_nil _ _ _ _, Below.refl _ _⟩
  case round =>
    obtain ⟨k, hk, rfl, hown, hb⟩ := hrel
    obtain ⟨hc0, hc1, hbw, hsz⟩ := box_soup hb
    have hle := atV_le T v k
    have HW := Lib.hid hown
    have HB := Lib.hid hb
    have HBw := Lib.hid hbw
    clear hbw
    by_cases hlt : k < len
    · obtain ⟨b, off, x, y, z, rfl, ht, g0, g1, g2, hbs, hbs'⟩ := HT.out.get (by simp) HB.out (i := k) (by have := HL.out; omega)
      clear hown hb hbs
      have hct := fun w => has15 x y z v w
      cases hh : hasB (x, y, z) v
      · rw [hh] at hct
        have HC := Lib.hid hct
        have hE := atV_succ_no (T := T) (v := v) (k := k) (by rw [ht.out]; exact hh)
        have HE := Lib.hid hE
        clear hct hh hE
        go_wp2_with fail
        refine (HC.out _).mono ?_
        rintro e w2 ⟨rfl, hb2⟩
        have HB2 := Lib.hid (below_more HB.out hb2 (by omega))
        have HW2 := Lib.hid (owns_below HW.out hb2)
        clear hb2
        go_wp2
        go_roundw
        case rel => exact ⟨k + 1, by omega, by go_num, by rw [HE.out]; exact HW2.out, HB2.out⟩
        case measure => simp [intOf]; omega
      · rw [hh] at hct
        have HC := Lib.hid hct
        have hE := atV_succ_yes (T := T) (v := v) (k := k) (by rw [ht.out]; exact hh)
        have HE := Lib.hid hE
        clear hct hh hE
        go_wp2_with fail
        refine (HC.out _).mono ?_
        rintro e w2 ⟨rfl, hb2⟩
        have HB2 := Lib.hid (below_more HB.out hb2 (by omega))
        have HW2 := Lib.hid (owns_below HW.out hb2)
        have hs2 := hb2.size
        clear hb2 hc0 hc1 g0 g1 g2
        go_wp2_with (at_builtin; refine wpList_append_new _ rfl _ _ 26 rfl (w.heap.size + 1) 3 i0 _ 1 8 (by kernel_rfl) hi hz0 hz1 hz2 rfl (by decide) _ _ _ rfl HW2.out _ _ _ rfl (by first | rfl | simp) rfl ?_ ?_ ?_ ?_ ?_)
        · first | rfl | (intro u hu; simp at hu; subst hu; rfl)
        · unfold maxLen; omega
        · omega
        · omega
        · intro v' w3 hown3 hbel hgr
          have HW3 := Lib.hid hown3
          have HB3 := Lib.hid (hbel (w.heap.size + 1) _ (Nat.le_refl _) HB2.out)
          clear hown3 hbel hgr
          go_wp2
          go_roundw
          case rel => exact ⟨k + 1, by omega, by go_num, by
            rw [HE.out, nv_snoc, List.length_append]
            exact HW3.out, HB3.out⟩
          case measure => simp [intOf]; omega
    · obtain rfl : len = k := by omega
      obtain ⟨W1, rfl⟩ : ∃ W1 : World, W1 = wr := ⟨_, rfl⟩
      have HmT := Lib.hid (show len = T.length from HL.out)
      obtain ⟨I, hI⟩ : ∃ I, I = atV T v len := ⟨_, rfl⟩
      rw [← hI] at hle hown HW
      have HII := Lib.hid hI
      clear hI hb
      by_cases hm0 : I.length = 0
      · have HE := Lib.hid (show FanSays T v 0 from .inl ⟨by rw [← HmT.out, ← HII.out]; exact hm0, rfl⟩)
        obtain ⟨io, icap, rfl⟩ := owns_slice hown
        have HN := Lib.hid (show 0 = I.length from hm0.symm)
        rw [hm0]
        clear hm0 hown HW
        go_wp2
        exact bodyPost_ret (v := .tuple #[.int .i64 0, .int .i64 0]) (by simp [results, Tryz.results44, go_sem]) rfl ⟨0, 0, rfl, by rw [← HII.out]; exact HN.out, HE.out, HBw.out⟩
      · have hm1 := nat_ne_zero hm0
        have hmp : 0 < I.length := by omega
        obtain ⟨gi, icap, rfl, hgb, hgl, hcap, hcm, hcell, -⟩ := owns_block hown hmp
        have HIC := Lib.hid (show ∀ j, j < I.length → W1.cell? ⟨gi, j, none⟩ = some (.int .i64 ((I.getD j 0 : Nat) : Int)) from fun j hj => hcell j _ (by
          refine nv_get ?_
          rw [List.getD_eq_getElem?_getD, List.getElem?_eq_getElem hj]; rfl))
        have hlt0 : I.getD 0 0 < len := by
          have := mem_getD hmp
          rw [HII.out] at this
          have := (atV_mem.1 this).1
          rw [← HII.out] at this
          exact this
        have hci := HIC.out 0 hmp
        clear hi hz0 hz1 hz2 i0 hcell hown HW
        obtain ⟨i0, hi, hz0, hz1, hz2⟩ := info_parts info4
        go_wp2_with (at_make; refine wpList_make_full _ rfl _ _ _ rfl W1.heap.size 4 i0 (.bool false) 1 (by kernel_rfl) hi hz0 hz1 _ _ _ _ len rfl rfl rfl rfl (by rw [hz2]; omega) (by unfold maxLen; omega) (Nat.le_refl _) ?_)
        intro w2 hown2 hgr2
        rw [madeCells_bv] at hown2
        have hrow := RowIs.of_owns hown2
        have hb2 : Below W1.heap.size W1 w2 := (Below.refl _ _).grown hgr2 (Nat.le_refl _) (by simp)
        obtain ⟨q, hq⟩ : ∃ q, q = I.getD 0 0 := ⟨_, rfl⟩
        rw [← hq] at hci hlt0
        have hc0' := hrow.cell (bv_get (fun _ => false) hlt0)
        have hf0' := hrow.free q
        have hci' := (hb2.cell (p := ⟨gi, 0, none⟩) hgl).trans hci
        have hr2 := hrow.set q (.bool true)
        rw [bv_set] at hr2
        have HS := Lib.hid (show FSt T v I W1 (w2.setCell ⟨W1.heap.size, q, none⟩ (.bool true)) 0 0 0 (updB (fun _ => false) q true) 1 from by
          refine ⟨by rw [← HmT.out]; exact hr2, ?_, hb2.setCell (Nat.le_refl _) _⟩
          rw [hq, HII.out, HmT.out]
          exact FInv.start (by rw [← HmT.out, ← HII.out]; exact hmp))
        clear hown2 hgr2 hrow hb2 hr2 hc0 hc1 hq hci
        go_wp2
        clear hc0' hf0' hci'
        have HXK := Lib.hid (show ∀ ws, Below W1.heap.size W1 ws → ws.cell? ⟨w.heap.size, 1, none⟩ = some (.slice ao len cap) ∧ TrisAt ws ao T ∧ (∀ j, j < I.length → ws.cell? ⟨gi, j, none⟩ = some (.int .i64 ((I.getD j 0 : Nat) : Int))) from fun ws hb =>
          ⟨(box_soup (below_more HB.out hb (by omega))).2.1, HT.out.mono (by simp) (below_more HB.out hb (by omega)), fun j hj => (hb.cell (p := ⟨gi, _, none⟩) hgl).trans (HIC.out j hj)⟩)
        go_loopw [10, 9] (fun i c ws => ∃ (r m : Nat) (β : Nat → Bool), r ≤ I.length ∧ i = .int .i64 r ∧ c = .int .i64 m ∧ FSt T v I W1 ws r 0 0 β m) (fun i _ _ => I.length - (intOf i).toNat)
        case atStart => exact ⟨0, 1, _, by omega, rfl, rfl, HS.out⟩
        case round =>
          clear HS
          obtain ⟨r, m, β, hr, rfl, rfl, hst⟩ := hrel
          have hml : m ≤ len := by
            have h := hst
            rw [HII.out, HmT.out] at h
            rw [HmT.out]; exact h.mle
          have HS := Lib.hid hst
          clear hst
          by_cases hrm : r < I.length
          · go_wp2
            go_loopw [11, 9] (fun i c ws => ∃ (p m : Nat) (β : Nat → Bool), p ≤ I.length ∧ i = .int .i64 p ∧ c = .int .i64 m ∧ FSt T v I W1 ws r p 0 β m) (fun i _ _ => I.length - (intOf i).toNat)
            case atStart => exact ⟨0, m, β, by omega, rfl, rfl, HS.out⟩
            case round =>
              clear HS
              obtain ⟨p, m, β, hp, rfl, rfl, hst⟩ := hrel
              have hml : m ≤ len := by
                have h := hst
                rw [HII.out, HmT.out] at h
                rw [HmT.out]; exact h.mle
              have HS := Lib.hid hst
              clear hst
              by_cases hpm : p < I.length
              · go_wp2
                go_loopw [12, 9] (fun i c ws => ∃ (q m : Nat) (β : Nat → Bool), q ≤ I.length ∧ i = .int .i64 q ∧ c = .int .i64 m ∧ FSt T v I W1 ws r p q β m) (fun i _ _ => I.length - (intOf i).toNat)
                case atStart => exact ⟨0, m, β, by omega, rfl, rfl, HS.out⟩
                case round =>
                  clear HS
                  obtain ⟨q, m, β, hq, rfl, rfl, hst⟩ := hrel
                  have hml : m ≤ len := by
                    have h := hst
                    rw [HII.out, HmT.out] at h
                    rw [HmT.out]; exact h.mle
                  have HS := Lib.hid hst
                  by_cases hqm : q < I.length
                  · have hcp := HXK.out wr hst.2.2
                    obtain ⟨hxc, hxt, hxi⟩ := hcp
                    have hip := hxi p hpm
                    have hiq := hxi q hqm
                    have memI : ∀ j, j < I.length → I.getD j 0 < len := fun j hj => by
                      have := mem_getD hj
                      rw [HII.out] at this
                      have := (atV_mem.1 this).1
                      rwa [← HII.out] at this
                    have hpl := memI p hpm
                    have hql := memI q hqm
                    obtain ⟨tp, htp⟩ : ∃ x, Hid (I.getD p 0 = x) := ⟨_, rfl⟩
                    obtain ⟨tq, htq⟩ : ∃ x, Hid (I.getD q 0 = x) := ⟨_, rfl⟩
                    rw [htp.out] at hip hpl
                    rw [htq.out] at hiq hql
                    have hr1 := hst.1
                    rw [← HmT.out] at hr1
                    have hbp := hr1.cell (bv_get β hpl)
                    have hbq := hr1.cell (bv_get β hql)
                    have hbf := hr1.free tq
                    obtain ⟨x, hx⟩ : ∃ x, Hid (β tp = x) := ⟨_, rfl⟩
                    obtain ⟨y, hy⟩ : ∃ y, Hid (β tq = y) := ⟨_, rfl⟩
                    rw [hx.out] at hbp
                    rw [hy.out] at hbq
                    obtain ⟨W5, rfl⟩ : ∃ W5 : World, W5 = wr := ⟨_, rfl⟩
                    have HDD := Lib.hid (show ∀ n, Below W5.heap.size W5 (W5.drewN n) from fun _ => ⟨rfl, rfl, rfl, Nat.le_refl _, fun _ _ => rfl⟩)
                    have HD1 := Lib.hid (show Below W5.heap.size W5 W5.drew from ⟨rfl, rfl, rfl, Nat.le_refl _, fun _ _ => rfl⟩)
                    have skip : (x = true → besB (T! T tp) (T! T tq) = true → y = true) → FInv T v I r p q β m → FInv T v I r p (q + 1) β m := fun hno hi => hi.keep (by
                      rw [htp.out, htq.out, hx.out, hy.out]; exact hno)
                    cases x
                    · have HS' := Lib.hid (HS.out.inv (skip (fun h => by cases h)))
                      clear hst hr1 hbf hbq skip HS memI hxi hxt
                      go_upto_region 21 with fail
                      go_quiet (fail)
                      go_wp2
                      go_roundw
                      case rel => exact ⟨q + 1, m, β, by omega, by go_num, rfl, by first | exact HS'.out | exact HS'.out.more (HDD.out _)⟩
                      case measure => simp [intOf]; omega
                    · cases y
                      · obtain ⟨b, off, a1, a2, a3, hE1, ht1, p0, p1, p2, hbs, -⟩ := hxt.get (Nat.le_refl _) (Below.refl _ _) (i := tp) (by rw [← HmT.out]; exact hpl)
                        subst hE1
                        obtain ⟨b', off', b1, b2, b3, hE2, ht2, q0, q1, q2, -, -⟩ := hxt.get (Nat.le_refl _) (Below.refl _ _) (i := tq) (by rw [← HmT.out]; exact hql)
                        cases hE2
                        have hgl5 : gi < W5.heap.size := by have := hst.2.2.size; omega
                        have hwl5 : w.heap.size < W5.heap.size := by have := hst.2.2.size; omega
                        have hrl := hr1.lt
                        have HK := Lib.hid (show ∀ w', Hid (Below W5.heap.size W5 w') → w'.cell? ⟨gi, p, none⟩ = some (.int .i64 (tp : Int)) ∧ w'.cell? ⟨gi, q, none⟩ = some (.int .i64 (tq : Int)) ∧ w'.cell? ⟨W1.heap.size, tp, none⟩ = some (.bool true) ∧ w'.cell? ⟨W1.heap.size, tq, none⟩ = some (.bool false) ∧
                            w'.cell? ⟨w.heap.size, 1, none⟩ = some (.slice (some ⟨b, off, none⟩) len cap) ∧ w'.cell? ⟨b, off + tp * 3, none⟩ = some (.int .i64 a1) ∧ w'.cell? ⟨b, off + tp * 3 + 1, none⟩ = some (.int .i64 a2) ∧ w'.cell? ⟨b, off + tp * 3 + 2, none⟩ = some (.int .i64 a3) ∧
                            w'.cell? ⟨b, off + tq * 3, none⟩ = some (.int .i64 b1) ∧ w'.cell? ⟨b, off + tq * 3 + 1, none⟩ = some (.int .i64 b2) ∧ w'.cell? ⟨b, off + tq * 3 + 2, none⟩ = some (.int .i64 b3) from fun w' hb' =>
                          ⟨(hb'.out.cell (p := ⟨gi, _, none⟩) hgl5).trans hip, (hb'.out.cell (p := ⟨gi, _, none⟩) hgl5).trans hiq, (hb'.out.cell (p := ⟨W1.heap.size, _, none⟩) hrl).trans hbp, (hb'.out.cell (p := ⟨W1.heap.size, _, none⟩) hrl).trans hbq,
                            (hb'.out.cell (p := ⟨w.heap.size, _, none⟩) hwl5).trans hxc, (hb'.out.cell (p := ⟨b, _, none⟩) hbs).trans p0, (hb'.out.cell (p := ⟨b, _, none⟩) hbs).trans p1, (hb'.out.cell (p := ⟨b, _, none⟩) hbs).trans p2,
                            (hb'.out.cell (p := ⟨b, _, none⟩) hbs).trans q0, (hb'.out.cell (p := ⟨b, _, none⟩) hbs).trans q1, (hb'.out.cell (p := ⟨b, _, none⟩) hbs).trans q2⟩)
                        have HCA := Lib.hid (show ∀ (s : Bool), besB (a1, a2, a3) (b1, b2, b3) = s → ∀ w', Hid (Below W5.heap.size W5 w') → Calls Tryz.prog 73 #[.agg #[.int .i64 a1, .int .i64 a2, .int .i64 a3], .agg #[.int .i64 b1, .int .i64 b2, .int .i64 b3]] w' fun e w'' => e = .returned (.bool s) ∧ Hid (Below W5.heap.size W5 w'') from fun s hs w' hb' => by
                          have := bes15 (a1, a2, a3) (b1, b2, b3) w'
                          rw [hs] at this
                          exact this.mono fun e w'' ⟨q1, q2⟩ => ⟨q1, below_more hb'.out q2 hb'.out.size⟩)
                        have HBS := Lib.hid (show besB (T! T tp) (T! T tq) = besB (a1, a2, a3) (b1, b2, b3) from by rw [ht1.out, ht2.out])
                        have HSK := Lib.hid skip
                        have HRW := Lib.hid (show ∀ w', Below W5.heap.size W5 w' → w'.cell? ⟨W1.heap.size, tq, none⟩ = some (.bool false) ∧ w'.frozen? ⟨W1.heap.size, tq, none⟩ = false ∧ w'.cell? ⟨gi, q, none⟩ = some (.int .i64 (tq : Int)) from fun w' hb' =>
                          ⟨(hb'.cell (p := ⟨W1.heap.size, _, none⟩) hrl).trans hbq, (hr1.below hb' hrl).free tq, (hb'.cell (p := ⟨gi, _, none⟩) hgl5).trans hiq⟩)
                        clear hst hr1 hbf skip memI hxi hxt p0 p1 p2 q0 q1 q2 hip hiq hbp hbq hxc
                        cases hbes : besB (a1, a2, a3) (b1, b2, b3)
                        · have HCC := Lib.hid (HCA.out _ hbes)
                          have HS' := Lib.hid (HS.out.inv (HSK.out (fun _ h => by rw [HBS.out, hbes] at h; cases h)))
                          clear hbes
                          go_upto_region 21 with fail
                          go_region_held3 (fun w' => w'.cell? ⟨gi, p, none⟩ = some (.int .i64 (tp : Int)) ∧ w'.cell? ⟨gi, q, none⟩ = some (.int .i64 (tq : Int)) ∧ w'.cell? ⟨W1.heap.size, tp, none⟩ = some (.bool true) ∧ w'.cell? ⟨W1.heap.size, tq, none⟩ = some (.bool false) ∧
                            w'.cell? ⟨w.heap.size, 1, none⟩ = some (.slice (some ⟨b, off, none⟩) len cap) ∧ w'.cell? ⟨b, off + tp * 3, none⟩ = some (.int .i64 a1) ∧ w'.cell? ⟨b, off + tp * 3 + 1, none⟩ = some (.int .i64 a2) ∧ w'.cell? ⟨b, off + tp * 3 + 2, none⟩ = some (.int .i64 a3) ∧
                            w'.cell? ⟨b, off + tq * 3, none⟩ = some (.int .i64 b1) ∧ w'.cell? ⟨b, off + tq * 3 + 1, none⟩ = some (.int .i64 b2) ∧ w'.cell? ⟨b, off + tq * 3 + 2, none⟩ = some (.int .i64 b3)) (exact HK.out _ (by assumption))
                            (first | (go_at_call 73; (with_reducible refine (HCC.out _ (by assumption)).mono ?_); rintro e wA ⟨rfl, hhA⟩))
                          all_goals
                            go_wp2
                            go_roundw
                            case rel => exact ⟨q + 1, m, β, by omega, by go_num, rfl, HS'.out.more hhA.out⟩
                            case measure => simp [intOf]; omega
                        · have HCC := Lib.hid (HCA.out _ hbes)
                          have HFI := Lib.hid (show FInv T v I r p (q + 1) (updB β tq true) (m + 1) from by
                            have h := HS.out.2.1
                            have hip : p < (atV T v T.length).length := by rw [← HmT.out, ← HII.out]; exact hpm
                            have hiq : q < (atV T v T.length).length := by rw [← HmT.out, ← HII.out]; exact hqm
                            have eI : atV T v T.length = I := by rw [HII.out, HmT.out]
                            rw [← eI] at h
                            have h2 := h.mark hip hiq (by rw [eI, htp.out]; exact hx.out) (by rw [eI, htq.out]; exact hy.out) (by rw [eI, htp.out, htq.out, HBS.out]; exact hbes)
                            rw [eI, htq.out] at h2
                            exact h2)
                          clear hbes
                          go_upto_region 21 with fail
                          go_region_held3 (fun w' => w'.cell? ⟨gi, p, none⟩ = some (.int .i64 (tp : Int)) ∧ w'.cell? ⟨gi, q, none⟩ = some (.int .i64 (tq : Int)) ∧ w'.cell? ⟨W1.heap.size, tp, none⟩ = some (.bool true) ∧ w'.cell? ⟨W1.heap.size, tq, none⟩ = some (.bool false) ∧
                            w'.cell? ⟨w.heap.size, 1, none⟩ = some (.slice (some ⟨b, off, none⟩) len cap) ∧ w'.cell? ⟨b, off + tp * 3, none⟩ = some (.int .i64 a1) ∧ w'.cell? ⟨b, off + tp * 3 + 1, none⟩ = some (.int .i64 a2) ∧ w'.cell? ⟨b, off + tp * 3 + 2, none⟩ = some (.int .i64 a3) ∧
                            w'.cell? ⟨b, off + tq * 3, none⟩ = some (.int .i64 b1) ∧ w'.cell? ⟨b, off + tq * 3 + 1, none⟩ = some (.int .i64 b2) ∧ w'.cell? ⟨b, off + tq * 3 + 2, none⟩ = some (.int .i64 b3)) (exact HK.out _ (by assumption))
                            (first | (go_at_call 73; (with_reducible refine (HCC.out _ (by assumption)).mono ?_); rintro e wA ⟨rfl, hhA⟩))
                          all_goals
                            obtain ⟨k0, k1, k2⟩ := HRW.out _ hhA.out
                            have HSM := Lib.hid (HS.out.more hhA.out)
                            go_wp2
                            go_roundw
                            case rel => exact ⟨q + 1, m + 1, updB β tq true, by omega, by go_num, by go_num, by
                              refine ⟨?_, HFI.out, HSM.out.2.2.setCell (Nat.le_refl _) _⟩
                              have := HSM.out.1.set tq (.bool true)
                              rw [bv_set] at this
                              exact this⟩
                            case measure => simp [intOf]; omega
                      · have HS' := Lib.hid (HS.out.inv (skip (fun _ _ => rfl)))
                        clear hst hr1 hbf skip HS memI hxi hxt
                        go_upto_region 21 with fail
                        go_quiet (fail)
                        go_wp2
                        go_roundw
                        case rel => exact ⟨q + 1, m, β, by omega, by go_num, rfl, by first | exact HS'.out | exact HS'.out.more (HDD.out _)⟩
                        case measure => simp [intOf]; omega
                  · obtain rfl : q = I.length := by omega
                    clear hst
                    go_wp2
                    go_roundw
                    case rel => exact ⟨p + 1, m, β, by omega, by go_num, rfl, HS.out.inv FInv.row⟩
                    case measure => simp [intOf]; omega
              · obtain rfl : p = I.length := by omega
                go_wp2
                go_roundw
                case rel => exact ⟨r + 1, m, β, by omega, by go_num, rfl, HS.out.inv FInv.round⟩
                case measure => simp [intOf]; omega
          · obtain rfl : r = I.length := by omega
            have HF := Lib.hid (show FanSays T v m from by
              have h := HS.out.2.1
              rw [HII.out, HmT.out] at h
              have := h.stop HSY.out
              exact .inr ⟨by rw [← HmT.out, ← HII.out]; exact hmp, this.1, this.2⟩)
            go_wp2
            exact bodyPost_ret (v := .tuple #[.int .i64 (I.length : Int), .int .i64 (m : Int)]) (by simp [results, Tryz.results44, go_sem]) rfl ⟨I.length, m, rfl, by rw [HII.out, HmT.out], HF.out, below_more HBw.out HS.out.2.2 (by omega)⟩
end Go.Proofs.YtknioobpoieohaaGreat

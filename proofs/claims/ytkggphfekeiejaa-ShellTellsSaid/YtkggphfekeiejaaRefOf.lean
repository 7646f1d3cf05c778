/- gypsumref13.Of: the shells' numbers by the reference. -/
import Derived.Test.YtkggphfekeiejaaNb
import Derived.Test.YtkggphfekeiejaaSpread
import Derived.Test.YtkggphfekeiejaaCornerNew
import Derived.StillTailTactics
import Derived.Deep.DeepCutAuto
import Derived.Deep.RegionHeld3
namespace Go.Proofs.Ytkggphfekeiejaa
set_option linter.unusedVariables false
set_option linter.unusedSimpArgs false
open Go.RowKit
/-- Two triangles of a list are neighbours. -/
def NbA (T : List Tr) (i j : Nat) : Prop := i < T.length ∧ j < T.length ∧ nbB (T! T i) (T! T j) = true
theorem nbB_iff {t u : Tr} : nbB t u = true ↔ ∃ i k, i < 3 ∧ k < 3 ∧ tg t i = tg u ((k + 1) % 3) ∧ tg t ((i + 1) % 3) = tg u k := by
  constructor
  · intro h
    unfold nbB at h
    simp only [List.any_eq_true, List.mem_range, nbP, Bool.and_eq_true, beq_iff_eq] at h
    obtain ⟨i, hi, k, hk, h1, h2⟩ := h
    exact ⟨i, k, hi, hk, h1, h2⟩
  · rintro ⟨i, k, hi, hk, h1, h2⟩
    exact nbB_yes hi hk (by simp [nbP, h1, h2])
theorem nbB_symm {t u : Tr} (h : nbB t u = true) : nbB u t = true := by
  obtain ⟨i, k, hi, hk, h1, h2⟩ := nbB_iff.1 h
  exact nbB_iff.2 ⟨k, i, hk, hi, h2.symm, h1.symm⟩
theorem NbA.symm {T : List Tr} {i j : Nat} (h : NbA T i j) : NbA T j i := ⟨h.2.1, h.1, nbB_symm h.2.2⟩
def nat2 (φ : Nat → Nat) : Nat → Int := fun j => (φ j : Int)
theorem nat2_upd (φ : Nat → Nat) (i v : Nat) : upd (nat2 φ) i (v : Int) = nat2 (updN φ i v) := by
  funext j
  unfold upd nat2 updN
  split <;> rfl
set_option maxRecDepth 100000 in
set_option maxHeartbeats 2000000 in
theorem rof_any (N : Int) (ao : Option Addr) (cap : Nat) (T : List Tr) (w : World) (hT : TrisAt w ao T) (hl : T.length ≤ 10000) :
    Calls Try.prog 17 #[.agg #[.int .i64 N, .slice ao T.length cap]] w fun e w' => ∃ g L, e = .returned (.slice (some ⟨g, 0, none⟩) T.length T.length) ∧ w.heap.size ≤ g ∧ RowIs w' g 3 (iv L T.length) ∧ IsShells (NbA T) T.length L ∧ Below w.heap.size w w' := by
  obtain ⟨i0, hi, hz0, hz1, hz2⟩ := info_parts info3
  obtain ⟨n, hn⟩ : ∃ n, n = T.length := ⟨_, rfl⟩
  rw [← hn] at hl ⊢
  have HN := Lib.hid hn
  have HT := Lib.hid (hT.mono (Nat.le_refl _) ((Below.refl _ _).alloc (Nat.le_refl _) (.cells #[.int .i64 N, .slice ao n cap] 24)))
  clear hn hT
  go_enter Try.func17, Try.ntmps17
  go_wp2_with (at_make; refine wpList_make_full _ rfl _ _ _ rfl (w.heap.size + 1) 3 i0 (.int .i64 0) 1 (by kernel_rfl) hi hz0 hz1 _ _ _ _ n rfl rfl rfl rfl (by rw [hz2]; omega) (by unfold maxLen; omega) (by simp) ?_)
  intro w1 hown hgrow
  rw [madeCells_iv] at hown
  have hrow := RowIs.of_owns hown
  have hb1 : Below (w.heap.size + 1) (w.alloc (.cells #[.int .i64 N, .slice ao n cap] 24)) w1 := (Below.refl _ _).grown hgrow (by simp) (by simp)
  have hrow1 : RowIs w1 (w.heap.size + 1) 3 (iv (fun _ => 0) n) := by simpa using hrow
  have HR := Lib.hid hrow1
  have HB := Lib.hid hb1
  clear hown hgrow hrow hrow1 hb1
  go_wp2
  go_loopw [4] (fun i ws => ∃ k : Nat, k ≤ n ∧ i = .int .i64 k ∧ RowIs ws (w.heap.size + 1) 3 (iv (fun j => if j < k then (j : Int) else 0) n) ∧ Below (w.heap.size + 1) (w.alloc (.cells #[.int .i64 N, .slice ao n cap] 24)) ws) (fun i _ => n - (intOf i).toNat)
  case atStart => exact ⟨0, Nat.zero_le _, rfl, by simpa using HR.out, HB.out⟩
  case round =>
    clear HR HB
    obtain ⟨k, hk, rfl, hr, hb⟩ := hrel
    obtain ⟨W1, rfl⟩ : ∃ W1 : World, W1 = wr := ⟨_, rfl⟩
    by_cases hlt : k < n
    · have hc := hr.cell (iv_get _ hlt)
      have hf := hr.free k
      have hr' := hr.set k (.int .i64 (k : Int))
      rw [iv_set, iv_congr (h := fun j => if j < k + 1 then (j : Int) else 0) (fun i _ => by unfold upd; by_cases e : i = k <;> simp [e]; by_cases q : i < k <;> simp [q] <;> omega)] at hr'
      have HR := Lib.hid hr'
      have HB := Lib.hid (hb.setCell (p := ⟨w.heap.size + 1, k, none⟩) (Nat.le_refl _) (.int .i64 (k : Int)))
      clear hr' hr hb
      go_wp2
      go_roundw
      case rel => exact ⟨k + 1, by omega, by go_num, HR.out, HB.out⟩
      case measure => simp [intOf]; omega
    · obtain rfl : k = n := by omega
      have HR := Lib.hid (show RowIs W1 (w.heap.size + 1) 3 (iv (nat2 fun j => j) k) from by
        rw [iv_congr (h := fun j => if j < k then (j : Int) else 0) (fun i hi => by simp [nat2, hi])]; exact hr)
      have HB := Lib.hid hb
      clear hr hb hlt
      go_wp2
      go_loopw [26] (fun v ws => ∃ (r : Nat) (φ : Nat → Nat), r ≤ k ∧ v = .int .i64 r ∧ RowIs ws (w.heap.size + 1) 3 (iv (nat2 φ) k) ∧ QInv (NbA T) k r φ ∧ Below (w.heap.size + 1) (w.alloc (.cells #[.int .i64 N, .slice ao k cap] 24)) ws) (fun v _ => k - (intOf v).toNat)
      case atStart => exact ⟨0, _, by omega, rfl, HR.out, QInv.start _ _, HB.out⟩
      case round =>
        clear HR HB
        obtain ⟨r, φ0, hr, rfl, hrow, hq, hb⟩ := hrel
        obtain ⟨W2, rfl⟩ : ∃ W2 : World, W2 = wr := ⟨_, rfl⟩
        have HR := Lib.hid hrow
        have HB := Lib.hid hb
        have HQ := Lib.hid hq
        clear hrow hb hq
        by_cases hrk : r < k
        · go_wp2
          go_loopw [5] (fun v ws => ∃ (i : Nat) (φ : Nat → Nat), i ≤ k ∧ v = .int .i64 i ∧ RowIs ws (w.heap.size + 1) 3 (iv (nat2 φ) k) ∧ RInv (NbA T) k φ0 φ i 0 ∧ Below (w.heap.size + 1) (w.alloc (.cells #[.int .i64 N, .slice ao k cap] 24)) ws) (fun v _ => k - (intOf v).toNat)
          case atStart => exact ⟨0, φ0, by omega, rfl, HR.out, RInv.start HQ.out.sp, HB.out⟩
          case round =>
            clear HR HB
            obtain ⟨i, φ, hi9, rfl, hrow, hq, hb⟩ := hrel
            obtain ⟨W3, rfl⟩ : ∃ W3 : World, W3 = wr := ⟨_, rfl⟩
            have HR := Lib.hid hrow
            have HB := Lib.hid hb
            have HI := Lib.hid hq
            clear hrow hb hq
            by_cases hik : i < k
            · go_wp2
              go_loopw [6] (fun v ws => ∃ (j : Nat) (φ : Nat → Nat), j ≤ k ∧ v = .int .i64 j ∧ RowIs ws (w.heap.size + 1) 3 (iv (nat2 φ) k) ∧ RInv (NbA T) k φ0 φ i j ∧ Below (w.heap.size + 1) (w.alloc (.cells #[.int .i64 N, .slice ao k cap] 24)) ws) (fun v _ => k - (intOf v).toNat)
              case atStart => exact ⟨0, φ, by omega, rfl, HR.out, HI.out, HB.out⟩
              case round =>
                clear HR HB HI
                obtain ⟨j, φ, hj9, rfl, hrow, hq, hb⟩ := hrel
                obtain ⟨W4, rfl⟩ : ∃ W4 : World, W4 = wr := ⟨_, rfl⟩
                by_cases hjk : j < k
                · obtain ⟨hc0, hc1, hbw, hsz⟩ := box_soup hb
                  have ci := hrow.cell (iv_get _ hik)
                  have cj := hrow.cell (iv_get _ hjk)
                  have HR := Lib.hid hrow
                  have HB := Lib.hid hb
                  have HI := Lib.hid hq
                  clear hrow hq hbw
                  obtain ⟨a, ha⟩ : ∃ a, a = φ j := ⟨_, rfl⟩
                  obtain ⟨b, hb9⟩ : ∃ b, b = φ i := ⟨_, rfl⟩
                  replace ci : W4.cell? ⟨w.heap.size + 1, i, none⟩ = some (.int .i64 (b : Int)) := by rw [hb9]; exact ci
                  replace cj : W4.cell? ⟨w.heap.size + 1, j, none⟩ = some (.int .i64 (a : Int)) := by rw [ha]; exact cj
                  by_cases hab : a < b
                  · obtain ⟨sb, soff, x, y, z, rfl, ht, g0, g1, g2, hbs, hbs'⟩ := HT.out.get (by simp) hb (i := i) (by have := HN.out; omega)
                    obtain ⟨sb', soff', x', y', z', e9, ht', g0', g1', g2', -, -⟩ := HT.out.get (by simp) hb (i := j) (by have := HN.out; omega)
                    cases e9
                    have HC := Lib.hid (fun w => nb_tri x y z x' y' z' w)
                    have HAB := Lib.hid (show φ j < φ i from by omega)
                    have HA := Lib.hid ha
                    have hd1 : decide ((a : Int) < (b : Int)) = true := by simp; omega
                    have hd2 : decide (a < b) = true := by simp; omega
                    clear hb hbs hb9 ha hab
                    go_upto_region 14 with fail
                    go_still_tail 20, (by kernel_rfl)
                    have HLT := Lib.hid (show i < T.length ∧ j < T.length from by have := HN.out; omega)
                    have hsz2 : w.heap.size + 1 < W4.heap.size := HR.out.lt
                    cases hnb : nbB (x, y, z) (x', y', z')
                    · rw [hnb] at HC
                      have HI2 := Lib.hid (HI.out.keep hik hjk (fun q => by
                        have := q.2.2.2
                        rw [ht.out, ht'.out, hnb] at this
                        cases this))
                      clear hnb ht ht'
                      go_wp2_with fail
                      refine (HC.out _).mono ?_
                      rintro e w5 ⟨rfl, hb5⟩
                      have hb6 : Below W4.heap.size W4 w5 := (show Below W4.heap.size W4 W4.drew from ⟨rfl, rfl, rfl, Nat.le_refl _, fun _ _ => rfl⟩).trans hb5
                      have HR5 := Lib.hid (HR.out.after hb6)
                      have HB5 := Lib.hid (below_more HB.out hb6 (by omega))
                      clear hb5 hb6 ci cj g0 g1 g2 g0' g1' g2'
                      go_wp2
                      go_roundw
                      case rel => exact ⟨j + 1, φ, by omega, by go_num, HR5.out, HI2.out, HB5.out⟩
                      case measure => simp [intOf]; omega
                    · rw [hnb] at HC
                      have HI2 := Lib.hid (HI.out.move hik hjk HAB.out ⟨HLT.out.1, HLT.out.2, by rw [ht.out, ht'.out, hnb]⟩)
                      clear hnb ht ht'
                      go_wp2_with fail
                      refine (HC.out _).mono ?_
                      rintro e w5 ⟨rfl, hb5⟩
                      have hb6 : Below W4.heap.size W4 w5 := (show Below W4.heap.size W4 W4.drew from ⟨rfl, rfl, rfl, Nat.le_refl _, fun _ _ => rfl⟩).trans hb5
                      have HR5 := Lib.hid (HR.out.after hb6)
                      have HB5 := Lib.hid ((below_more HB.out hb6 (by omega)).setCell (p := ⟨w.heap.size + 1, i, none⟩) (Nat.le_refl _) (.int .i64 (a : Int)))
                      have cj5 : w5.cell? ⟨w.heap.size + 1, j, none⟩ = some (.int .i64 (a : Int)) := (hb6.cell (p := ⟨w.heap.size + 1, j, none⟩) hsz2).trans cj
                      have ci5 : w5.cell? ⟨w.heap.size + 1, i, none⟩ = some (.int .i64 (b : Int)) := (hb6.cell (p := ⟨w.heap.size + 1, i, none⟩) hsz2).trans ci
                      have fi5 := HR5.out.free i
                      have HR6 := Lib.hid (show RowIs (w5.setCell ⟨w.heap.size + 1, i, none⟩ (.int .i64 (a : Int))) (w.heap.size + 1) 3 (iv (nat2 (updN φ i (φ j))) k) from by
                        have := HR5.out.set i (.int .i64 (a : Int))
                        rw [HA.out, iv_set, nat2_upd] at this
                        rw [HA.out]; exact this)
                      clear hb5 hb6 ci cj g0 g1 g2 g0' g1' g2'
                      go_wp2
                      go_roundw
                      case rel => exact ⟨j + 1, _, by omega, by go_num, HR6.out, HI2.out, HB5.out⟩
                      case measure => simp [intOf]; omega
                  · have HI2 := Lib.hid (HI.out.keep hik hjk (fun q => hab (by omega)))
                    have hd1 : decide ((a : Int) < (b : Int)) = false := by simp; omega
                    have hd2 : decide (a < b) = false := by simp; omega
                    clear hb ha hb9 hab
                    go_upto_region 14 with fail
                    go_quiet (fail)
                    go_wp2
                    go_roundw
                    case rel => exact ⟨j + 1, φ, by omega, by go_num, by first | exact HR.out | exact HR.out.drew1 | exact HR.out.drew _, HI2.out, HB.out.trans ⟨rfl, rfl, rfl, Nat.le_refl _, fun _ _ => rfl⟩⟩
                    case measure => simp [intOf]; omega
                · obtain rfl : j = k := by omega
                  have HR := Lib.hid hrow
                  have HB := Lib.hid hb
                  have HI := Lib.hid hq.next
                  clear hrow hb hq
                  go_wp2
                  go_roundw
                  case rel => exact ⟨i + 1, φ, by omega, by go_num, HR.out, HI.out, HB.out⟩
                  case measure => simp [intOf]; omega
            · obtain rfl : i = k := by omega
              have HQ2 := Lib.hid (HQ.out.step (fun _ _ h => by have := HN.out; exact ⟨by have := h.1; omega, by have := h.2.1; omega⟩) (fun _ _ h => h.symm) HI.out)
              go_wp2
              go_roundw
              case rel => exact ⟨r + 1, φ, by omega, by go_num, HR.out, HQ2.out, HB.out⟩
              case measure => simp [intOf]; omega
        · obtain rfl : r = k := by omega
          have HP := Lib.hid HQ.out.done
          have HBW := Lib.hid (box_soup HB.out).2.2.1
          have hsz2 : w.heap.size + 1 < W2.heap.size := HR.out.lt
          go_wp2_with (at_make; refine wpList_make_full _ rfl _ _ _ rfl W2.heap.size 3 i0 (.int .i64 0) 1 (by kernel_rfl) hi hz0 hz1 _ _ _ _ r rfl rfl rfl rfl (by rw [hz2]; omega) (by unfold maxLen; omega) (by simp) ?_)
          intro w3 hown hgrow
          rw [madeCells_iv] at hown
          have hrow3 := RowIs.of_owns hown
          have hb3 : Below W2.heap.size W2 w3 := (Below.refl _ _).grown hgrow (by simp) (by simp)
          have HR3 := Lib.hid (HR.out.after hb3)
          have HB3 := Lib.hid (below_more HBW.out hb3 HBW.out.size)
          have HM3 := Lib.hid hrow3
          have hsw : w.heap.size ≤ W2.heap.size := HBW.out.size
          clear hown hgrow hrow3 hb3 HR HB HQ
          go_wp2
          go_loopw [8, 9] (fun v8 v9 ws => ∃ (i c : Nat) (M : Nat → Int), i ≤ r ∧ c ≤ i ∧ v8 = .int .i64 c ∧ v9 = .int .i64 i ∧ RowIs ws (w.heap.size + 1) 3 (iv (nat2 φ0) r) ∧ RowIs ws W2.heap.size 3 (iv M r) ∧ NInv φ0 i c M ∧ Below w.heap.size w ws) (fun _ v _ => r - (intOf v).toNat)
          case atStart => exact ⟨0, 0, _, by omega, by omega, rfl, rfl, HR3.out, HM3.out, NInv.start _ _, HB3.out⟩
          case round =>
            clear HR3 HM3 HB3
            obtain ⟨i, c, M, hi9, hci, rfl, rfl, hr3, hm3, hn3, hb3⟩ := hrel
            obtain ⟨W5, rfl⟩ : ∃ W5 : World, W5 = wr := ⟨_, rfl⟩
            have HR3 := Lib.hid hr3
            have HM3 := Lib.hid hm3
            have HN3 := Lib.hid hn3
            have HB3 := Lib.hid hb3
            clear hn3 hb3
            by_cases hik : i < r
            · have ci := hr3.cell (iv_get _ hik)
              have fm := hm3.free i
              have hsl := hm3.lt
              obtain ⟨a, ha⟩ : ∃ a, a = φ0 i := ⟨_, rfl⟩
              replace ci : W5.cell? ⟨w.heap.size + 1, i, none⟩ = some (.int .i64 (a : Int)) := by rw [ha]; exact ci
              have cm := hm3.cell (iv_get M hik)
              by_cases hai : a = i
              · subst hai
                have HN4 := Lib.hid (HN3.out.fresh HP.out hik ha.symm)
                have hm4 := hm3.set a (.int .i64 (c : Int))
                rw [iv_set] at hm4
                have HM4 := Lib.hid hm4
                have HR4 := Lib.hid (hr3.other (p := ⟨W2.heap.size, a, none⟩) (show W2.heap.size ≠ w.heap.size + 1 by omega) (.int .i64 (c : Int)))
                have HB4 := Lib.hid (HB3.out.setCell (p := ⟨W2.heap.size, a, none⟩) hsw (.int .i64 (c : Int)))
                clear hr3 hm3 hm4 ha
                generalize M a = ma at cm
                go_wp2
                go_roundw
                case rel => exact ⟨a + 1, c + 1, _, by omega, by omega, by go_num, by go_num, HR4.out, HM4.out, HN4.out, HB4.out⟩
                case measure => simp [intOf]; omega
              · obtain ⟨hai2, hn4⟩ := HN3.out.same HP.out hik (by omega)
                rw [← ha] at hai2 hn4
                have HN4 := Lib.hid hn4
                have cma := hm3.cell (iv_get M (show a < r by omega))
                have hm4 := hm3.set i (.int .i64 (M a))
                rw [iv_set] at hm4
                have HM4 := Lib.hid hm4
                have HR4 := Lib.hid (hr3.other (p := ⟨W2.heap.size, i, none⟩) (show W2.heap.size ≠ w.heap.size + 1 by omega) (.int .i64 (M a)))
                have HB4 := Lib.hid (HB3.out.setCell (p := ⟨W2.heap.size, i, none⟩) hsw (.int .i64 (M a)))
                have hq1 : ((a : Int) == (i : Int)) = false := by simp; omega
                have hq2 : (a == i) = false := by simp; omega
                clear hr3 hm3 hm4 ha hn4 hai
                generalize M i = mi at cm
                obtain ⟨ma, hma⟩ : ∃ ma, ma = M a := ⟨_, rfl⟩
                rw [← hma] at cma HM4 HR4 HB4 HN4
                clear hma
                go_wp2
                go_roundw
                case rel => exact ⟨i + 1, c, _, by omega, by omega, rfl, by go_num, HR4.out, HM4.out, HN4.out, HB4.out⟩
                case measure => simp [intOf]; omega
            · obtain rfl : i = r := by omega
              have HF := Lib.hid (HN3.out.done HP.out)
              clear hr3 hm3
              go_wp2
              exact bodyPost_ret (v := .slice (some ⟨W2.heap.size, 0, none⟩) i i) (by simp [results, Try.results17, go_sem]) rfl ⟨W2.heap.size, M, rfl, hsw, HM3.out, HF.out, HB3.out⟩
end Go.Proofs.Ytkggphfekeiejaa

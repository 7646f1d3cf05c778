/- gypsumlaw13.ShellJoins: the walk. -/
import Derived.Test.YtkggphfekeiejaaRefJoin
import Derived.Test.YtkggphfekeiejaaPartRows
import Derived.Test.YtkggphfekeiejaaJoin
import Derived.Test.YtkggphfekeiejaaAwake
import Derived.Deep.RegionHeld3
namespace Go.Proofs.Ytkggphfekeiejaa
set_option linter.unusedVariables false
set_option linter.unusedSimpArgs false
open Go.RowKit
theorem pc_succ (F : Nat → Nat → Value) (k : Nat) : pc F (k + 1) = pc F k ++ [F k 0, F k 1, F k 2, F k 3] := by
  apply List.ext_getElem?
  intro i
  by_cases h : i < k * 4
  · rw [List.getElem?_append_left (by rw [pc_length]; exact h)]
    simp [pc, h, show i < (k + 1) * 4 by omega]
  · rw [List.getElem?_append_right (by rw [pc_length]; omega), pc_length]
    by_cases h2 : i < (k + 1) * 4
    · have h1 : i / 4 = k := by omega
      have hc : i - k * 4 = i % 4 := by omega
      have h3 : i % 4 < 4 := by omega
      rw [hc]
      simp only [pc, List.getElem?_map, List.getElem?_range h2, Option.map_some, h1]
      match e : i % 4, h3 with
      | 0, _ => rfl
      | 1, _ => rfl
      | 2, _ => rfl
      | 3, _ => rfl
    · rw [List.getElem?_eq_none (show (pc F (k + 1)).length ≤ i by rw [pc_length]; omega), List.getElem?_eq_none (show [F k 0, F k 1, F k 2, F k 3].length ≤ i - k * 4 by simp; omega)]
theorem own_drew {X : World} {base : Nat} {e : TypeId} {sz n : Nat} {v : Value} {xs : List Value} (h : X.ownsRow base e sz v n xs) : X.drew.ownsRow base e sz v n xs := h
theorem own_alloc {X : World} {base : Nat} {e : TypeId} {sz n : Nat} {v : Value} {xs : List Value} (h : X.ownsRow base e sz v n xs) (o : Obj) : (X.alloc o).ownsRow base e sz v n xs := h.alloc o
set_option maxRecDepth 100000 in
set_option maxHeartbeats 1500000 in
theorem joins_any (P : Nat → PartV) (m cap : Nat) (a : Option Addr) (w : World) (hm : m ≤ 9223372036854775807) (h : PartsOff w a P m) :
    Calls Try.prog 8 #[.slice a m cap] w fun e w' => e = .returned (.bool true) ∧ Below w.heap.size w w' := by
  obtain ⟨b, o, F, hb, hF⟩ := h.vals
  have HF := Lib.hid hF
  have HP := Lib.hid h
  by_cases h30 : m ≤ 30
  case neg =>
    have hd : decide ((m : Int) > 30) = true := by simp; omega
    clear h hF hb
    go_enter Try.func8, Try.ntmps8
    go_wp2_with fail
    refine (awake_ok _).mono ?_
    rintro e w1 ⟨rfl, hb1⟩
    have HB1 := Lib.hid hb1
    clear hb1
    go_wp2_with fail
    refine (awake_ok _).mono ?_
    rintro e w2 ⟨rfl, hb2⟩
    have HB2 := Lib.hid (below_more HB1.out hb2 HB1.out.size)
    clear hb2
    go_wp2
    exact bodyPost_ret (v := .bool true) (by simp [results, Try.results8, go_sem]) rfl ⟨rfl, HB2.out⟩
  case pos =>
  have hd : decide ((m : Int) > 30) = false := by simp; omega
  clear h hF
  go_enter Try.func8, Try.ntmps8
  go_wp2_with fail
  refine (awake_ok _).mono ?_
  rintro e w1 ⟨rfl, hb1⟩
  have HB1 := Lib.hid hb1
  clear hb1
  go_wp2
  go_loopw [4, 3] (fun i u ws => ∃ (k : Nat) (v : Value), k ≤ m ∧ v = u ∧ i = .int .i64 k ∧ ws.ownsRow w.heap.size 40 4 v k (pc F k) ∧ Sized P k ∧ Below w.heap.size w ws) (fun i _ _ => m - (intOf i).toNat)
  case atStart => exact ⟨0, _, by omega, rfl, rfl, World.ownsRow_nil _ _ _ _, fun k h => by omega, HB1.out⟩
  case round =>
    clear HB1
    obtain ⟨k, v, hk, rfl, rfl, hown, hsz, hbl⟩ := hrel
    obtain ⟨W1, rfl⟩ : ∃ W1 : World, W1 = wr := ⟨_, rfl⟩
    have HO := Lib.hid hown
    have HS := Lib.hid hsz
    have HB := Lib.hid hbl
    clear hown hsz
    by_cases hlt : k < m
    · obtain ⟨rfl, hbw⟩ := hb (by omega)
      obtain ⟨⟨c0, c1, c2, c3⟩, aoS, cS, aoV, cV, aoT, cT, e0, e1, e2, e3, -, -, -⟩ := HF.out k hlt
      have HE := Lib.hid (show [F k 0, F k 1, F k 2, F k 3] = [.int .i64 (P k).N, .slice aoS (P k).S.length cS, .slice aoV (P k).V.length cV, .slice aoT (P k).T.length cT] from by rw [e0, e1, e2, e3])
      rw [e0] at c0
      rw [e1] at c1
      rw [e2] at c2
      rw [e3] at c3
      obtain ⟨lT, hlT⟩ : ∃ l, l = (P k).T.length := ⟨_, rfl⟩
      obtain ⟨lV, hlV⟩ : ∃ l, l = (P k).V.length := ⟨_, rfl⟩
      obtain ⟨lS, hlS⟩ : ∃ l, l = (P k).S.length := ⟨_, rfl⟩
      obtain ⟨PN, hPN⟩ : ∃ l, l = (P k).N := ⟨_, rfl⟩
      rw [← hPN] at c0 HE
      rw [← hlS] at c1 HE
      rw [← hlV] at c2 HE
      rw [← hlT] at c3 HE
      have HKS := Lib.hid (show ∀ X, Below w.heap.size w X → X.cell? ⟨b, o + k * 4, none⟩ = some (.int .i64 PN) ∧ X.cell? ⟨b, o + k * 4 + 1, none⟩ = some (.slice aoS lS cS) ∧ X.cell? ⟨b, o + k * 4 + 2, none⟩ = some (.slice aoV lV cV) ∧ X.cell? ⟨b, o + k * 4 + 3, none⟩ = some (.slice aoT lT cT) from fun X hX =>
        ⟨(hX.cell (p := ⟨b, _, none⟩) hbw).trans c0, (hX.cell (p := ⟨b, _, none⟩) hbw).trans c1, (hX.cell (p := ⟨b, _, none⟩) hbw).trans c2, (hX.cell (p := ⟨b, _, none⟩) hbw).trans c3⟩)
      obtain ⟨d0, d1, d2, d3⟩ := HKS.out W1 hbl
      clear c0 c1 c2 c3
      have HSZ := Lib.hid (show lS ≤ 30 → lT ≤ 30 → lV ≤ 90 → Sized P (k + 1) from fun h1 h2 h3 i hi => by
        by_cases e : i = k
        · subst e; exact ⟨by omega, by omega, by omega⟩
        · exact HS.out i (by omega))
      clear e0 e1 e2 e3 hlT hlV hlS hPN
      by_cases q1 : lS ≤ 30
      case neg =>
        have hd1 : decide ((lS : Int) > 30) = true := by simp; omega
        go_wp2
        exact bodyPost_ret (v := .bool true) (by simp [results, Try.results8, go_sem]) rfl ⟨rfl, HB.out⟩
      case pos =>
      have hd1 : decide ((lS : Int) > 30) = false := by simp; omega
      by_cases q2 : lT ≤ 30
      case neg =>
        have hd2 : decide ((lT : Int) > 30) = true := by simp; omega
        go_wp2
        exact bodyPost_ret (v := .bool true) (by simp [results, Try.results8, go_sem]) rfl ⟨rfl, HB.out⟩
      case pos =>
      have hd2 : decide ((lT : Int) > 30) = false := by simp; omega
      by_cases q3 : lV ≤ 90
      case neg =>
        have hd3 : decide ((lV : Int) > 90) = true := by simp; omega
        go_wp2
        exact bodyPost_ret (v := .bool true) (by simp [results, Try.results8, go_sem]) rfl ⟨rfl, HB.out⟩
      case pos =>
      have hd3 : decide ((lV : Int) > 90) = false := by simp; omega
      by_cases q4 : PN > 90
      case pos =>
        have hd4 : decide (PN > 90) = true := by simpa using q4
        go_wp2
        exact bodyPost_ret (v := .bool true) (by simp [results, Try.results8, go_sem]) rfl ⟨rfl, HB.out⟩
      case neg =>
      have hd4 : decide (PN > 90) = false := by simpa using q4
      have HSZ' := Lib.hid (HSZ.out q1 q2 q3)
      clear q1 q2 q3 q4 HSZ HS
      go_upto_region 9 with fail
      clear d0 d1 d2 d3
      go_region_held3 (fun w' => w'.cell? ⟨b, o + k * 4, none⟩ = some (.int .i64 PN) ∧ w'.cell? ⟨b, o + k * 4 + 1, none⟩ = some (.slice aoS lS cS) ∧ w'.cell? ⟨b, o + k * 4 + 2, none⟩ = some (.slice aoV lV cV) ∧ w'.cell? ⟨b, o + k * 4 + 3, none⟩ = some (.slice aoT lT cT))
        (exact HKS.out _ (by repeat (first | exact hbl | with_reducible apply below_alloc | with_reducible apply below_drew)))
        (first
          | (refine step_part (W := w) (by rfl) _ _ (by rfl) (by repeat (first | exact hbl | with_reducible apply below_alloc | with_reducible apply below_drew)) (by rfl) (by repeat (first | exact HO.out | with_reducible apply own_alloc | with_reducible apply own_drew)) (by rfl) (by repeat (first | with_reducible exact RowIs.made _ _ _ | with_reducible apply RowIs.alloc | with_reducible apply RowIs.drew1)) (by intro u hu; simp at hu; rcases hu with rfl | rfl | rfl | rfl <;> rfl) (by omega) ?_; intro g10 cap10 w10 hown10 hbl))
      all_goals
        go_wp2_with fail
        go_roundw
        case rel => exact ⟨k + 1, _, by omega, rfl, by go_num, by rw [pc_succ, HE.out]; exact hown10, HSZ'.out, hbl⟩
        case measure => simp [intOf]; omega
    · obtain rfl : k = m := by omega
      obtain ⟨a9, c9, rfl, hp9⟩ := partsAt_row (P := P) HO.out fun q hq => (HF.out q hq).2.mono hbl
      have HP9 := Lib.hid hp9
      clear hp9 hbl
      go_wp2_with fail
      refine (join_any P k c9 _ W1 (by omega) HS.out HP9.out).mono ?_
      rintro e w2 ⟨N1, ao1, cap1, T1, x1, rfl, hx1, hr1, hz1, ht1, hb2⟩
      have HB2 := Lib.hid (below_alloc (below_more HB.out hb2 HB.out.size) (.cells #[.int .i64 N1, .slice ao1 T1.length cap1] 24))
      have HX2 := Lib.hid (RowIs.made w2 24 [.int .i64 N1, .slice ao1 T1.length cap1])
      have HT2 := Lib.hid (ht1.mono (Nat.le_refl _) ((Below.refl _ _).alloc (Nat.le_refl _) (.cells #[.int .i64 N1, .slice ao1 T1.length cap1] 24)))
      have HP2 := Lib.hid (HP.out.mono HB2.out)
      have HR1 := Lib.hid hr1
      have HZ1 := Lib.hid hz1
      have HX1 := Lib.hid hx1
      obtain ⟨l1, hl1⟩ : ∃ l, l = T1.length := ⟨_, rfl⟩
      rw [← hl1] at HB2 HX2 HT2 HP2 ⊢
      have HL1 := Lib.hid hl1
      clear hb2 ht1 hr1 hz1 hx1 hl1 HP9
      go_wp2_with fail
      refine (rjoin_any P k cap a _ (by omega) HS.out HP2.out).mono ?_
      rintro e w3 ⟨N2, ao2, cap2, T2, x2, rfl, hx2, hr2, hz2, ht2, hb3⟩
      obtain rfl : x2 = x1 := hx2.trans HX1.out.symm
      have HB3 := Lib.hid (below_alloc (below_more HB2.out hb3 HB2.out.size) (.cells #[.int .i64 N2, .slice ao2 T2.length cap2] 24))
      have hba : Below w3.heap.size w3 (w3.alloc (.cells #[.int .i64 N2, .slice ao2 T2.length cap2] 24)) := (Below.refl _ _).alloc (Nat.le_refl _) _
      have HX3 := Lib.hid ((HX2.out.after hb3).after hba)
      have HY3 := Lib.hid (RowIs.made w3 24 [.int .i64 N2, .slice ao2 T2.length cap2])
      have HT3 := Lib.hid ((HT2.out.mono (Nat.le_refl _) hb3).mono (Nat.le_refl _) hba)
      have HU3 := Lib.hid (ht2.mono (Nat.le_refl _) hba)
      have x0 := HX3.out.cell (i := 0) rfl
      have xx := HX3.out.cell (i := 1) rfl
      clear hb3 hba ht2 hx2 HX2 HT2 HP2 HX1
      by_cases hc : x2 = 0
      · have hlen : T1.length ≤ 100000 := by
          rw [(HR1.out hc).2]
          have := gather_len (X := fun k => (P k).T) (m := k) fun q hq => (HS.out q hq).2.2
          simp only [List.length_map, List.length_range]
          unfold allT
          omega
        obtain rfl : N2 = N1 := (hr2 hc).1.trans (HR1.out hc).1.symm
        obtain rfl : T2 = T1 := (hr2 hc).2.trans (HR1.out hc).2.symm
        have HSM := Lib.hid (same_any N2 N2 ao1 ao2 cap1 cap2 T2 T2 _ hlen HT3.out HU3.out)
        rw [← HL1.out] at HSM HB3 HY3 x0 xx ⊢
        subst hc
        clear hz2 hr2 HR1 HZ1 hlen HU3 HT3
        go_wp2_with fail
        refine HSM.out.mono ?_
        rintro e w5 ⟨rfl, hb5⟩
        have HB5 := Lib.hid (below_more HB3.out hb5 HB3.out.size)
        clear hb5 x0 xx
        simp only [and_self, decide_true]
        go_wp2
        exact bodyPost_ret (v := .bool true) (by simp [results, Try.results8, go_sem]) rfl ⟨rfl, HB5.out⟩
      · obtain ⟨rfl, rfl⟩ := hz2 hc
        obtain ⟨rfl, rfl⟩ := HZ1.out hc
        have hd5 : (x2 == 0) = false := by simpa using hc
        have hd6 : (x2 != 0) = true := by simpa using hc
        obtain rfl : l1 = 0 := HL1.out
        clear hz2 hr2 HR1 HZ1 hc
        simp only [List.length_nil]
        simp only [List.length_nil] at x0 xx
        go_wp2
        exact bodyPost_ret (v := .bool true) (by simp [results, Try.results8, go_sem]) rfl ⟨rfl, HB3.out⟩
end Go.Proofs.Ytkggphfekeiejaa

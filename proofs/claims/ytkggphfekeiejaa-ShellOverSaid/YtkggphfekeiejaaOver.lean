/- gypsumlaw13.ShellOver: the walk. -/
import Derived.Test.YtkggphfekeiejaaShellC
import Derived.Test.YtkggphfekeiejaaAwake
namespace Go.Proofs.Ytkggphfekeiejaa
set_option linter.unusedVariables false
set_option linter.unusedSimpArgs false
open Go.RowKit
theorem vt_nat (T : List Tr) (c : Nat) : vt T (c : Int) = tg (T! T (c / 3)) (c % 3) := by unfold vt; simp
theorem hasB_vt {T : List Tr} {c : Nat} : hasB (T! T (c / 3)) (vt T (c : Int)) = true := hasB_iff.2 ⟨c % 3, by omega, (vt_nat T c).symm⟩
theorem vertex_quiet (T : List Tr) (N : Int) (b : Nat) (w : World) (c : Nat) (h : Tab w b N T) (hc : c < 3 * T.length) : ∀ q, Calls Try.prog 22 #[.pointer (some ⟨b, 0, none⟩), .int .i64 (c : Int)] (w.drewN q) fun e w' => e = .returned (.int .i64 (vt T (c : Int))) ∧ ∃ r, w' = w.drewN r := fun q =>
  (vertex_any (c : Int) (w.drewN q) b N T h.len (h.s.mono (Nat.le_refl _) ⟨rfl, rfl, rfl, Nat.le_refl _, fun _ _ => rfl⟩) (by omega) (by omega)).mono fun e w' h => ⟨h.1, q, h.2.symm⟩
set_option maxRecDepth 100000 in
set_option maxHeartbeats 1500000 in
theorem over_any (N : Int) (ao : Option Addr) (cap : Nat) (T : List Tr) (w : World) (hT : TrisAt w ao T) (hm : T.length ≤ 9223372036854775807) :
    Calls Try.prog 5 #[.agg #[.int .i64 N, .slice ao T.length cap]] w fun e w' => e = .returned (.bool true) ∧ Below w.heap.size w w' := by
  have hb0 : Below w.heap.size w (w.alloc (.cells #[.int .i64 N, .slice ao T.length cap] 24)) := (Below.refl _ _).alloc (Nat.le_refl _) _
  have HF := Lib.hid (fits_any N ao cap T _ (hT.mono (Nat.le_refl _) hb0) hm)
  have HT := Lib.hid hT
  have HB0 := Lib.hid hb0
  have HX := Lib.hid (RowIs.made w 24 [.int .i64 N, .slice ao T.length cap])
  obtain ⟨n, hn⟩ : ∃ n, n = T.length := ⟨_, rfl⟩
  rw [← hn] at HF HB0 HX ⊢
  have HN := Lib.hid hn
  clear hn hT hb0 hm
  go_enter Try.func5, Try.ntmps5
  go_wp2_with fail
  refine HF.out.mono ?_
  intro e w1 hpost
  rcases hpost with ⟨p, rfl, hp, htab, hs, h30, h90, hb⟩ | ⟨rfl, hb⟩
  case inr =>
    have HB1 := Lib.hid (below_more HB0.out hb HB0.out.size)
    clear hb
    go_wp2_with fail
    refine (awake_ok _).mono ?_
    rintro e w2 ⟨rfl, hb2⟩
    have HB2 := Lib.hid (below_more HB1.out hb2 HB1.out.size)
    clear hb2
    go_wp2_with fail
    refine (awake_ok _).mono ?_
    rintro e w3 ⟨rfl, hb3⟩
    have HB3 := Lib.hid (below_more HB2.out hb3 HB2.out.size)
    clear hb3
    go_wp2
    exact bodyPost_ret (v := .bool true) (by simp [results, Try.results5, go_sem]) rfl ⟨rfl, HB3.out⟩
  case inl =>
    have HB1 := Lib.hid (below_more HB0.out hb HB0.out.size)
    have HX1 := Lib.hid (HX.out.after hb)
    have HTB1 := Lib.hid htab
    have HS := Lib.hid hs
    have hn30 : n ≤ 30 := by have := HN.out; omega
    clear hb htab hs HX HB0 HF h30 hp
    go_wp2_with fail
    refine (awake_ok _).mono ?_
    rintro e w2 ⟨rfl, hb2⟩
    have HB2 := Lib.hid (below_more HB1.out hb2 HB1.out.size)
    have HX2 := Lib.hid (HX1.out.after hb2)
    have HTB2 := Lib.hid (HTB1.out.mono (Nat.le_refl _) hb2)
    have HT2 := Lib.hid (HT.out.mono (Nat.le_refl _) HB2.out)
    obtain ⟨L, hL⟩ := shells_exist (Adj T) T.length
    obtain ⟨m, hm⟩ := Int.eq_ofNat_of_zero_le (cnt_nonneg L T.length)
    have hmn : m ≤ 30 := by have := hL.cnt_le; have := HN.out; omega
    have HL := Lib.hid hL
    have HM := Lib.hid hm.symm
    clear hb2 hL hm HB1 HX1 HTB1
    go_wp2_with fail
    refine (of_L HS.out HL.out w2 p HTB2.out).mono ?_
    rintro e w3 ⟨g, rfl, hg, hr3, hb3⟩
    rw [← HN.out] at hr3 ⊢
    have HR3 := Lib.hid hr3
    have HB3 := Lib.hid (below_more HB2.out hb3 HB2.out.size)
    have HX3 := Lib.hid (HX2.out.after hb3)
    have HTB3 := Lib.hid (HTB2.out.mono (Nat.le_refl _) hb3)
    have x1 := HX3.out.cell (i := 1) rfl
    clear hr3 hb3 hg HX2 HTB2 HT2 HT HB2
    go_wp2
    clear x1
    go_loopw [33] (fun v ws => ∃ c : Nat, c ≤ 3 * n ∧ v = .int .i64 c ∧ Below w3.heap.size w3 ws) (fun v _ => 3 * n - (intOf v).toNat)
    case atStart => exact ⟨0, by omega, rfl, Below.refl _ _⟩
    case round =>
      obtain ⟨c, hc, rfl, hb⟩ := hrel
      obtain ⟨W4, rfl⟩ : ∃ W4 : World, W4 = wr := ⟨_, rfl⟩
      have HB4 := Lib.hid hb
      by_cases hlt : c < 3 * n
      · have HTB4 := Lib.hid (HTB3.out.mono (Nat.le_refl _) hb)
        have hcT : (c : Int) < 3 * T.length := by have := HN.out; omega
        clear hb
        go_wp2_with fail
        refine (opp_any (c : Int) W4 p N T HTB4.out (by omega) hcT).mono ?_
        rintro e w5 ⟨rfl, hb5⟩
        have HB5 := Lib.hid (below_more HB4.out hb5 HB4.out.size)
        have HTB5 := Lib.hid (HTB4.out.mono (Nat.le_refl _) hb5)
        have hr5 := HR3.out.after HB5.out
        obtain ⟨c3, hc3⟩ : ∃ q, q = c / 3 := ⟨_, rfl⟩
        have hc3n : c3 < n := by omega
        have s1 : (c : Int) / 3 = (c3 : Int) := by omega
        have k1 := hr5.cell (iv_get L hc3n)
        have HOP := Lib.hid (show 0 ≤ opp T (c : Int) → ∃ o o3 : Nat, opp T (c : Int) = (o : Int) ∧ o < 3 * n ∧ o3 = o / 3 ∧ L c3 = L o3 from fun h0 => by
          obtain ⟨o, ho⟩ := Int.eq_ofNat_of_zero_le h0
          have hlt' := opp_lt (T := T) (c : Int) (by omega) hcT
          have hnn := HN.out
          refine ⟨o, o / 3, ho, by omega, rfl, ?_⟩
          refine (HL.out.clo c3 (o / 3) (by omega) (by omega) ⟨c % 3, by omega, ?_, ?_⟩).symm
          · rw [show (3 * (c3 : Int) + ((c % 3 : Nat) : Int)) = (c : Int) by omega]; exact h0
          · rw [show (3 * (c3 : Int) + ((c % 3 : Nat) : Int)) = (c : Int) by omega, ho]; simp)
        obtain ⟨oc, hoc⟩ : ∃ o, o = opp T (c : Int) := ⟨_, rfl⟩
        rw [← hoc] at HOP ⊢
        clear hoc hb5 HTB4 HB4 hcT
        go_upto_region 11 with fail
        go_cut [53] (fun s wc => s = .bool false ∧ Below w3.heap.size w3 wc)
        case first =>
          by_cases h0 : 0 ≤ oc
          · obtain ⟨o, o3, e1, ho, ho3, heq⟩ := HOP.out h0
            subst e1
            have s2 : (o : Int) / 3 = (o3 : Int) := by omega
            have ho3n : o3 < n := by omega
            have k2 := hr5.cell (iv_get L ho3n)
            rw [← heq] at k2
            obtain ⟨l, hl⟩ : ∃ l, l = L c3 := ⟨_, rfl⟩
            rw [← hl] at k1 k2
            have hd : decide ((o : Int) ≥ 0) = true := by simp
            clear hl heq ho3 hc3 h0 hr5 HOP
            go_quiet (fail)
            go_wp2_with fail
            go_meet
            exact ⟨rfl, HB5.out.trans ⟨rfl, rfl, rfl, Nat.le_refl _, fun _ _ => rfl⟩⟩
          · have hd : decide (oc ≥ 0) = false := by simpa using h0
            clear hc3 h0 hr5 HOP k1 s1
            go_quiet (fail)
            go_wp2_with fail
            go_meet
            exact ⟨rfl, HB5.out.trans ⟨rfl, rfl, rfl, Nat.le_refl _, fun _ _ => rfl⟩⟩
        case rest =>
          obtain ⟨rfl, hbc⟩ := hcut
          obtain ⟨W6, rfl⟩ : ∃ W6 : World, W6 = wc := ⟨_, rfl⟩
          have HB6 := Lib.hid (show Below w3.heap.size w3 W6 from hbc)
          clear hbc k1 hr5 HTB5 HB5 HOP s1
          go_wp2
          go_loopw [55] (fun v ws => ∃ d : Nat, d ≤ c ∧ v = .int .i64 d ∧ Below w3.heap.size w3 ws) (fun v _ => c - (intOf v).toNat)
          case atStart => exact ⟨0, by omega, rfl, HB6.out⟩
          case round =>
            clear HB6
            obtain ⟨d, hd, rfl, hb⟩ := hrel
            obtain ⟨W7, rfl⟩ : ∃ W7 : World, W7 = wr := ⟨_, rfl⟩
            have HB7 := Lib.hid hb
            by_cases hdc : d < c
            · have htab7 := HTB3.out.mono (Nat.le_refl _) hb
              have HVC := Lib.hid (vertex_quiet T N p W7 c htab7 (by have := HN.out; omega))
              have HVD := Lib.hid (vertex_quiet T N p W7 d htab7 (by have := HN.out; omega))
              have hr7 := HR3.out.after hb
              obtain ⟨d3, hd3⟩ : ∃ q, q = d / 3 := ⟨_, rfl⟩
              have hd3n : d3 < n := by omega
              have s1 : (c : Int) / 3 = (c3 : Int) := by omega
              have s2 : (d : Int) / 3 = (d3 : Int) := by omega
              have k1 := hr7.cell (iv_get L hc3n)
              have k2 := hr7.cell (iv_get L hd3n)
              have HEQ := Lib.hid (show vt T (c : Int) = vt T (d : Int) → L c3 = L d3 from fun e => by
                have hnn := HN.out
                have q1 := hasB_vt (T := T) (c := c)
                have q2 := hasB_vt (T := T) (c := d)
                rw [← e] at q2
                rw [hc3, hd3]
                exact HS.out.at_vertex HL.out (by omega) (by omega) q1 q2)
              obtain ⟨vc, hvc⟩ : ∃ v, v = vt T (c : Int) := ⟨_, rfl⟩
              obtain ⟨vd, hvd⟩ : ∃ v, v = vt T (d : Int) := ⟨_, rfl⟩
              rw [← hvc] at HVC HEQ
              rw [← hvd] at HVD HEQ
              clear hvc hvd hb htab7 hr7 hd3
              by_cases he : vc = vd
              · have h9 := HEQ.out he
                subst he
                rw [← h9] at k2
                obtain ⟨l, hl⟩ : ∃ l, l = L c3 := ⟨_, rfl⟩
                rw [← hl] at k1 k2
                clear hl h9 hc3
                go_upto_region 16 with fail
                go_quiet ((go_at_call 22; first | with_reducible exact HVC.out _ | with_reducible exact HVD.out _))
                go_wp2
                go_roundw
                case rel => exact ⟨d + 1, by omega, by go_num, HB7.out.trans ⟨rfl, rfl, rfl, Nat.le_refl _, fun _ _ => rfl⟩⟩
                case measure => simp [intOf]; omega
              · have hb1 : (vc == vd) = false := by simpa using he
                clear he hc3 k1 k2 s1 s2 HEQ
                go_upto_region 16 with fail
                go_quiet ((go_at_call 22; first | with_reducible exact HVC.out _ | with_reducible exact HVD.out _))
                go_wp2
                go_roundw
                case rel => exact ⟨d + 1, by omega, by go_num, HB7.out.trans ⟨rfl, rfl, rfl, Nat.le_refl _, fun _ _ => rfl⟩⟩
                case measure => simp [intOf]; omega
            · obtain rfl : d = c := by omega
              clear hb
              go_wp2
              go_roundw
              case rel => exact ⟨d + 1, by omega, by go_num, HB7.out⟩
              case measure => simp [intOf]; omega
      · obtain rfl : c = 3 * n := by omega
        have HBG := Lib.hid (below_more HB3.out hb HB3.out.size)
        clear hb
        go_wp2
        exact bodyPost_ret (v := .bool true) (by simp [results, Try.results5, go_sem]) rfl ⟨rfl, HBG.out⟩
end Go.Proofs.Ytkggphfekeiejaa

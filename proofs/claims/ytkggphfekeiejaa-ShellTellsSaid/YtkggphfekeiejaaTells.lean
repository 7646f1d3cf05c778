/- gypsumlaw13.ShellTells: the walk. -/
import Derived.Test.YtkggphfekeiejaaShellC
import Derived.Test.YtkggphfekeiejaaAwake
import Derived.Test.YtkggphfekeiejaaSame
import Derived.Deep.RegionHeld3
namespace Go.Proofs.Ytkggphfekeiejaa
set_option linter.unusedVariables false
set_option linter.unusedSimpArgs false
open Go.RowKit
theorem part_sizes {N : Int} {T : List Tr} (hs : Surf N T) (L : Nat → Int) (n k : Nat) (hn : n ≤ T.length) : Hid ((partOf T L n k).S.length ≤ 100000) ∧ Hid ((partOf T L n k).V.length ≤ 100000) ∧ Hid ((partOf T L n k).T.length ≤ 100000) := by
  have h1 := ofShell_length L n k
  have h2 := hs.t1
  have h3 := hs.n1
  obtain ⟨M, rfl⟩ := Int.eq_ofNat_of_zero_le hs.n0
  have hv : refV T L n k M = vertsOf T (ofShell L n k) := refV_verts fun i hi j => hs.vin i (by omega) j
  have h4 := refV_length T L n k M
  rw [hv] at h4
  refine ⟨Lib.hid ?_, Lib.hid ?_, Lib.hid ?_⟩
  · simp [partOf]; omega
  · show (vertsOf T (ofShell L n k)).length ≤ 100000; omega
  · simp [partOf]; omega
set_option maxRecDepth 100000 in
set_option maxHeartbeats 1500000 in
theorem tells_any (N : Int) (ao : Option Addr) (cap : Nat) (T : List Tr) (w : World) (hT : TrisAt w ao T) (hm : T.length ≤ 9223372036854775807) :
    Calls Try.prog 3 #[.agg #[.int .i64 N, .slice ao T.length cap]] w fun e w' => e = .returned (.bool true) ∧ Below w.heap.size w w' := by
  have hb0 : Below w.heap.size w (w.alloc (.cells #[.int .i64 N, .slice ao T.length cap] 24)) := (Below.refl _ _).alloc (Nat.le_refl _) _
  have HF := Lib.hid (fits_any N ao cap T _ (hT.mono (Nat.le_refl _) hb0) hm)
  have HT := Lib.hid hT
  have HB0 := Lib.hid hb0
  have HX := Lib.hid (RowIs.made w 24 [.int .i64 N, .slice ao T.length cap])
  obtain ⟨n, hn⟩ : ∃ n, n = T.length := ⟨_, rfl⟩
  rw [← hn] at HF HB0 HX ⊢
  have HN := Lib.hid hn
  clear hn hT hb0 hm
  go_enter Try.func3, Try.ntmps3
  go_wp2_with fail
  refine HF.out.mono ?_
  intro e w1 hpost
  rcases hpost with ⟨p, rfl, hp, htab, hs, h30, h90, hb⟩ | ⟨rfl, hb⟩
  case inr =>
    have HB1 := Lib.hid (below_more HB0.out hb HB0.out.size)
    clear hb
    go_wp2_with fail
    refine (awake_ok _).mono ?_
    rintro e w2 ⟨rfl, hb2⟩
    have HB2 := Lib.hid (below_more HB1.out hb2 HB1.out.size)
    clear hb2
    go_wp2_with fail
    refine (awake_ok _).mono ?_
    rintro e w3 ⟨rfl, hb3⟩
    have HB3 := Lib.hid (below_more HB2.out hb3 HB2.out.size)
    clear hb3
    go_wp2
    exact bodyPost_ret (v := .bool true) (by simp [results, Try.results3, go_sem]) rfl ⟨rfl, HB3.out⟩
  case inl =>
    have HB1 := Lib.hid (below_more HB0.out hb HB0.out.size)
    have HX1 := Lib.hid (HX.out.after hb)
    have HTB1 := Lib.hid htab
    have HS := Lib.hid hs
    have hn30 : n ≤ 30 := by have := HN.out; omega
    clear hb htab hs HX HB0 HF h30 h90 hp
    go_wp2_with fail
    refine (awake_ok _).mono ?_
    rintro e w2 ⟨rfl, hb2⟩
    have HB2 := Lib.hid (below_more HB1.out hb2 HB1.out.size)
    have HX2 := Lib.hid (HX1.out.after hb2)
    have HTB2 := Lib.hid (HTB1.out.mono (Nat.le_refl _) hb2)
    have HT2 := Lib.hid (HT.out.mono (Nat.le_refl _) HB2.out)
    obtain ⟨L, hL⟩ := shells_exist (Adj T) T.length
    obtain ⟨m, hm⟩ := Int.eq_ofNat_of_zero_le (cnt_nonneg L T.length)
    have hmn : m ≤ 30 := by have := hL.cnt_le; have := HN.out; omega
    have HL := Lib.hid hL
    have HM := Lib.hid hm.symm
    clear hb2 hL hm HB1 HX1 HTB1
    go_upto_region 4 with fail
    obtain ⟨xb, hxb⟩ : ∃ xb, xb = w.heap.size := ⟨_, rfl⟩
    rw [← hxb]
    rw [← hxb] at HX2
    have HXB := Lib.hid hxb
    have x0 := HX2.out.cell (i := 0) rfl
    have x1 := HX2.out.cell (i := 1) rfl
    have hxl : xb < w2.heap.size := HX2.out.lt
    have HK := Lib.hid (show ∀ w', Hid (Below w2.heap.size w2 w') → w'.cell? ⟨xb, 0, none⟩ = some (.int .i64 N) ∧ w'.cell? ⟨xb, 1, none⟩ = some (.slice ao n cap) from fun w' hb => ⟨(hb.out.cell (p := ⟨xb, _, none⟩) hxl).trans x0, (hb.out.cell (p := ⟨xb, _, none⟩) hxl).trans x1⟩)
    have HC1 := Lib.hid (show ∀ w', Hid (Below w2.heap.size w2 w') → Calls Try.prog 13 #[.pointer (some ⟨p, 0, none⟩)] w' fun e w'' => ∃ a c, e = .returned (.slice a m c) ∧ PartsAt w'' a (partOf T L n) m ∧ Below w'.heap.size w' w'' ∧ Hid (Below w2.heap.size w2 w'') from fun w' hb =>
      (split_L HS.out HL.out HM.out w' p (HTB2.out.mono (Nat.le_refl _) hb.out)).mono fun e w'' ⟨a, c, h1, h2, h3⟩ => ⟨a, c, h1, by rw [HN.out]; exact h2, h3, below_more hb.out h3 hb.out.size⟩)
    have HC2 := Lib.hid (show ∀ w', Hid (Below w2.heap.size w2 w') → Calls Try.prog 14 #[.agg #[.int .i64 N, .slice ao n cap]] w' fun e w'' => ∃ a c, e = .returned (.slice a m c) ∧ PartsAt w'' a (partOf T L n) m ∧ Below w'.heap.size w' w'' ∧ Hid (Below w2.heap.size w2 w'') from fun w' hb => by
      have := rsplit_L HS.out HL.out HM.out ao cap w' (HT2.out.mono (Nat.le_refl _) hb.out)
      rw [← HN.out] at this
      exact this.mono fun e w'' ⟨a, c, h1, h2, h3⟩ => ⟨a, c, h1, h2, h3, below_more hb.out h3 hb.out.size⟩)
    have HD0 := Lib.hid (show Below w2.heap.size w2 w2.drew from ⟨rfl, rfl, rfl, Nat.le_refl _, fun _ _ => rfl⟩)
    clear x0 x1 hxb
    go_cut [5, 6] (fun s5 s6 wc => ∃ a5 c5 a6 c6, s5 = .slice a5 m c5 ∧ s6 = .slice a6 m c6 ∧ PartsAt wc a5 (partOf T L n) m ∧ PartsAt wc a6 (partOf T L n) m ∧ Below w2.heap.size w2 wc)
    case first =>
      go_region_held3 (fun w' => w'.cell? ⟨xb, 0, none⟩ = some (.int .i64 N) ∧ w'.cell? ⟨xb, 1, none⟩ = some (.slice ao n cap)) (exact HK.out _ (by assumption))
        (first | (go_at_call 13; (with_reducible refine (HC1.out _ (by assumption)).mono ?_); rintro e wA ⟨aA, cA, rfl, hpA, hbA, hhA⟩) | (go_at_call 14; (with_reducible refine (HC2.out _ (by assumption)).mono ?_); rintro e wB ⟨aB, cB, rfl, hpB, hbB, hhB⟩))
      all_goals
        go_wp2_with fail
        go_meet
        first
        | exact ⟨_, _, _, _, rfl, rfl, hpA.mono hbB, hpB, hhB.out⟩
        | exact ⟨_, _, _, _, rfl, rfl, hpA, hpB.mono hbA, hhA.out⟩
    case rest =>
      obtain ⟨a5, c5, a6, c6, rfl, rfl, hp5, hp6, hbc⟩ := hcut
      obtain ⟨W5, rfl⟩ : ∃ W5 : World, W5 = wc := ⟨_, rfl⟩
      have hb5 : Below w2.heap.size w2 W5 := hbc
      have HP5 := Lib.hid hp5
      have HP6 := Lib.hid hp6
      have HB5 := Lib.hid hb5
      have HX5 := Lib.hid (HX2.out.after hb5)
      have HK2 := Lib.hid (show ∀ w', Hid (Below W5.heap.size W5 w') → w'.cell? ⟨xb, 0, none⟩ = some (.int .i64 N) ∧ w'.cell? ⟨xb, 1, none⟩ = some (.slice ao n cap) from fun w' hb => HK.out w' (below_more HB5.out hb.out HB5.out.size))
      have HO1 := Lib.hid (show ∀ w', Hid (Below W5.heap.size W5 w') → Calls Try.prog 16 #[.pointer (some ⟨p, 0, none⟩)] w' fun e w'' => ∃ g, e = .returned (.slice (some ⟨g, 0, none⟩) n n) ∧ IntsAt w'' (some ⟨g, 0, none⟩) (il L n) ∧ Below w'.heap.size w' w'' ∧ Hid (Below W5.heap.size W5 w'') from fun w' hb => by
        have := of_L HS.out HL.out w' p (HTB2.out.mono (Nat.le_refl _) (below_more HB5.out hb.out HB5.out.size))
        rw [← HN.out] at this
        exact this.mono fun e w'' ⟨g, h1, _, h3, h4⟩ => ⟨g, h1, h3.ints, h4, below_more hb.out h4 hb.out.size⟩)
      have HO2 := Lib.hid (show ∀ w', Hid (Below W5.heap.size W5 w') → Calls Try.prog 17 #[.agg #[.int .i64 N, .slice ao n cap]] w' fun e w'' => ∃ g, e = .returned (.slice (some ⟨g, 0, none⟩) n n) ∧ IntsAt w'' (some ⟨g, 0, none⟩) (il L n) ∧ Below w'.heap.size w' w'' ∧ Hid (Below W5.heap.size W5 w'') from fun w' hb => by
        have := rof_L HS.out HL.out ao cap w' (HT2.out.mono (Nat.le_refl _) (below_more HB5.out hb.out HB5.out.size))
        rw [← HN.out] at this
        exact this.mono fun e w'' ⟨g, h1, _, h3, h4⟩ => ⟨g, h1, h3.ints, h4, below_more hb.out h4 hb.out.size⟩)
      have HO3 := Lib.hid (show ∀ (w' : World) (a b : Option Addr), IntsAt w' a (il L n) ∧ IntsAt w' b (il L n) → Hid (Below W5.heap.size W5 w') → Calls Try.prog 15 #[.slice a n n, .slice b n n] w' fun e w'' => e = .returned (.bool true) ∧ Hid (Below W5.heap.size W5 w'') from fun w' a b h hb => by
        have := ints_any a b n n (il L n) (il L n) w' (by rw [il_length]; omega) h.1 h.2
        rw [il_length] at this
        exact this.mono fun e w'' ⟨h1, h2⟩ => ⟨by rw [h1]; simp, below_more hb.out h2 hb.out.size⟩)
      have HO4 := Lib.hid (show ∀ w', Hid (Below W5.heap.size W5 w') → Calls Try.prog 18 #[.pointer (some ⟨p, 0, none⟩)] w' fun e w'' => e = .returned (.int .i64 (m : Int)) ∧ Hid (Below W5.heap.size W5 w'') from fun w' hb =>
        (count_L HS.out HL.out HM.out w' p (HTB2.out.mono (Nat.le_refl _) (below_more HB5.out hb.out HB5.out.size))).mono fun e w'' ⟨h1, h2⟩ => ⟨h1, below_more hb.out h2 hb.out.size⟩)
      have HD5 := Lib.hid (show Below W5.heap.size W5 W5.drew from ⟨rfl, rfl, rfl, Nat.le_refl _, fun _ _ => rfl⟩)
      clear hp5 hp6 hbc hb5
      go_upto_region 5 with fail
      go_cut [43] (fun s43 wd => s43 = .bool false ∧ Below W5.heap.size W5 wd)
      case first =>
        go_region_held3 (fun w' => w'.cell? ⟨xb, 0, none⟩ = some (.int .i64 N) ∧ w'.cell? ⟨xb, 1, none⟩ = some (.slice ao n cap)) (exact HK2.out _ (by assumption))
          (first | (go_at_call 16; (with_reducible refine (HO1.out _ (by assumption)).mono ?_); rintro e wA ⟨gA, rfl, hiA, hbA, hhA⟩) | (go_at_call 17; (with_reducible refine (HO2.out _ (by assumption)).mono ?_); rintro e wB ⟨gB, rfl, hiB, hbB, hhB⟩) | (go_at_call 15; (first | (with_reducible refine (HO3.out _ _ _ ⟨hiA.mono (Nat.le_refl _) hbB, hiB⟩ hhB).mono ?_) | (with_reducible refine (HO3.out _ _ _ ⟨hiA, hiB.mono (Nat.le_refl _) hbA⟩ hhA).mono ?_)); rintro e wD ⟨rfl, hhD⟩) | (go_at_call 18; (with_reducible refine (HO4.out _ (by assumption)).mono ?_); rintro e wE ⟨rfl, hhE⟩))
        all_goals
          go_wp2_with fail
          go_meet
          exact ⟨rfl, hhE.out⟩
      case rest =>
        obtain ⟨rfl, hbd⟩ := hcut
        obtain ⟨W6, rfl⟩ : ∃ W6 : World, W6 = wc := ⟨_, rfl⟩
        have HBD := Lib.hid (show Below W5.heap.size W5 W6 from hbd)
        have HSM := Lib.hid (show ∀ (w' : World) (P : PartV) (a b : Option Addr) (c d : Nat), Hid (P.S.length ≤ 100000) → TrisAt W5 a P.S → TrisAt W5 b P.S → Hid (Below W5.heap.size W5 w') → Calls Try.prog 19 #[.agg #[.int .i64 P.N, .slice a P.S.length c], .agg #[.int .i64 P.N, .slice b P.S.length d]] w' fun e w'' => e = .returned (.bool true) ∧ Hid (Below W5.heap.size W5 w'') from fun w' P a b c d hl h1 h2 hb =>
          (same_any P.N P.N a b c d P.S P.S w' hl.out (h1.mono (Nat.le_refl _) hb.out) (h2.mono (Nat.le_refl _) hb.out)).mono fun e w'' ⟨h1, h2⟩ => ⟨by rw [h1]; simp, below_more hb.out h2 hb.out.size⟩)
        have HIM := Lib.hid (show ∀ (w' : World) (V : List Int) (a b : Option Addr) (c d : Nat), Hid (V.length ≤ 100000) → IntsAt W5 a V → IntsAt W5 b V → Hid (Below W5.heap.size W5 w') → Calls Try.prog 15 #[.slice a V.length c, .slice b V.length d] w' fun e w'' => e = .returned (.bool true) ∧ Hid (Below W5.heap.size W5 w'') from fun w' V a b c d hl h1 h2 hb =>
          (ints_any a b c d V V w' hl.out (h1.mono (Nat.le_refl _) hb.out) (h2.mono (Nat.le_refl _) hb.out)).mono fun e w'' ⟨h1, h2⟩ => ⟨by rw [h1]; simp, below_more hb.out h2 hb.out.size⟩)
        have HLS := Lib.hid (fun k => part_sizes HS.out L n k (by have := HN.out; omega))
        have HBF := Lib.hid (below_more HB2.out (show Below w2.heap.size w2 W5 from HB5.out) HB2.out.size)
        clear hbd HO1 HO2 HO3 HO4 HC1 HC2 HK HK2 HX5 HX2 HD0 HD5 HTB2 HT2 HT
        go_wp2
        go_loopw [46] (fun v ws => ∃ k : Nat, k ≤ m ∧ v = .int .i64 k ∧ Below W5.heap.size W5 ws) (fun v _ => m - (intOf v).toNat)
        case atStart => exact ⟨0, by omega, rfl, HBD.out⟩
        case round =>
          obtain ⟨k, hk, rfl, hb⟩ := hrel
          obtain ⟨W9, rfl⟩ : ∃ W9 : World, W9 = wr := ⟨_, rfl⟩
          have HB9 := Lib.hid hb
          clear hb HBD
          by_cases hkm : k < m
          · obtain ⟨b5, e5, hl5, hk5⟩ := HP5.out (by omega)
            obtain ⟨b6, e6, hl6, hk6⟩ := HP6.out (by omega)
            subst e5
            subst e6
            obtain ⟨z1, z2, z3⟩ := HLS.out k
            have hq5 := hk5 k hkm
            have hq6 := hk6 k hkm
            obtain ⟨P, hP⟩ : ∃ P, P = partOf T L n k := ⟨_, rfl⟩
            rw [← hP] at hq5 hq6 z1 z2 z3
            obtain ⟨aoS, cS, aoV, cV, aoT, cT, c0, c1, c2, c3, hS, hV, hT⟩ := hq5
            obtain ⟨aoS', cS', aoV', cV', aoT', cT', d0, d1, d2, d3, hS', hV', hT'⟩ := hq6
            have HA1 := Lib.hid (fun w' h => HSM.out w' P aoS aoS' cS cS' z1 hS hS' h)
            have HA2 := Lib.hid (fun w' h => HIM.out w' P.V aoV aoV' cV cV' z2 hV hV' h)
            have HA3 := Lib.hid (fun w' h => HIM.out w' P.T aoT aoT' cT cT' z3 hT hT' h)
            obtain ⟨lS, hlS⟩ : ∃ l, l = P.S.length := ⟨_, rfl⟩
            obtain ⟨lV, hlV⟩ : ∃ l, l = P.V.length := ⟨_, rfl⟩
            obtain ⟨lT, hlT⟩ : ∃ l, l = P.T.length := ⟨_, rfl⟩
            obtain ⟨PN, hPN⟩ : ∃ l, l = P.N := ⟨_, rfl⟩
            rw [← hlS] at c1 d1 HA1
            rw [← hlV] at c2 d2 HA2
            rw [← hlT] at c3 d3 HA3
            rw [← hPN] at c0 d0 HA1
            have HK := Lib.hid (show ∀ w', Hid (Below W5.heap.size W5 w') → w'.cell? ⟨b5, k * 4, none⟩ = some (.int .i64 PN) ∧ w'.cell? ⟨b5, k * 4 + 1, none⟩ = some (.slice aoS lS cS) ∧ w'.cell? ⟨b5, k * 4 + 2, none⟩ = some (.slice aoV lV cV) ∧ w'.cell? ⟨b5, k * 4 + 3, none⟩ = some (.slice aoT lT cT) ∧
                w'.cell? ⟨b6, k * 4, none⟩ = some (.int .i64 PN) ∧ w'.cell? ⟨b6, k * 4 + 1, none⟩ = some (.slice aoS' lS cS') ∧ w'.cell? ⟨b6, k * 4 + 2, none⟩ = some (.slice aoV' lV cV') ∧ w'.cell? ⟨b6, k * 4 + 3, none⟩ = some (.slice aoT' lT cT') from fun w' hb =>
              ⟨(hb.out.cell (p := ⟨b5, _, none⟩) hl5).trans c0, (hb.out.cell (p := ⟨b5, _, none⟩) hl5).trans c1, (hb.out.cell (p := ⟨b5, _, none⟩) hl5).trans c2, (hb.out.cell (p := ⟨b5, _, none⟩) hl5).trans c3,
                (hb.out.cell (p := ⟨b6, _, none⟩) hl6).trans d0, (hb.out.cell (p := ⟨b6, _, none⟩) hl6).trans d1, (hb.out.cell (p := ⟨b6, _, none⟩) hl6).trans d2, (hb.out.cell (p := ⟨b6, _, none⟩) hl6).trans d3⟩)
            have HD9 := Lib.hid (show Below W5.heap.size W5 W9.drew from HB9.out.trans ⟨rfl, rfl, rfl, Nat.le_refl _, fun _ _ => rfl⟩)
            clear hk5 hk6 c0 c1 c2 c3 d0 d1 d2 d3 hS hV hT hS' hV' hT' hlS hlV hlT hPN hP z1 z2 z3 hl5 hl6
            go_upto_region 10 with fail
            go_region_held3 (fun w' => w'.cell? ⟨b5, k * 4, none⟩ = some (.int .i64 PN) ∧ w'.cell? ⟨b5, k * 4 + 1, none⟩ = some (.slice aoS lS cS) ∧ w'.cell? ⟨b5, k * 4 + 2, none⟩ = some (.slice aoV lV cV) ∧ w'.cell? ⟨b5, k * 4 + 3, none⟩ = some (.slice aoT lT cT) ∧
                w'.cell? ⟨b6, k * 4, none⟩ = some (.int .i64 PN) ∧ w'.cell? ⟨b6, k * 4 + 1, none⟩ = some (.slice aoS' lS cS') ∧ w'.cell? ⟨b6, k * 4 + 2, none⟩ = some (.slice aoV' lV cV') ∧ w'.cell? ⟨b6, k * 4 + 3, none⟩ = some (.slice aoT' lT cT')) (exact HK.out _ (by assumption))
              (first | (go_at_call 19; (with_reducible refine (HA1.out _ (by assumption)).mono ?_); rintro e wA ⟨rfl, hhA⟩) | (go_at_call 15; (with_reducible refine (HA2.out _ (by assumption)).mono ?_); rintro e wB ⟨rfl, hhB⟩) | (go_at_call 15; (with_reducible refine (HA3.out _ (by assumption)).mono ?_); rintro e wC ⟨rfl, hhC⟩))
            all_goals
              go_wp2
              go_roundw
              case rel => exact ⟨k + 1, by omega, by go_num, hhC.out⟩
              case measure => simp [intOf]; omega
          · obtain rfl : k = m := by omega
            have HBG := Lib.hid (below_more HBF.out HB9.out HBF.out.size)
            go_wp2
            exact bodyPost_ret (v := .bool true) (by simp [results, Try.results3, go_sem]) rfl ⟨rfl, HBG.out⟩
end Go.Proofs.Ytkggphfekeiejaa

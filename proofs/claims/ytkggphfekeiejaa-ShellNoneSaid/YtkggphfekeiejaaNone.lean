/- gypsumlaw13.ShellNone: the walk. -/
import Derived.Test.YtkggphfekeiejaaNoneLaw
import Derived.Test.YtkggphfekeiejaaAwake
import Derived.Deep.RegionHeld3
namespace Go.Proofs.Ytkggphfekeiejaa
set_option linter.unusedVariables false
set_option linter.unusedSimpArgs false
open Go.RowKit
set_option maxRecDepth 100000 in
set_option maxHeartbeats 1500000 in
theorem none_any (N : Int) (ao : Option Addr) (cap : Nat) (T : List Tr) (w : World) (hT : TrisAt w ao T) (hm : T.length ≤ 9223372036854775807) :
    Calls Try.prog 10 #[.agg #[.int .i64 N, .slice ao T.length cap]] w fun e w' => e = .returned (.bool true) ∧ Below w.heap.size w w' := by
  have hb0 : Below w.heap.size w (w.alloc (.cells #[.int .i64 N, .slice ao T.length cap] 24)) := (Below.refl _ _).alloc (Nat.le_refl _) _
  have HF := Lib.hid (fun X (h : TrisAt X ao T) => fits_any N ao cap T X h hm)
  have HT := Lib.hid hT
  have HB0 := Lib.hid hb0
  have HX := Lib.hid (RowIs.made w 24 [.int .i64 N, .slice ao T.length cap])
  obtain ⟨n, hn⟩ : ∃ n, n = T.length := ⟨_, rfl⟩
  rw [← hn] at HF HB0 HX ⊢
  have HN := Lib.hid hn
  clear hn hT hb0 hm
  go_enter Try.func10, Try.ntmps10
  go_wp2_with fail
  refine (awake_ok _).mono ?_
  rintro e w1 ⟨rfl, hb1⟩
  have HB1 := Lib.hid (below_more HB0.out hb1 HB0.out.size)
  have HX1 := Lib.hid (HX.out.after hb1)
  clear hb1 HB0 HX
  go_wp2_with fail
  refine (of_nil _).mono ?_
  rintro e w2 ⟨g2, rfl, hb2⟩
  have HB2 := Lib.hid (below_more HB1.out hb2 HB1.out.size)
  have HX2 := Lib.hid (HX1.out.after hb2)
  clear hb2 HB1 HX1
  go_wp2_with fail
  refine (count_nil _).mono ?_
  rintro e w3 ⟨rfl, hb3⟩
  have HB3 := Lib.hid (below_more HB2.out hb3 HB2.out.size)
  have HX3 := Lib.hid (HX2.out.after hb3)
  clear hb3 HB2 HX2
  go_wp2_with fail
  refine (split_nil _).mono ?_
  rintro e w4 ⟨rfl, hb4⟩
  have HB4 := Lib.hid (below_more HB3.out hb4 HB3.out.size)
  have HX4 := Lib.hid (HX3.out.after hb4)
  have x0 := HX4.out.cell (i := 0) rfl
  have x1 := HX4.out.cell (i := 1) rfl
  clear hb4 HB3 HX3
  go_wp2_with fail
  refine (HF.out w4 (HT.out.mono (Nat.le_refl _) HB4.out)).mono ?_
  clear x0 x1
  intro e w5 hpost
  rcases hpost with ⟨p, rfl, hp, htab, hs, h30, h90, hb⟩ | ⟨rfl, hb⟩
  case inr =>
    have HB5 := Lib.hid (below_more HB4.out hb HB4.out.size)
    clear hb
    go_wp2
    exact bodyPost_ret (v := .bool true) (by simp [results, Try.results10, go_sem]) rfl ⟨rfl, HB5.out⟩
  case inl =>
  have HB5 := Lib.hid (below_more HB4.out hb HB4.out.size)
  have HX5 := Lib.hid (HX4.out.after hb)
  have HTB := Lib.hid htab
  have HS := Lib.hid hs
  have hn30 : n ≤ 30 := by have := HN.out; omega
  have x1 := HX5.out.cell (i := 1) rfl
  clear hb htab hs HB4 HX4 HF h30 h90 hp
  by_cases hn0 : n = 0
  case pos =>
    subst hn0
    go_wp2
    exact bodyPost_ret (v := .bool true) (by simp [results, Try.results10, go_sem]) rfl ⟨rfl, HB5.out⟩
  case neg =>
  have hnb : ((n : Int) == 0) = false := by simp; omega
  have hnb2 : (n == 0) = false := by simp; omega
  obtain ⟨L, hL⟩ := shells_exist (Adj T) T.length
  obtain ⟨m, hm⟩ := Int.eq_ofNat_of_zero_le (cnt_nonneg L T.length)
  have hmn : m ≤ 30 := by have := hL.cnt_le; have := HN.out; omega
  have h0m : 0 < m := by
    have h1 := cnt_lt L T.length 0 (by have := HN.out; omega)
    have h2 := hL.nonneg 0 (by have := HN.out; omega)
    omega
  have HL := Lib.hid hL
  have HM := Lib.hid hm.symm
  clear hL hm
  go_wp2_with fail
  refine (split_L HS.out HL.out HM.out w5 p HTB.out).mono ?_
  rintro e w6 ⟨a, c, rfl, hp6, hb6⟩
  have HP6 := Lib.hid hp6
  have HB6 := Lib.hid (below_more HB5.out hb6 HB5.out.size)
  have HSZ := Lib.hid (parts_sized HS.out L (m := m + 1) (by have := HN.out; omega))
  have HJ9 := Lib.hid (join_twice HS.out HL.out HM.out h0m)
  obtain ⟨b, F, hb, hF⟩ := hp6.vals
  obtain ⟨rfl, hbl⟩ := hb h0m
  have hmb : ((m : Int) == 0) = false := by simp; omega
  have hmb2 : (m == 0) = false := by simp; omega
  have HFF := Lib.hid hF
  obtain ⟨⟨c0, c1, c2, c3⟩, aoS, cS, aoV, cV, aoT, cT, e0, e1, e2, e3, hS, hV, hT⟩ := hF 0 h0m
  have HE := Lib.hid (show [F 0 0, F 0 1, F 0 2, F 0 3] = [.int .i64 (partOf T L T.length 0).N, .slice aoS (partOf T L T.length 0).S.length cS, .slice aoV (partOf T L T.length 0).V.length cV, .slice aoT (partOf T L T.length 0).T.length cT] from by rw [e0, e1, e2, e3])
  rw [e0] at c0
  rw [e1] at c1
  rw [e2] at c2
  rw [e3] at c3
  simp only [Nat.zero_mul, Nat.zero_add] at c0 c1 c2 c3
  obtain ⟨lT, hlT⟩ : ∃ l, l = (partOf T L T.length 0).T.length := ⟨_, rfl⟩
  obtain ⟨lV, hlV⟩ : ∃ l, l = (partOf T L T.length 0).V.length := ⟨_, rfl⟩
  obtain ⟨lS, hlS⟩ : ∃ l, l = (partOf T L T.length 0).S.length := ⟨_, rfl⟩
  obtain ⟨PN, hPN⟩ : ∃ l, l = (partOf T L T.length 0).N := ⟨_, rfl⟩
  rw [← hPN] at c0 HE
  rw [← hlS] at c1 HE
  rw [← hlV] at c2 HE
  rw [← hlT] at c3 HE
  have HLT := Lib.hid hlT
  have HLS := Lib.hid hlS
  have HLV := Lib.hid hlV
  have HPN := Lib.hid hPN
  have HKS := Lib.hid (show ∀ X, Below w6.heap.size w6 X → X.cell? ⟨b, 0, none⟩ = some (.int .i64 PN) ∧ X.cell? ⟨b, 1, none⟩ = some (.slice aoS lS cS) ∧ X.cell? ⟨b, 2, none⟩ = some (.slice aoV lV cV) ∧ X.cell? ⟨b, 3, none⟩ = some (.slice aoT lT cT) from fun X hX =>
    ⟨(hX.cell (p := ⟨b, _, none⟩) hbl).trans c0, (hX.cell (p := ⟨b, _, none⟩) hbl).trans c1, (hX.cell (p := ⟨b, _, none⟩) hbl).trans c2, (hX.cell (p := ⟨b, _, none⟩) hbl).trans c3⟩)
  have HTT := Lib.hid hT
  have hbel : Below w6.heap.size w6 w6 := Below.refl _ _
  clear hb hF e0 e1 e2 e3 hS hV hT hlT hlV hlS hPN hp6 hb6 x1 HX5 HB5
  go_upto_region 9 with fail
  go_cut [6] (fun s6 wc => ∃ (g cc : Nat), s6 = .slice (some ⟨g, 0, none⟩) (m + 1) cc ∧ wc.ownsRow w6.heap.size 40 4 s6 (m + 1) (pc (fun k => if k < m then F k else F 0) (m + 1)) ∧ Below w6.heap.size w6 wc)
  case first =>
    go_region_held3 (fun w' => w'.cell? ⟨b, 0, none⟩ = some (.int .i64 PN) ∧ w'.cell? ⟨b, 1, none⟩ = some (.slice aoS lS cS) ∧ w'.cell? ⟨b, 2, none⟩ = some (.slice aoV lV cV) ∧ w'.cell? ⟨b, 3, none⟩ = some (.slice aoT lT cT))
      (exact HKS.out _ (by repeat (first | exact hbel | with_reducible apply below_alloc | with_reducible apply below_drew)))
      (first
        | (refine step_all (W := w6) (by rfl) _ _ (by rfl) (by repeat (first | exact hbel | with_reducible apply below_alloc | with_reducible apply below_drew)) (by rfl) (by repeat (first | with_reducible exact RowIs.made _ _ _ | with_reducible exact row_made1 _ _ _ _ | with_reducible apply RowIs.alloc | with_reducible apply RowIs.drew1)) (by simp) (by rfl) (fun k hk => (HFF.out k hk).1) hbl (fun k hk => (HFF.out k hk).2) h0m (by omega) ?_; intro g9 cap9 w9 hown9 hbel hl)
        | (refine step_part (W := w6) (by rfl) _ _ (by rfl) (by repeat (first | exact hbel | with_reducible apply below_alloc | with_reducible apply below_drew)) (by rfl) (by first | exact hown9 | exact hown9.alloc _) (by rfl) (by repeat (first | with_reducible exact RowIs.made _ _ _ | with_reducible exact row_made1 _ _ _ _ | with_reducible apply RowIs.alloc | with_reducible apply RowIs.drew1 | with_reducible refine hl _ _ _ (by simp) ?_)) (by intro u hu; simp at hu; rcases hu with rfl | rfl | rfl | rfl <;> rfl) (by omega) ?_; intro g10 cap10 w10 hown10 hbel))
    all_goals
      go_wp2_with fail
      go_meet
      exact ⟨g10, cap10, rfl, by rw [← pc_again, HE.out]; exact hown10, hbel⟩
  case rest =>
  clear c0 c1 c2 c3
  obtain ⟨g7, cc7, rfl, hown7, hb7⟩ := hcut
  obtain ⟨W7, rfl⟩ : ∃ W7 : World, W7 = wc := ⟨_, rfl⟩
  obtain ⟨a7, c7, e7, hp7⟩ := partsAt_row (P := fun k => if k < m then partOf T L T.length k else partOf T L T.length 0) hown7 fun k hk => by
    by_cases h : k < m
    · simp only [h, if_true]; exact (HFF.out k h).2.mono hb7
    · simp only [h, if_false]; exact (HFF.out 0 h0m).2.mono hb7
  cases e7
  have HP7 := Lib.hid hp7
  have HB7 := Lib.hid hb7
  have HSZ7 := Lib.hid (show Sized (fun k => if k < m then partOf T L T.length k else partOf T L T.length 0) (m + 1) from fun k hk => by
    by_cases h : k < m
    · simp only [h, if_true]; exact HSZ.out k hk
    · simp only [h, if_false]; exact HSZ.out 0 (by omega))
  clear hown7 hp7 hb7 hbel
  go_wp2_with fail
  refine (join_any _ (m + 1) cc7 _ W7 (by omega) HSZ7.out HP7.out).mono ?_
  rintro e w8 ⟨N', ao', cap', T', cc, rfl, hcc, -, hz, -, hb8⟩
  obtain rfl : cc = 9 := hcc.trans HJ9.out
  obtain ⟨rfl, rfl⟩ := hz (by decide)
  have HB8 := Lib.hid (below_more HB7.out hb8 HB7.out.size)
  clear hb8 hcc hz HP7 HB7 HSZ7 HJ9
  simp only [List.length_nil]
  have hx8 : Below w6.heap.size w6 ((w8.alloc (.cells #[.int .i64 0, .slice ao' 0 cap'] 24)).alloc (.cells #[] 40)) := below_alloc (below_alloc HB8.out _) _
  have h98 := HB8.out.size
  have HR8 := Lib.hid (row_made1 w8 (.cells #[.int .i64 0, .slice ao' 0 cap'] 24) 40 [])
  have HX8 := Lib.hid hx8
  clear hx8
  go_wp2_with (at_builtin; refine wpList_all (W := w6) rfl _ _ rfl HX8.out rfl HR8.out (by omega) rfl (fun k hk => (HFF.out k hk).1) hbl (fun k hk => (HFF.out k hk).2) h0m (by omega) ?_)
  intro g9 cap9 w9 hown9 hb9
  obtain ⟨ys, hys, hyl⟩ := owns_whole hown9 h0m
  have hyk : ∀ k c, k < m → c < 4 → ys[k * 4 + c]? = some (F k c) := fun k c hk hc => hyl _ _ (pc_get F hk hc)
  have hf3 : F 0 3 = .slice aoT lT cT := by have := HE.out; simp at this; exact this.2.2.2
  have y3 := hyk 0 3 h0m (by omega)
  rw [hf3] at y3
  simp only [Nat.zero_mul, Nat.zero_add] at y3
  have c3 := hys.cell y3
  have f3 := hys.free 3
  have hpos : 0 < (partOf T L T.length 0).T.length := by
    obtain ⟨i, hi, e⟩ := has_shell HL.out HM.out h0m
    have : i ∈ ofShell L T.length 0 := mem_ofShell.2 ⟨hi, e⟩
    have := List.length_pos_of_mem this
    simpa [partOf] using this
  obtain ⟨tb, tof, rfl, htl, -⟩ := HTT.out (List.ne_nil_of_length_pos hpos)
  obtain ⟨l, hl⟩ : ∃ l, lT = l + 1 := ⟨lT - 1, by have := HLT.out; omega⟩
  subst hl
  have hcut := run_cut1 tb tof l cT
  obtain ⟨xs, hxl, hxs⟩ := ints_cut (c := cT) HTT.out hpos
  have hlx : xs.length = l := by have := HLT.out; omega
  obtain ⟨av, hav⟩ : ∃ v : Option Addr, v = if cT = 1 then some ⟨tb, tof, none⟩ else some ⟨tb, tof + 1, none⟩ := ⟨_, rfl⟩
  rw [← hav] at hcut hxs
  obtain ⟨Q, hQ⟩ : ∃ Q : Nat → PartV, Q = fun k => if k = 0 then ⟨(partOf T L T.length 0).N, (partOf T L T.length 0).S, (partOf T L T.length 0).V, xs⟩ else partOf T L T.length k := ⟨_, rfl⟩
  have HQ1 := Lib.hid (show jcode Q m = 1 from join_short h0m (by simp [partOf]) hpos Q (by rw [hQ]; rfl) (by rw [hQ]; exact hxl))
  have hset := hys.set 3 (.slice av l (cT - 1))
  have hbs : Below w6.heap.size w6 (w9.setCell ⟨g9, 3, none⟩ (.slice av l (cT - 1))) := hb9.setCell (p := ⟨g9, 3, none⟩) (by
    obtain ⟨g', cap', e, hb', -⟩ := owns_block hown9 h0m
    cases e; exact hb') _
  have HP9 := Lib.hid (show PartsAt (w9.setCell ⟨g9, 3, none⟩ (.slice av l (cT - 1))) (some ⟨g9, 0, none⟩) Q m from fun _ => ⟨g9, rfl, hset.lt, fun k hk => by
    by_cases e : k = 0
    · subst e
      obtain ⟨-, aoS', cS', aoV', cV', aoT', cT', q0, q1, q2, q3, hS', hV', hT'⟩ := HFF.out 0 h0m
      have g0 := hyk 0 0 h0m (by omega)
      have g1 := hyk 0 1 h0m (by omega)
      have g2 := hyk 0 2 h0m (by omega)
      simp only [Nat.zero_mul, Nat.zero_add] at g0 g1 g2
      rw [q0] at g0
      rw [q1] at g1
      rw [q2] at g2
      have h3 : (ys.set 3 (.slice av l (cT - 1)))[3]? = some (.slice av l (cT - 1)) := by rw [List.getElem?_set_self (List.getElem?_eq_some_iff.1 y3).1]
      rw [hQ]
      refine ⟨aoS', cS', aoV', cV', av, cT - 1, ?_, ?_, ?_, ?_, hS'.mono (Nat.le_refl _) hbs, hV'.mono (Nat.le_refl _) hbs, hxs.mono (Nat.le_refl _) hbs⟩
      · exact hset.cell (by simp [g0])
      · exact hset.cell (by simp [g1])
      · exact hset.cell (by simp [g2])
      · simp only [if_true, hlx]
        exact hset.cell (by simpa using h3)
    · obtain ⟨-, aoS', cS', aoV', cV', aoT', cT', q0, q1, q2, q3, hS', hV', hT'⟩ := HFF.out k hk
      have g0 := hyk k 0 hk (by omega)
      have g1 := hyk k 1 hk (by omega)
      have g2 := hyk k 2 hk (by omega)
      have g3 := hyk k 3 hk (by omega)
      rw [q0] at g0
      rw [q1] at g1
      rw [q2] at g2
      rw [q3] at g3
      have hQk : Q k = partOf T L T.length k := by rw [hQ]; simp [e]
      rw [hQk]
      refine ⟨aoS', cS', aoV', cV', aoT', cT', ?_, ?_, ?_, ?_, hS'.mono (Nat.le_refl _) hbs, hV'.mono (Nat.le_refl _) hbs, hT'.mono (Nat.le_refl _) hbs⟩
      · exact hset.cell (by rw [List.getElem?_set_ne (by omega)]; exact g0)
      · exact hset.cell (by rw [List.getElem?_set_ne (by omega)]; exact g1)
      · exact hset.cell (by rw [List.getElem?_set_ne (by omega)]; exact g2)
      · exact hset.cell (by rw [List.getElem?_set_ne (by omega)]; exact g3)⟩)
  have HSQ := Lib.hid (show Sized Q m from fun k hk => by
    rw [hQ]
    by_cases e : k = 0
    · subst e
      have := HSZ.out 0 (by omega)
      exact ⟨this.1, this.2.1, by simp only [if_true]; omega⟩
    · simp only [e, if_false]; exact HSZ.out k (by omega))
  have HB9 := Lib.hid hbs
  clear hown9 hys hyl hyk hf3 hpos htl hxl hxs hlx hav hQ hset hbs hb9 y3
  go_wp2_with fail
  refine (join_any Q m cap9 _ _ (by omega) HSQ.out HP9.out).mono ?_
  rintro e w10 ⟨N', ao2, cap2, T', cc, rfl, hcc, -, hz, -, hb10⟩
  obtain rfl : cc = 1 := hcc.trans HQ1.out
  obtain ⟨rfl, rfl⟩ := hz (by decide)
  have HB10 := Lib.hid (below_alloc (below_more HB9.out hb10 HB9.out.size) (.cells #[.int .i64 0, .slice ao2 0 cap2] 24))
  clear hb10 hcc hz HP9 HB9 HSQ HQ1 hcut c3 f3
  simp only [List.length_nil]
  go_wp2_with fail
  refine (join_any (fun _ => ⟨0, [], [], []⟩) 0 0 none _ (by omega) (fun k h => by omega) (fun h => by omega)).mono ?_
  rintro e w11 ⟨N', ao3, cap3, T', cc, rfl, hcc, hres, -, -, hb11⟩
  obtain ⟨hj0, hjr⟩ := join_none fun _ => ⟨0, [], [], []⟩
  obtain rfl : cc = 0 := hcc.trans hj0
  obtain ⟨rfl, rfl⟩ := hjr _ _ (hres rfl)
  have HB11 := Lib.hid (below_more HB6.out (below_alloc (below_more HB10.out hb11 HB10.out.size) (.cells #[.int .i64 0, .slice ao3 0 cap3] 24)) HB6.out.size)
  clear hb11 hcc hres hj0 hjr HB10
  simp only [List.length_nil]
  go_wp2
  exact bodyPost_ret (v := .bool true) (by simp [results, Try.results10, go_sem]) rfl ⟨rfl, HB11.out⟩
end Go.Proofs.Ytkggphfekeiejaa

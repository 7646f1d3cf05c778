/- gypsumlaw40.RimBorders: the walk. -/
import Derived.Test.YtknioobpoieohaaGreatBordE
import Derived.Test.YtknioobpoieohaaGreatLocAt
import Derived.Test.YtknioobpoieohaaGreatAwake40
import Derived.Test.YtknioobpoieohaaGreatRef15
import Derived.BigQuiet
namespace Go.Proofs.YtknioobpoieohaaGreat
set_option linter.unusedVariables false
set_option linter.unusedSimpArgs false
open Go.RowKit
set_option maxRecDepth 100000 in
set_option maxHeartbeats 8000000 in
theorem borders_any (N : Int) (ao : Option Addr) (cap : Nat) (T : List Tr) (bo : Option Addr) (bcap : Nat) (bays : List Int) (x : Int) (w : World) (hT : TrisAt w ao T) (hTl : T.length ≤ 9223372036854775807) (hB : IntsAt w bo bays) (hBl : bays.length ≤ 9223372036854775807) (hBc : bays.length ≤ bcap) (hx : 0 ≤ x ∧ x < 256) :
    Calls Tryz.prog 4 #[.agg #[.int .i64 N, .slice ao T.length cap], .slice bo bays.length bcap, .int .u8 x] w fun e w' => e = .returned (.bool true) ∧ Below w.heap.size w w' := by
  obtain ⟨W0, hW0⟩ : ∃ W0, W0 = w.alloc (.cells #[.int .i64 N, .slice ao T.length cap] 24) := ⟨_, rfl⟩
  have hb0 : Below w.heap.size w W0 := by rw [hW0]; exact (Below.refl _ _).alloc (Nat.le_refl _) _
  have hr0 : RowIs W0 w.heap.size 24 [.int .i64 N, .slice ao T.length cap] := by rw [hW0]; exact RowIs.made w 24 [.int .i64 N, .slice ao T.length cap]
  have HT := Lib.hid (hT.mono (Nat.le_refl _) hb0)
  have HB := Lib.hid (hB.mono (Nat.le_refl _) hb0)
  have HRI := Lib.hid (fun (X : World) (h1 : TrisAt X ao T) (h2 : IntsAt X bo bays) => right40 N ao cap T bo bcap bays X h1 h2)
  have HFA := Lib.hid (fun (n : Nat) (a b : Int) (X : World) (h1 : TrisAt X ao T) (hl : T.length ≤ 10000) => facing15 (n : Int) ao cap T a b X h1 hl)
  have HCU := Lib.hid (fun (n : Nat) (po : Option Addr) (pc : Nat) (X : World) (h1 : TrisAt X ao T) (h2 : TrisAt X po (ptsL n)) (h4 : IntsAt X bo bays) (hs : Surf n T) (hok : BaysOK T.length bays) => (cut_ok n ao cap T po pc (ptsL n) none 0 [] bo bcap bays x X h1 h2 (fun e => absurd rfl e) h4 hs hok (ptsL_len n) (.inl rfl) (Nat.le_refl _)).mono fun e w' h => cut_u hs hok h)
  simp only [ptsL_len, List.length_nil] at HCU
  obtain ⟨xb, hxb⟩ : ∃ x, x = w.heap.size := ⟨_, rfl⟩
  obtain ⟨len, hlen⟩ : ∃ l, l = T.length := ⟨_, rfl⟩
  obtain ⟨bl, hbl⟩ : ∃ l, l = bays.length := ⟨_, rfl⟩
  have HOKL := Lib.hid (show BaysOK T.length bays → BaysOK len bays from fun h => by rw [hlen]; exact h)
  rw [← hlen] at hW0 hr0 HRI HCU HFA hTl ⊢
  rw [← hbl] at HRI HCU hBl hBc ⊢
  rw [← hxb] at hr0
  have HL := Lib.hid hlen
  have HBL := Lib.hid hbl
  have HXB := Lib.hid hxb
  have HW0 := Lib.hid hW0
  have HB0 := Lib.hid hb0
  have HR0 := Lib.hid hr0
  obtain ⟨x, rfl⟩ := Int.eq_ofNat_of_zero_le hx.1
  have hx256 : x < 256 := by omega
  clear hT hB hb0 hr0 hW0 hlen hbl hxb hx
  go_enter Tryz.func4, Tryz.ntmps4
  go_upto_region 1 with fail
  rw [← HW0.out]
  go_wp2_with fail
  refine (awake40 _).mono ?_
  rintro e w1 ⟨rfl, hb1⟩
  have HB1 := Lib.hid (below_more HB0.out hb1 HB0.out.size)
  have HR1 := Lib.hid (HR0.out.after hb1)
  have HT1 := Lib.hid (HT.out.mono (Nat.le_refl _) hb1)
  have HBY1 := Lib.hid (HB.out.mono (Nat.le_refl _) hb1)
  have c0 := HR1.out.cell (i := 0) rfl
  have c1 := HR1.out.cell (i := 1) rfl
  rw [← HXB.out]
  clear hb1 HR0 HT HB HB0 HW0
  go_wp2_with fail
  refine (HRI.out w1 HT1.out HBY1.out).mono ?_
  rintro e w2 ⟨r, rfl, hsay, hb2⟩
  have HB2 := Lib.hid (below_more HB1.out hb2 HB1.out.size)
  have HR2 := Lib.hid (HR1.out.after hb2)
  have HT2 := Lib.hid (HT1.out.mono (Nat.le_refl _) hb2)
  have HBY2 := Lib.hid (HBY1.out.mono (Nat.le_refl _) hb2)
  have HS := Lib.hid hsay
  clear c0 c1 hb2 hsay HR1 HT1 HBY1 HB1 HRI
  have c0 := HR2.out.cell (i := 0) rfl
  have c1 := HR2.out.cell (i := 1) rfl
  cases r
  · go_wp2
    exact bodyPost_ret (v := .bool true) (by simp [results, Tryz.results4, go_sem]) rfl ⟨rfl, HB2.out⟩
  have hright := HS.out.1 rfl
  obtain ⟨hg, hs, hok⟩ := hright
  have hlen30 : len ≤ 30 := by have := HL.out; unfold grB at hg; simp at hg; omega
  have HSURF0 := Lib.hid hs
  have HOK := Lib.hid hok
  clear hg hs hok HS
  obtain ⟨n, rfl⟩ := Int.eq_ofNat_of_zero_le HSURF0.out.n0
  have HSURF := HSURF0
  clear HSURF0
  have hn : n ≤ 4096 := by have := HSURF.out.n1; omega
  go_upto_region 5 with fail
  clear c0 c1
  have HK5 := Lib.hid (show ∀ w', Below w2.heap.size w2 w' → w'.cell? ⟨xb, 0, none⟩ = some (.int .i64 (n : Int)) ∧ w'.cell? ⟨xb, 1, none⟩ = some (.slice ao len cap) from fun w' hb => ⟨(HR2.out.after hb).cell (i := 0) rfl, (HR2.out.after hb).cell (i := 1) rfl⟩)
  have HPT := Lib.hid (fun X : World => points40 n X (by omega))
  have HCUT := Lib.hid (show ∀ (po : Option Addr) (pc : Nat) (X : World), TrisAt X po (ptsL n) → Below w2.heap.size w2 X → Calls Tryz.prog 10 #[.agg #[.int .i64 (n : Int), .slice ao len cap, .slice po n pc, .slice none 0 0], .slice bo bl bcap, .int .i64 (x : Int)] X (CutU n T bays x X) from fun po pc X h1 h2 =>
    HCU.out n po pc X (HT2.out.mono (Nat.le_refl _) h2) h1 (HBY2.out.mono (Nat.le_refl _) h2) HSURF.out (HOKL.out HOK.out))
  have hcv : (x : Int) % 18446744073709551616 = (x : Int) := by omega
  have hwx : IntKind.i64.wrap (x : Int) = (x : Int) := wrapN _ (by omega)
  go_cut [7, 8] (fun s7 s8 wc => ∃ (lb : Nat) (er N' : Int) (T' P' : List Tr) (K' V' R' : List Int), s7 = .pointer (some ⟨lb, 0, none⟩) ∧ s8 = .int .i64 er ∧ CutSays n T bays x er N' T' V' R' ∧ LocAt wc 0 lb N' T' P' K' V' R' ∧ Below w2.heap.size w2 wc)
  case first =>
    as_aux_lemma =>
    go_region_held3 (fun w' => w'.cell? ⟨xb, 0, none⟩ = some (.int .i64 (n : Int)) ∧ w'.cell? ⟨xb, 1, none⟩ = some (.slice ao len cap))
      (exact HK5.out _ (by repeat (first | with_reducible exact Below.refl _ _ | with_reducible apply bel_alloc | with_reducible apply bel_drew | (with_reducible refine set6_below ?_ (by first | exact Nat.le_refl _ | exact hbA.size | exact hbB.size | (have q8 := hbA.size; have q9 := hbB.size; simp only [World.size_alloc, show ∀ X : World, X.drew.heap.size = X.heap.size from fun _ => rfl] at q8 q9 ⊢; omega)) _ _ _ _ _ _) | (with_reducible refine bel_step ?_ hbB) | (with_reducible refine bel_step ?_ hbA))))
      (first | (go_at_call 18; (with_reducible refine (HPT.out _).mono ?_); rintro e wA ⟨aA, cA, rfl, hA, hbA⟩; (try (have hY := RowIs.after (show RowIs _ _ 32 [.int .i64 0, .slice none 0 0, .slice none 0 0, .slice none 0 0, .slice none 0 0, .slice none 0 0] from by (repeat (first | exact RowIs.made' _ _ _ _ (by first | rfl | simp) | with_reducible apply RowIs.drew1 | with_reducible apply RowIs.alloc))) hbA))) | (go_at_call 10; (with_reducible refine (HCUT.out _ _ _ (by (repeat (first | exact hA | with_reducible apply tris_drew | with_reducible apply tris_alloc))) (by repeat (first | with_reducible exact Below.refl _ _ | with_reducible apply bel_alloc | with_reducible apply bel_drew | (with_reducible refine bel_step ?_ hbA)))).mono ?_); rintro e wB ⟨er, N1, T1, P1, K1, V1, R1, d1, d2, d3, d4, d5, n1, n2, n3, n4, n5, m1, m2, m3, m4, m5, rfl, hV, hbB⟩; (try (have hZ := RowIs.after (show RowIs _ _ 32 [.int .i64 0, .slice none 0 0, .slice none 0 0, .slice none 0 0, .slice none 0 0, .slice none 0 0] from by (repeat (first | exact hY | exact RowIs.made' _ _ _ _ (by first | rfl | simp) | with_reducible apply RowIs.drew1 | with_reducible apply RowIs.alloc))) hbB; (try simp only [World.size_alloc] at hZ); have q0 := hZ.cell (i := 0) rfl; have q1 := hZ.cell (i := 1) rfl; have q2 := hZ.cell (i := 2) rfl; have q3 := hZ.cell (i := 3) rfl; have q4 := hZ.cell (i := 4) rfl; have q5 := hZ.cell (i := 5) rfl; have qf0 := hZ.free 0; have qf1 := hZ.free 1; have qf2 := hZ.free 2; have qf3 := hZ.free 3; have qf4 := hZ.free 4; have qf5 := hZ.free 5; try simp only [World.size_alloc] at q0 q1 q2 q3 q4 q5 qf0 qf1 qf2 qf3 qf4 qf5))))
    all_goals
      go_wp2
      go_meet
      obtain ⟨nK, nV, nR, hsy, e1, h1, e2, h2, e3, h3, e4, h4, e5, h5⟩ := hV.out
      try (have hZ' : RowIs _ _ _ zrow := hZ)
      first
      | with_reducible exact ⟨_, er, N1, T1, P1, K1, V1, R1, rfl, rfl, hsy, loc_alloc new5 e1 h1 e2 h2 e3 h3 e4 h4 e5 h5, by repeat (first | with_reducible exact Below.refl _ _ | with_reducible apply bel_alloc | with_reducible apply bel_drew | (with_reducible refine bel_step ?_ hbB) | (with_reducible refine bel_step ?_ hbA))⟩
      | with_reducible exact ⟨_, er, N1, T1, P1, K1, V1, R1, rfl, rfl, hsy, loc_store hZ' new5 e1 h1 e2 h2 e3 h3 e4 h4 e5 h5 nK nV nR, set6_below (by repeat (first | with_reducible exact Below.refl _ _ | with_reducible apply bel_alloc | with_reducible apply bel_drew | (with_reducible refine bel_step ?_ hbB) | (with_reducible refine bel_step ?_ hbA))) (by have q1 := hbA.size; have q2 := hbB.size; simp only [World.size_alloc, show ∀ X : World, X.drew.heap.size = X.heap.size from fun _ => rfl] at q1 q2 ⊢; omega) _ _ _ _ _ _⟩
  case rest =>
  obtain ⟨lb, er, N', T', P', K', V', R', rfl, rfl, hsays, hloc, hb5⟩ := hcut
  obtain ⟨W5, rfl⟩ : ∃ X : World, X = wc := ⟨_, rfl⟩
  obtain ⟨a1, a2, a3, a4, a5, c1, c2, c3, c4, c5, l1, l2, l3, l4, l5, h0, -, e1, h1, e2, h2, e3, h3, e4, h4, e5, h5⟩ := hloc
  have HB5 := Lib.hid (below_more HB2.out hb5 HB2.out.size)
  have HR5 := Lib.hid (HR2.out.after hb5)
  have HT5 := Lib.hid (HT2.out.mono (Nat.le_refl _) hb5)
  have HBY5 := Lib.hid (HBY2.out.mono (Nat.le_refl _) hb5)
  rcases hsays with ⟨rfl, hnot⟩ | ⟨rfl, hin, L, F, hcut, rfl, rfl, rfl, rfl⟩
  · clear hnot h0 h1 h2 h3 h4 h5 e1 e2 e3 e4 e5 hb5 HCUT HK5 HPT HCU HFA
    go_wp2
    exact bodyPost_ret (v := .bool true) (by simp [results, Tryz.results4, go_sem]) rfl ⟨rfl, HB5.out⟩
  obtain ⟨m, hm⟩ : ∃ m, m = F.length := ⟨_, rfl⟩
  have q1 : l1 = (sel bays (x : Int) T.length).length := by rw [e1]; simp [cutT]
  have hM30 : l1 ≤ 30 := by have := sel_le bays (x : Int) T.length; have := HL.out; omega
  have q4 : m = l4 := by rw [hm, e4]; simp [cutV]
  have q5 : m = l5 := by rw [hm, e5]; simp [cutR]
  subst q4
  subst q5
  have hm90 : m ≤ 90 := by have := hcut.len; have := HL.out; omega
  have HSF := Lib.hid (show Surf m (cutT bays x L F T.length) from by rw [hm]; exact hcut.surf HSURF.out (by have := HL.out; omega))
  have HTB := Lib.hid (show Calls Tryz.prog 19 #[.agg #[.int .i64 (m : Int), .slice a1 l1 c1]] W5 fun e w' => ∃ p, e = .returned (.pointer (some ⟨p, 0, none⟩)) ∧ W5.heap.size ≤ p ∧ Tab w' p m (cutT bays x L F T.length) ∧ Below W5.heap.size W5 w' from by
    have := table12 m a1 c1 (cutT bays x L F T.length) W5 h1 HSF.out (by rw [← e1]; omega)
    rw [← e1] at this
    exact this)
  rw [← hm] at h0
  have u0 := h0.cell (i := 0) rfl
  have u1 := h0.cell (i := 1) rfl
  have HLO := Lib.hid h0
  have HA4 := Lib.hid h4
  have HA5 := Lib.hid h5
  have HCI := Lib.hid hcut
  have HMF := Lib.hid hm
  clear hin h0 h1 h2 h3 h4 h5 e1 e2 e3 e4 e5 hb5 hcut hm q1 HCUT HK5 HPT HCU HR2 HT2 HBY2
  go_wp2_with fail
  refine HTB.out.mono ?_
  rintro e w6 ⟨p, rfl, hp, htab, hb6⟩
  obtain ⟨el, hel⟩ : ∃ y, y = bordE (cutT bays x L F T.length) (3 * (cutT bays x L F T.length).length) := ⟨_, rfl⟩
  have hED := edges_any p (m : Int) (cutT bays x L F T.length) w6 htab
  rw [← hel] at hED
  obtain ⟨ne, hne⟩ : ∃ y, y = el.length := ⟨_, rfl⟩
  have hne90 : ne ≤ 200 := by have := bordE_le (cutT bays x L F T.length) (3 * (cutT bays x L F T.length).length); have h9 := sel_le bays (x : Int) T.length; have := HL.out; have h8 : (cutT bays x L F T.length).length = (sel bays (x : Int) T.length).length := (by simp [cutT]); rw [hne, hel]; omega
  rw [← hne] at hED
  have HED := Lib.hid hED
  have HEL := Lib.hid hel
  have HNE := Lib.hid hne
  have HB6 := Lib.hid (below_more HB5.out hb6 HB5.out.size)
  have HR6 := Lib.hid (HR5.out.after hb6)
  have HT6 := Lib.hid (HT5.out.mono (Nat.le_refl _) hb6)
  have HBY6 := Lib.hid (HBY5.out.mono (Nat.le_refl _) hb6)
  have HL6 := Lib.hid (HLO.out.after hb6)
  have HA46 := Lib.hid (HA4.out.mono (Nat.le_refl _) hb6)
  have HA56 := Lib.hid (HA5.out.mono (Nat.le_refl _) hb6)
  clear hp htab hb6 hED hel hne u0 u1 HB5 HR5 HT5 HBY5 HLO HA4 HA5 HTB
  go_wp2_with fail
  refine HED.out.mono ?_
  rintro e w7 ⟨ae, ce, rfl, hae, hb7⟩
  have HAE := Lib.hid hae
  have HB7 := Lib.hid (below_more HB6.out hb7 HB6.out.size)
  have HR7 := Lib.hid (HR6.out.after hb7)
  have HT7 := Lib.hid (HT6.out.mono (Nat.le_refl _) hb7)
  have HBY7 := Lib.hid (HBY6.out.mono (Nat.le_refl _) hb7)
  have HL7 := Lib.hid (HL6.out.after hb7)
  have HA47 := Lib.hid (HA46.out.mono (Nat.le_refl _) hb7)
  have HA57 := Lib.hid (HA56.out.mono (Nat.le_refl _) hb7)
  clear hae hb7 HB6 HR6 HT6 HBY6 HL6 HA46 HA56 HED
  go_wp2
  go_loopw [46] (fun c ws => ∃ i : Nat, i ≤ ne ∧ c = .int .i64 i ∧ Below w7.heap.size w7 ws) (fun c _ => ne - (intOf c).toNat)
  case atStart => exact ⟨0, by omega, rfl, Below.refl _ _⟩
  case round =>
  obtain ⟨i, hi, rfl, hb⟩ := hrel
  obtain ⟨X, rfl⟩ : ∃ X : World, X = wr := ⟨_, rfl⟩
  by_cases hlt : i < ne
  case neg =>
    obtain rfl : ne = i := by omega
    have HBF := Lib.hid (below_more HB7.out hb HB7.out.size)
    clear hb
    go_wp2
    exact bodyPost_ret (v := .bool true) (by simp [results, Tryz.results4, go_sem]) rfl ⟨rfl, HBF.out⟩
  case pos =>
  have hilen : i < el.length := by rw [← HNE.out]; exact hlt
  obtain ⟨be, oe, rfl, hbe, hce⟩ := HAE.out (fun e => by rw [e] at hilen; simp at hilen)
  obtain ⟨p', q', hd, hpF, hqF, hall⟩ := bay_border HCI.out HSURF.out (d := E! el i) (by rw [HEL.out]; rw [HEL.out] at hilen; exact E!_mem hilen)
  obtain ⟨g0, g1⟩ := hce i hilen
  rw [hd] at g0 g1
  simp only at g0 g1
  rw [← HMF.out] at hpF hqF
  have hVl : (cutV T F).length = m := by rw [HMF.out]; simp [cutV]
  have hRl : (cutR T bays n F).length = m := by rw [HMF.out]; simp [cutR]
  obtain ⟨b4, o4, rfl, hb4, hc4⟩ := HA47.out (fun e => by rw [e] at hVl; simp at hVl; omega)
  obtain ⟨b5, o5, rfl, hb5, hc5⟩ := HA57.out (fun e => by rw [e] at hRl; simp at hRl; omega)
  have gX0 := (hb.cell (p := ⟨be, _, none⟩) hbe).trans g0
  have gX1 := (hb.cell (p := ⟨be, _, none⟩) hbe).trans g1
  have HBX := Lib.hid hb
  obtain ⟨a, haV⟩ : ∃ a, a = I! (cutV T F) p' := ⟨_, rfl⟩
  obtain ⟨b, hbV⟩ : ∃ b, b = I! (cutV T F) q' := ⟨_, rfl⟩
  have v4 := hc4 p' (by omega)
  have v4' := hc4 q' (by omega)
  have v5 := hc5 p' (by omega)
  have v5' := hc5 q' (by omega)
  rw [← haV] at v4
  rw [← hbV] at v4'
  have HALL := Lib.hid (show ∀ o : Nat, o < 3 * T.length → edgeAt T (o : Int) = (b, a) → I! bays (o / 3) ≠ x ∧ 0 ≤ I! (cutR T bays n F) p' ∧ 0 ≤ I! (cutR T bays n F) q' from by rw [haV, hbV]; exact hall)
  clear g0 g1 hd hall hVl hRl hc4 hc5 hce hb haV hbV
  have hie : (i : Int) < (ne : Int) := by omega
  go_upto_region 14 with fail
  obtain ⟨Y, hY⟩ : ∃ Y, Y = X.alloc (.cells #[.int .i64 (p' : Int), .int .i64 (q' : Int)] 51) := ⟨_, rfl⟩
  have hby : Below X.heap.size X Y := by rw [hY]; exact (Below.refl _ _).alloc (Nat.le_refl _) _
  have hed : RowIs Y X.heap.size 51 [.int .i64 (p' : Int), .int .i64 (q' : Int)] := by rw [hY]; exact RowIs.made X _ [_, _]
  rw [← hY]
  have hbY : Below w7.heap.size w7 Y := below_more HBX.out hby HBX.out.size
  obtain ⟨eb, heb⟩ : ∃ x, x = X.heap.size := ⟨_, rfl⟩
  rw [← heb] at hed
  rw [← heb]
  have t0 := hed.cell (i := 0) rfl
  have t1 := hed.cell (i := 1) rfl
  have hly := HL7.out.after hbY
  have y4 := hly.cell (i := 4) rfl
  have z4 := (hbY.cell (p := ⟨b4, _, none⟩) hb4).trans v4
  have z4' := (hbY.cell (p := ⟨b4, _, none⟩) hb4).trans v4'
  have HEDR := Lib.hid hed
  have HBY' := Lib.hid hbY
  have hxY := (HR7.out.after hbY)
  have c0 := hxY.cell (i := 0) rfl
  have c1 := hxY.cell (i := 1) rfl
  have HD := Lib.hid (show ∀ q, Below w7.heap.size w7 (Y.drewN q) from fun q => below_more hbY (⟨rfl, rfl, rfl, Nat.le_refl _, fun _ _ => rfl⟩ : Below Y.heap.size Y (Y.drewN q)) hbY.size)
  have HFC := Lib.hid (show ∀ q, Calls Tryz.prog 21 #[.agg #[.int .i64 (n : Int), .slice ao len cap], .int .i64 b, .int .i64 a] (Y.drewN q) fun e w' => ∃ r, e = .returned (.int .i64 r) ∧ FacePost T b a r ∧ Below (Y.drewN q).heap.size (Y.drewN q) w' from fun q => HFA.out n b a (Y.drewN q) (HT7.out.mono (Nat.le_refl _) (HD.out q)) (by have := HL.out; omega))
  have HEDQ := Lib.hid (show ∀ q, RowIs (Y.drewN q) eb 51 [.int .i64 (p' : Int), .int .i64 (q' : Int)] from fun q => HEDR.out)
  clear hY hby hed hly hbY v4 v4' gX0 gX1 heb hxY HEDR HBY'
  go_quiet (fail)
  go_wp2_with fail
  refine (HFC.out _).mono ?_
  rintro e w9 ⟨r, rfl, hpost, hb9⟩
  have HB9 := Lib.hid (below_more (HD.out _) hb9 (HD.out _).size)
  have hed9 := (HEDQ.out _).after hb9
  have t0 := hed9.cell (i := 0) rfl
  have t1 := hed9.cell (i := 1) rfl
  have y5 := (HL7.out.after HB9.out).cell (i := 5) rfl
  have z5 := (HB9.out.cell (p := ⟨b5, _, none⟩) hb5).trans v5
  have z5' := (HB9.out.cell (p := ⟨b5, _, none⟩) hb5).trans v5'
  clear hb9 hed9 v5 v5' c0 c1 y4 z4 z4'
  rcases hpost with ⟨o, rfl, ho, hoe⟩ | ⟨rfl, -⟩
  · obtain ⟨hnb, hr1, hr2⟩ := HALL.out o ho hoe
    obtain ⟨o3, ho3⟩ : ∃ y, y = o / 3 := ⟨_, rfl⟩
    rw [← ho3] at hnb
    have ho3b : o3 < bays.length := by have := HOK.out.1; omega
    have ho3bl : o3 < bl := by rw [HBL.out]; exact ho3b
    have hdiv : (o : Int) / 3 = (o3 : Int) := by omega
    obtain ⟨yb, yoff, q, hE, hq, hqc, -, -⟩ := HBY7.out.get (Nat.le_refl _) HB9.out (i := o3) ho3b
    subst hE
    rw [hq.out] at hnb
    obtain ⟨r1, hr1e⟩ : ∃ y, y = I! (cutR T bays n F) p' := ⟨_, rfl⟩
    obtain ⟨r2, hr2e⟩ : ∃ y, y = I! (cutR T bays n F) q' := ⟨_, rfl⟩
    rw [← hr1e] at z5 hr1
    rw [← hr2e] at z5' hr2
    have d0 : (q == (x : Int)) = false := by simpa using hnb
    have d1 : decide (r1 < 0) = false := by simp; omega
    have d2 : decide (r2 < 0) = false := by simp; omega
    have d3 : decide ((o : Int) < 0) = false := by simp
    have ho90 : o ≤ 90 := by have := HL.out; omega
    clear hq hnb hr1 hr2 hr1e hr2e hoe ho3
    go_wp2
    go_roundw
    case rel => exact ⟨i + 1, by omega, by go_num, HB9.out⟩
    case measure => simp [intOf]; omega
  · go_wp2
    go_roundw
    case rel => exact ⟨i + 1, by omega, by go_num, HB9.out⟩
    case measure => simp [intOf]; omega
end Go.Proofs.YtknioobpoieohaaGreat

/- gypsumlaw40.RimValues: the walk. -/
import Derived.Test.YtknioobpoieohaaValuesLaw
import Derived.Test.YtknioobpoieohaaBodySt
import Derived.Test.YtknioobpoieohaaBaySurf
import Derived.Test.YtknioobpoieohaaAwake40
import Derived.BigQuiet
namespace Go.Proofs.Ytknioobpoieohaa
set_option linter.unusedVariables false
set_option linter.unusedSimpArgs false
open Go.RowKit
theorem CutIs.many {n : Nat} {T : List Tr} {bays : List Int} {bay : Int} {L : Nat → Int} {F : List Nat} (hc : CutIs T bays bay L F) (hs : Surf n T) {t : Nat} (ht : t < T.length) (hb : I! bays t = bay) : F.length ≠ 1 := by
  obtain ⟨k0, -, h0, e0⟩ := hc.old hs (c := 3 * t + 0) (by omega) (by rw [show (3 * t + 0) / 3 = t by omega]; exact hb)
  obtain ⟨k1, -, h1, e1⟩ := hc.old hs (c := 3 * t + 1) (by omega) (by rw [show (3 * t + 1) / 3 = t by omega]; exact hb)
  intro e
  obtain rfl : k0 = k1 := by omega
  rw [vt3 T t (by omega)] at e0 e1
  have := tg_inj (hs.noloop t ht) (by omega) (by omega) (e0.symm.trans e1)
  omega
/-- What is told of a bay, for its values. -/
def CutV (K bays : List Int) (bay : Int) (len : Nat) (X : World) (e : Ending) (w' : World) : Prop :=
  ∃ (N' : Int) (T' P' : List Tr) (V' R' : List Int) (a1 a2 a3 a4 a5 : Option Addr) (c1 c2 c3 c4 c5 l1 l2 l3 l4 l5 : Nat),
    e = .returned (.tuple #[.agg #[.int .i64 N', .slice a1 l1 c1, .slice a2 l2 c2, .slice a3 l3 c3, .slice a4 l4 c4, .slice a5 l5 c5], .int .i64 0]) ∧
    Hid (T'.length = (sel bays bay len).length ∧ V'.length ≠ 1 ∧ R'.length ≠ 1 ∧ l1 = T'.length ∧ TrisAt w' a1 T' ∧ l2 = P'.length ∧ TrisAt w' a2 P' ∧ l3 = (cutK K bays bay len).length ∧ IntsAt w' a3 (cutK K bays bay len) ∧ l4 = V'.length ∧ IntsAt w' a4 V' ∧ l5 = R'.length ∧ IntsAt w' a5 R') ∧
    Below X.heap.size X w'
theorem cut_values {n : Nat} {T P : List Tr} {K bays : List Int} {bay : Int} {X w' : World} {e : Ending} (hs : Surf n T) {t : Nat} (ht : t < T.length) (hb : I! bays t = bay) (hm : bay ∈ bays) (h : CutPost n T P K bays bay X e w') : CutV K bays bay T.length X e w' := by
  obtain ⟨hc, hbel⟩ := h
  obtain ⟨-, L, F, a1, a2, a3, a4, a5, c1, c2, c3, c4, c5, l1, l2, l3, l4, l5, hcut, he, -, e1, h1, e2, h2, e3, h3, e4, h4, e5, h5⟩ := hc.resolve_left (fun h => h.1 hm)
  have hF := hcut.many hs ht hb
  exact ⟨_, _, _, _, _, a1, a2, a3, a4, a5, c1, c2, c3, c4, c5, l1, l2, l3, l4, l5, he, Lib.hid ⟨by simp [cutT], by simpa [cutV] using hF, by simpa [cutR] using hF, e1, h1, e2, h2, e3, h3, e4, h4, e5, h5⟩, hbel⟩
/-- What stands behind the store of a bay. -/
def LocV (K bays : List Int) (bay : Int) (len : Nat) (w : World) (lb : Nat) : Prop :=
  ∃ (N' : Int) (T' P' : List Tr) (V' R' : List Int), T'.length = (sel bays bay len).length ∧ LocAt w 0 lb N' T' P' (cutK K bays bay len) V' R'
theorem locV_of {K bays : List Int} {bay : Int} {len : Nat} {w : World} {lb : Nat} {N' : Int} {T' P' : List Tr} {V' R' : List Int} (h1 : T'.length = (sel bays bay len).length) (h2 : LocAt w 0 lb N' T' P' (cutK K bays bay len) V' R') : LocV K bays bay len w lb := ⟨_, _, _, _, _, h1, h2⟩
set_option maxRecDepth 100000 in
set_option maxHeartbeats 4000000 in
theorem values_any (N : Int) (ao : Option Addr) (cap : Nat) (T : List Tr) (bo : Option Addr) (bcap : Nat) (bays : List Int) (ko : Option Addr) (kcap : Nat) (K : List Int) (w : World) (hT : TrisAt w ao T) (hTl : T.length ≤ 9223372036854775807) (hB : IntsAt w bo bays) (hBl : bays.length ≤ 9223372036854775807) (hBc : bays.length ≤ bcap) (hK : IntsAt w ko K) (hKl : K.length ≤ 9223372036854775807) (hKc : K.length ≤ kcap) :
    Calls Try.prog 4 #[.agg #[.int .i64 N, .slice ao T.length cap], .slice bo bays.length bcap, .slice ko K.length kcap] w fun e w' => e = .returned (.bool true) ∧ Below w.heap.size w w' := by
  obtain ⟨W0, hW0⟩ : ∃ W0, W0 = w.alloc (.cells #[.int .i64 N, .slice ao T.length cap] 24) := ⟨_, rfl⟩
  have hb0 : Below w.heap.size w W0 := by rw [hW0]; exact (Below.refl _ _).alloc (Nat.le_refl _) _
  have hr0 : RowIs W0 w.heap.size 24 [.int .i64 N, .slice ao T.length cap] := by rw [hW0]; exact RowIs.made w 24 [.int .i64 N, .slice ao T.length cap]
  have HT := Lib.hid (hT.mono (Nat.le_refl _) hb0)
  have HB := Lib.hid (hB.mono (Nat.le_refl _) hb0)
  have HK := Lib.hid (hK.mono (Nat.le_refl _) hb0)
  have HRI := Lib.hid (fun (X : World) (h1 : TrisAt X ao T) (h2 : IntsAt X bo bays) => right40 N ao cap T bo bcap bays X h1 h2)
  have HCU := Lib.hid (fun (n : Nat) (po : Option Addr) (pc : Nat) (q : Int) (X : World) (h1 : TrisAt X ao T) (h2 : TrisAt X po (ptsL n)) (h3 : IntsAt X ko K) (h4 : IntsAt X bo bays) (hs : Surf n T) (hok : BaysOK T.length bays) (hkl : K.length = 3 * T.length) => cut_ok n ao cap T po pc (ptsL n) ko kcap K bo bcap bays q X h1 h2 h3 h4 hs hok (ptsL_len n) (.inr hkl) hKc)
  simp only [ptsL_len] at HCU
  obtain ⟨xb, hxb⟩ : ∃ x, x = w.heap.size := ⟨_, rfl⟩
  obtain ⟨len, hlen⟩ : ∃ l, l = T.length := ⟨_, rfl⟩
  obtain ⟨bl, hbl⟩ : ∃ l, l = bays.length := ⟨_, rfl⟩
  obtain ⟨kl, hkl⟩ : ∃ l, l = K.length := ⟨_, rfl⟩
  rw [← hlen] at hW0 hr0 HRI HCU hTl ⊢
  rw [← hbl] at HRI HCU hBl hBc ⊢
  rw [← hkl] at HCU hKl hKc ⊢
  rw [← hxb] at hr0
  have HL := Lib.hid hlen
  have HBL := Lib.hid hbl
  have HKL := Lib.hid hkl
  have HXB := Lib.hid hxb
  have HW0 := Lib.hid hW0
  have HB0 := Lib.hid hb0
  have HR0 := Lib.hid hr0
  clear hT hB hK hb0 hr0 hW0 hlen hbl hkl hxb
  go_enter Try.func4, Try.ntmps4
  go_upto_region 1 with fail
  rw [← HW0.out]
  go_wp2_with fail
  refine (awake40 _).mono ?_
  rintro e w1 ⟨rfl, hb1⟩
  have HB1 := Lib.hid (below_more HB0.out hb1 HB0.out.size)
  have HR1 := Lib.hid (HR0.out.after hb1)
  have HT1 := Lib.hid (HT.out.mono (Nat.le_refl _) hb1)
  have HBY1 := Lib.hid (HB.out.mono (Nat.le_refl _) hb1)
  have HK1 := Lib.hid (HK.out.mono (Nat.le_refl _) hb1)
  have c0 := HR1.out.cell (i := 0) rfl
  have c1 := HR1.out.cell (i := 1) rfl
  rw [← HXB.out]
  clear hb1 HR0 HT HB HK HB0 HW0
  go_wp2_with fail
  refine (HRI.out w1 HT1.out HBY1.out).mono ?_
  rintro e w2 ⟨r, rfl, hsay, hb2⟩
  have HB2 := Lib.hid (below_more HB1.out hb2 HB1.out.size)
  have HR2 := Lib.hid (HR1.out.after hb2)
  have HT2 := Lib.hid (HT1.out.mono (Nat.le_refl _) hb2)
  have HBY2 := Lib.hid (HBY1.out.mono (Nat.le_refl _) hb2)
  have HK2 := Lib.hid (HK1.out.mono (Nat.le_refl _) hb2)
  have HS := Lib.hid hsay
  clear c0 c1 hb2 hsay HR1 HT1 HBY1 HK1 HB1
  have c0 := HR2.out.cell (i := 0) rfl
  have c1 := HR2.out.cell (i := 1) rfl
  cases r
  · go_wp2
    exact bodyPost_ret (v := .bool true) (by simp [results, Try.results4, go_sem]) rfl ⟨rfl, HB2.out⟩
  have hright := HS.out.1 rfl
  obtain ⟨hg, hs, hok⟩ := hright
  have hlen30 : len ≤ 30 := by have := HL.out; unfold grB at hg; simp at hg; omega
  have h3l : (3 : Int) * (len : Int) = ((3 * len : Nat) : Int) := by omega
  obtain ⟨l3, hl3⟩ : ∃ l3, l3 = 3 * len := ⟨_, rfl⟩
  rw [← hl3] at h3l
  have hl390 : l3 ≤ 90 := by omega
  have HL3 := Lib.hid hl3
  have HSURF := Lib.hid hs
  have HOK := Lib.hid hok
  clear hg hs hok hl3 HS
  by_cases hk : kl = l3
  case neg =>
    have d0 : ((kl : Int) != (l3 : Int)) = true := by simp; omega
    have d1 : ((kl : Int) == (l3 : Int)) = false := by simp; omega
    have d2 : (kl == l3) = false := by simpa using hk
    clear hk
    go_wp2
    exact bodyPost_ret (v := .bool true) (by simp [results, Try.results4, go_sem]) rfl ⟨rfl, HB2.out⟩
  case pos =>
  subst hk
  obtain ⟨n, rfl⟩ := Int.eq_ofNat_of_zero_le HSURF.out.n0
  have hn : n ≤ 4096 := by have := HSURF.out.n1; omega
  have HK5 := Lib.hid (show ∀ w', Below w2.heap.size w2 w' → w'.cell? ⟨xb, 0, none⟩ = some (.int .i64 (n : Int)) ∧ w'.cell? ⟨xb, 1, none⟩ = some (.slice ao len cap) from fun w' hb => ⟨(HR2.out.after hb).cell (i := 0) rfl, (HR2.out.after hb).cell (i := 1) rfl⟩)
  have HPT := Lib.hid (fun X : World => points40 n X (by omega))
  go_upto_region 5 with fail
  clear c0 c1
  go_cut [7] (fun s7 wc => ∃ (bb : Nat) (po : Option Addr) (pc : Nat), s7 = .pointer (some ⟨bb, 0, none⟩) ∧ BodyAt wc bb n ao len cap po pc ko kl kcap (ptsL n) ∧ Below w2.heap.size w2 wc)
  case first =>
    go_region_held3 (fun w' => w'.cell? ⟨xb, 0, none⟩ = some (.int .i64 (n : Int)) ∧ w'.cell? ⟨xb, 1, none⟩ = some (.slice ao len cap))
      (exact HK5.out _ (by repeat (first | with_reducible exact Below.refl _ _ | with_reducible apply bel_alloc | with_reducible apply bel_drew | (with_reducible refine set4_below ?_ (by first | exact Nat.le_refl _ | exact hbA.size | (have q9 := hbA.size; simp only [World.size_alloc, show ∀ X : World, X.drew.heap.size = X.heap.size from fun _ => rfl] at q9 ⊢; omega)) _ _ _ _) | (with_reducible refine bel_step ?_ hbA))))
      (first | (go_at_call 8; (with_reducible refine (HPT.out _).mono ?_); rintro e wA ⟨aA, cA, rfl, hA, hbA⟩; (try (have hY := RowIs.after (show RowIs _ _ 35 [.int .i64 0, .slice none 0 0, .slice none 0 0, .slice none 0 0] from by (repeat (first | exact RowIs.made' _ _ _ _ (by first | rfl | simp) | with_reducible apply RowIs.drew1 | with_reducible apply RowIs.alloc))) hbA; (try simp only [World.size_alloc] at hY); have q0 := hY.cell (i := 0) rfl; have q1 := hY.cell (i := 1) rfl; have q2 := hY.cell (i := 2) rfl; have q3 := hY.cell (i := 3) rfl; have qf0 := hY.free 0; have qf1 := hY.free 1; have qf2 := hY.free 2; have qf3 := hY.free 3; try simp only [World.size_alloc] at q0 q1 q2 q3 qf0 qf1 qf2 qf3))))
    all_goals
      go_wp2
      go_meet
      try (have hY' : RowIs _ _ _ brow := hY)
      first
      | with_reducible exact ⟨_, aA, cA, rfl, body_alloc (by repeat (first | exact hA | with_reducible apply tris_drew | with_reducible apply tris_alloc)), by repeat (first | with_reducible exact Below.refl _ _ | with_reducible apply bel_alloc | with_reducible apply bel_drew | (with_reducible refine bel_step ?_ hbA))⟩
      | with_reducible exact ⟨_, aA, cA, rfl, body_store hY' (by repeat (first | exact hA | with_reducible apply tris_drew | with_reducible apply tris_alloc)), set4_below (by repeat (first | with_reducible exact Below.refl _ _ | with_reducible apply bel_alloc | with_reducible apply bel_drew | (with_reducible refine bel_step ?_ hbA))) (by have q1 := hbA.size; simp only [World.size_alloc, show ∀ X : World, X.drew.heap.size = X.heap.size from fun _ => rfl] at q1 ⊢; omega) _ _ _ _⟩
  case rest =>
    obtain ⟨bb, po, pc, rfl, hbody, hb5⟩ := hcut
    obtain ⟨W5, rfl⟩ : ∃ X : World, X = wc := ⟨_, rfl⟩
    obtain ⟨i0, hi, hz0, hz1, hz2⟩ := info_parts info3
    have HBODY := Lib.hid hbody
    have HB5 := Lib.hid (below_more HB2.out hb5 HB2.out.size)
    have HR5 := Lib.hid (HR2.out.after hb5)
    have HT5 := Lib.hid (HT2.out.mono (Nat.le_refl _) hb5)
    have HBY5 := Lib.hid (HBY2.out.mono (Nat.le_refl _) hb5)
    have HKK5 := Lib.hid (HK2.out.mono (Nat.le_refl _) hb5)
    clear hbody hb5 HR2 HT2 HBY2 HK2 HB2 HK5 HPT HRI
    go_wp2_with (at_make; refine wpList_make_full _ rfl _ _ _ rfl W5.heap.size 3 i0 (.int .i64 0) 1 (by kernel_rfl) hi hz0 hz1 _ _ _ _ 256 rfl rfl rfl rfl (by rw [hz2]; omega) (by unfold maxLen; omega) (Nat.le_refl _) ?_)
    intro w6 hown hgrow
    rw [madeCells_iv, ← cnt_zero bays] at hown
    have HROW := Lib.hid (RowIs.of_owns hown)
    have HB6 := Lib.hid (show Below W5.heap.size W5 w6 from (Below.refl _ _).grown hgrow (Nat.le_refl _) (by simp))
    clear hown hgrow hi hz0 hz1 hz2
    go_wp2
    go_loopw [9] (fun c ws => ∃ t : Nat, t ≤ len ∧ c = .int .i64 t ∧ RowIs ws W5.heap.size 3 (iv (cnt bays t) 256) ∧ Below W5.heap.size W5 ws) (fun c _ => len - (intOf c).toNat)
    case atStart => exact ⟨0, by omega, rfl, HROW.out, HB6.out⟩
    case round =>
      clear HROW HB6
      obtain ⟨t, ht, rfl, hr, hb⟩ := hrel
      obtain ⟨X, rfl⟩ : ∃ X : World, X = wr := ⟨_, rfl⟩
      have x1 := (HR5.out.after hb).cell (i := 1) rfl
      by_cases hlt : t < len
      case neg =>
        obtain rfl : t = len := by omega
        have HBF := Lib.hid (below_more HB5.out hb HB5.out.size)
        clear hr hb
        go_wp2
        exact bodyPost_ret (v := .bool true) (by simp [results, Try.results4, go_sem]) rfl ⟨rfl, HBF.out⟩
      case pos =>
      have htb : t < bays.length := by have := HOK.out.1; have := HL.out; omega
      obtain ⟨yb, yoff, q, hE, hq, hqc, hy1, hy2⟩ := HBY5.out.get (Nat.le_refl _) hb (i := t) htb
      subst hE
      have hm : I! bays t ∈ bays := by
        unfold I!
        rw [List.getD_eq_getElem?_getD, List.getElem?_eq_getElem htb]
        exact List.getElem_mem htb
      have hqr := HOK.out.2 _ hm
      rw [hq.out] at hqr hm
      obtain ⟨qn, rfl⟩ := Int.eq_ofNat_of_zero_le hqr.1
      have hq256 : qn < 256 := by omega
      have htbl : t < bl := by rw [HBL.out]; exact htb
      have hbd := HBODY.out.more hb
      have p0 := hbd.1.cell (i := 0) rfl
      have p1 := hbd.1.cell (i := 1) rfl
      have p2 := hbd.1.cell (i := 2) rfl
      have p3 := hbd.1.cell (i := 3) rfl
      have hbbX : bb < X.heap.size := hbd.1.lt
      have HKX := Lib.hid (show ∀ w', Below X.heap.size X w' → w'.cell? ⟨bb, 0, none⟩ = some (.int .i64 (n : Int)) ∧ w'.cell? ⟨bb, 1, none⟩ = some (.slice ao len cap) ∧ w'.cell? ⟨bb, 2, none⟩ = some (.slice po n pc) ∧ w'.cell? ⟨bb, 3, none⟩ = some (.slice ko kl kcap) ∧ w'.cell? ⟨yb, yoff + t, none⟩ = some (.int .i64 (qn : Int)) from fun w' hb' =>
        ⟨(hb'.cell (p := ⟨bb, _, none⟩) hbbX).trans p0, (hb'.cell (p := ⟨bb, _, none⟩) hbbX).trans p1, (hb'.cell (p := ⟨bb, _, none⟩) hbbX).trans p2, (hb'.cell (p := ⟨bb, _, none⟩) hbbX).trans p3, (hb'.cell (p := ⟨yb, _, none⟩) hy2).trans hqc⟩)
      have HCUT := Lib.hid (show ∀ X', Below X.heap.size X X' → Calls Try.prog 9 #[.agg #[.int .i64 (n : Int), .slice ao len cap, .slice po n pc, .slice ko kl kcap], .slice (some ⟨yb, yoff, none⟩) bl bcap, .int .i64 (qn : Int)] X' (CutV K bays qn T.length X') from fun X' hb' =>
        have hbX := below_more hb hb' hb.size
        (HCU.out n po pc qn X' (HT5.out.mono (Nat.le_refl _) hbX) (HBODY.out.more hbX).2 (HKK5.out.mono (Nat.le_refl _) hbX) (HBY5.out.mono (Nat.le_refl _) hbX) HSURF.out (by rw [HL.out]; exact HOK.out) (by have := HL3.out; have := HL.out; have := HKL.out; omega)).mono fun e w' h => cut_values HSURF.out (t := t) (by have := HL.out; omega) hq.out hm h)
      have HR := Lib.hid hr
      have HB := Lib.hid hb
      have HQ := Lib.hid hq.out
      clear hm hqr hr hb hbd hq
      go_upto_region 10 with fail
      clear p0 p1 p2 p3 hqc x1
      go_cut [10, 11] (fun s10 s11 wc => ∃ lb : Nat, s10 = .pointer (some ⟨lb, 0, none⟩) ∧ s11 = .int .i64 0 ∧ LocV K bays qn T.length wc lb ∧ Below X.heap.size X wc)
      case first =>
        go_region_held3 (fun w' => w'.cell? ⟨bb, 0, none⟩ = some (.int .i64 (n : Int)) ∧ w'.cell? ⟨bb, 1, none⟩ = some (.slice ao len cap) ∧ w'.cell? ⟨bb, 2, none⟩ = some (.slice po n pc) ∧ w'.cell? ⟨bb, 3, none⟩ = some (.slice ko kl kcap) ∧ w'.cell? ⟨yb, yoff + t, none⟩ = some (.int .i64 (qn : Int)))
          (exact HKX.out _ (by repeat (first | with_reducible exact Below.refl _ _ | with_reducible apply bel_alloc | with_reducible apply bel_drew | (with_reducible refine set6_below ?_ (by first | exact Nat.le_refl _ | exact hbB.size | (have q9 := hbB.size; simp only [World.size_alloc, show ∀ X : World, X.drew.heap.size = X.heap.size from fun _ => rfl] at q9 ⊢; omega)) _ _ _ _ _ _) | (with_reducible refine bel_step ?_ hbB))))
          (first | (go_at_call 9; (with_reducible refine (HCUT.out _ (by repeat (first | with_reducible exact Below.refl _ _ | with_reducible apply bel_alloc | with_reducible apply bel_drew))).mono ?_); rintro e wB ⟨N1, T1, P1, V1, R1, d1, d2, d3, d4, d5, n1, n2, n3, n4, n5, m1, m2, m3, m4, m5, rfl, hV, hbB⟩; (try (have hZ := RowIs.after (show RowIs _ _ 37 [.int .i64 0, .slice none 0 0, .slice none 0 0, .slice none 0 0, .slice none 0 0, .slice none 0 0] from by (repeat (first | exact RowIs.made' _ _ _ _ (by first | rfl | simp) | with_reducible apply RowIs.drew1 | with_reducible apply RowIs.alloc))) hbB; (try simp only [World.size_alloc] at hZ); have q0 := hZ.cell (i := 0) rfl; have q1 := hZ.cell (i := 1) rfl; have q2 := hZ.cell (i := 2) rfl; have q3 := hZ.cell (i := 3) rfl; have q4 := hZ.cell (i := 4) rfl; have q5 := hZ.cell (i := 5) rfl; have qf0 := hZ.free 0; have qf1 := hZ.free 1; have qf2 := hZ.free 2; have qf3 := hZ.free 3; have qf4 := hZ.free 4; have qf5 := hZ.free 5; try simp only [World.size_alloc] at q0 q1 q2 q3 q4 q5 qf0 qf1 qf2 qf3 qf4 qf5))))
        all_goals
          go_wp2
          go_meet
          obtain ⟨hT1, nV, nR, e1, h1, e2, h2, e3, h3, e4, h4, e5, h5⟩ := hV.out
          try (have hZ' : RowIs _ _ _ zrow := hZ)
          first
          | with_reducible exact ⟨_, rfl, rfl, locV_of hT1 (loc_alloc new5 e1 h1 e2 h2 e3 h3 e4 h4 e5 h5), by repeat (first | with_reducible exact Below.refl _ _ | with_reducible apply bel_alloc | with_reducible apply bel_drew | (with_reducible refine bel_step ?_ hbB))⟩
          | with_reducible exact ⟨_, rfl, rfl, locV_of hT1 (loc_store hZ' new5 e1 h1 e2 h2 e3 h3 e4 h4 e5 h5 (cutK_not1 _ _ _ _) nV nR), set6_below (by repeat (first | with_reducible exact Below.refl _ _ | with_reducible apply bel_alloc | with_reducible apply bel_drew | (with_reducible refine bel_step ?_ hbB))) (by have q1 := hbB.size; simp only [World.size_alloc, show ∀ X : World, X.drew.heap.size = X.heap.size from fun _ => rfl] at q1 ⊢; omega) _ _ _ _ _ _⟩
      case rest =>
        obtain ⟨lb, rfl, rfl, hloc, hb7⟩ := hcut
        obtain ⟨W7, rfl⟩ : ∃ X : World, X = wc := ⟨_, rfl⟩
        obtain ⟨N', T', P', V', R', hT', a1, a2, a3, a4, a5, c1, c2, c3, c4, c5, l1, l2, l3, l4, l5, h0, -, e1, h1, e2, h2, e3, h3, e4, h4, e5, h5⟩ := hloc
        have HB7 := Lib.hid (below_more HB.out hb7 HB.out.size)
        have HR7 := Lib.hid (HR.out.after hb7)
        have hKn : K.length ≠ 0 := by have := HKL.out; have := HL3.out; omega
        obtain ⟨m0, m1, m2, m3⟩ := cutK_at (K := K) (N := T.length) hKn HQ.out (by have := HL.out; omega)
        have hlenK := cutK_len K bays (qn : Int) T.length hKn
        have hsl := sel_le bays (qn : Int) t
        have hcnt : cnt bays t qn = ((sel bays (qn : Int) t).length : Int) := rfl
        have hstep := cnt_succ HQ.out
        rw [hcnt] at hstep
        obtain ⟨s, hs⟩ : ∃ s, s = (sel bays (qn : Int) t).length := ⟨_, rfl⟩
        rw [← hs] at m0 m1 m2 m3 hsl hcnt hstep
        clear hs
        obtain ⟨b3, o3, rfl, hb3, hc3⟩ := h3 (fun e => by rw [e] at m0; simp at m0)
        have g0 := hc3 (3 * s) (by omega)
        have g1 := hc3 (3 * s + 1) (by omega)
        have g2 := hc3 (3 * s + 2) (by omega)
        rw [m1] at g0
        rw [m2] at g1
        rw [m3] at g2
        obtain ⟨kb, kof, rfl, hkb, hck⟩ := (HKK5.out.mono (Nat.le_refl _) HB7.out) (fun e => hKn (by rw [e]; rfl))
        have f0 := hck (3 * t) (by have := HKL.out; have := HL3.out; omega)
        have f1 := hck (3 * t + 1) (by have := HKL.out; have := HL3.out; omega)
        have f2 := hck (3 * t + 2) (by have := HKL.out; have := HL3.out; omega)
        obtain ⟨k0, hk0⟩ : ∃ x, x = I! K (3 * t) := ⟨_, rfl⟩
        obtain ⟨k1, hk1⟩ : ∃ x, x = I! K (3 * t + 1) := ⟨_, rfl⟩
        obtain ⟨k2, hk2⟩ : ∃ x, x = I! K (3 * t + 2) := ⟨_, rfl⟩
        rw [← hk0] at g0 f0
        rw [← hk1] at g1 f1
        rw [← hk2] at g2 f2
        obtain ⟨s3, hs3⟩ : ∃ x, x = 3 * s := ⟨_, rfl⟩
        obtain ⟨t3, ht3⟩ : ∃ x, x = 3 * t := ⟨_, rfl⟩
        rw [← hs3] at g0 g1 g2 m0
        rw [← ht3] at f0 f1 f2
        obtain ⟨s31, hs31⟩ : ∃ x, x = s3 + 1 := ⟨_, rfl⟩
        obtain ⟨s32, hs32⟩ : ∃ x, x = s3 + 2 := ⟨_, rfl⟩
        obtain ⟨t31, ht31⟩ : ∃ x, x = t3 + 1 := ⟨_, rfl⟩
        obtain ⟨t32, ht32⟩ : ∃ x, x = t3 + 2 := ⟨_, rfl⟩
        rw [← hs31] at g1
        rw [← hs32] at g2 m0
        rw [← ht31] at f1
        rw [← ht32] at f2
        have i1 : (3 : Int) * (s : Int) = (s3 : Int) := by omega
        have i2 : (s3 : Int) + 1 = (s31 : Int) := by omega
        have i3 : (s3 : Int) + 2 = (s32 : Int) := by omega
        have i4 : (3 : Int) * (t : Int) = (t3 : Int) := by omega
        have i5 : (t3 : Int) + 1 = (t31 : Int) := by omega
        have i6 : (t3 : Int) + 2 = (t32 : Int) := by omega
        have i7 : (3 : Int) * (l1 : Int) = (l3 : Int) := by omega
        have j0 : s3 < l3 := by omega
        have j1 : s31 < l3 := by omega
        have j2 : s32 < l3 := by omega
        have j3 : t3 < kl := by have := HL3.out; omega
        have j4 : t31 < kl := by have := HL3.out; omega
        have j5 : t32 < kl := by have := HL3.out; omega
        have hs30 : s ≤ 30 := by omega
        have hl3 : l3 ≤ 90 := by have := sel_le bays (qn : Int) T.length; have := HL.out; omega
        have hs390 : s32 ≤ 92 := by omega
        have ht390 : t32 ≤ 92 := by omega
        have r0 : IntKind.i64.wrap (l3 : Int) = (l3 : Int) := wrapN _ (by omega)
        have r1 : IntKind.i64.wrap (s3 : Int) = (s3 : Int) := wrapN _ (by omega)
        have r2 : IntKind.i64.wrap (s31 : Int) = (s31 : Int) := wrapN _ (by omega)
        have r3 : IntKind.i64.wrap (s32 : Int) = (s32 : Int) := wrapN _ (by omega)
        have r4 : IntKind.i64.wrap (t3 : Int) = (t3 : Int) := wrapN _ (by omega)
        have r5 : IntKind.i64.wrap (t31 : Int) = (t31 : Int) := wrapN _ (by omega)
        have r6 : IntKind.i64.wrap (t32 : Int) = (t32 : Int) := wrapN _ (by omega)
        have d1 : decide ((s32 : Int) ≥ (l3 : Int)) = false := by simp; omega
        have d2 : decide ((l3 : Int) ≤ (s32 : Int)) = false := by simp; omega
        have u3 := h0.cell (i := 3) rfl
        have u1 := h0.cell (i := 1) rfl
        have v0 := HR7.out.cell (iv_get (cnt bays t) hq256)
        rw [hcnt] at v0
        have vf := HR7.out.free qn
        have hyc : W7.cell? ⟨yb, yoff + t, none⟩ = some (.int .i64 (qn : Int)) := (HKX.out W7 hb7).2.2.2.2
        have HR8 := Lib.hid (show RowIs (W7.setCell ⟨W5.heap.size, qn, none⟩ (.int .i64 ((s : Int) + 1))) W5.heap.size 3 (iv (cnt bays (t + 1)) 256) from by
          have := HR7.out.set qn (.int .i64 ((s : Int) + 1))
          rw [iv_set, hstep] at this
          exact this)
        have HB8 := Lib.hid (show ∀ q, Below W5.heap.size W5 ((W7.drewN q).setCell ⟨W5.heap.size, qn, none⟩ (.int .i64 ((s : Int) + 1))) from fun q => (below_more HB7.out (⟨rfl, rfl, rfl, Nat.le_refl _, fun _ _ => rfl⟩ : Below W7.heap.size W7 (W7.drewN q)) HB7.out.size).setCell (Nat.le_refl _) _)
        clear hb7 h0 h1 h2 h3 h4 h5 e1 e2 e3 e4 e5 hc3 hck m0 m1 m2 m3 hk0 hk1 hk2 hs3 ht3 hs31 hs32 ht31 ht32 hT' hlenK hsl hcnt hstep hKn
        go_upto_region 12 with fail
        go_quiet (fail)
        go_wp2
        go_roundw
        case rel => exact ⟨t + 1, by omega, by go_num, HR8.out, HB8.out _⟩
        case measure => simp [intOf]; omega
end Go.Proofs.Ytknioobpoieohaa

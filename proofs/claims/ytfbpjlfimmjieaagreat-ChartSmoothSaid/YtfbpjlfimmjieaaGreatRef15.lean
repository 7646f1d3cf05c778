/- gypsumref15: V, Next, Prev, Facing. gypsumref15.Opp. -/
import Derived.Test.YtfbpjlfimmjieaaGreatFaceLaw
import Derived.Test.YtfbpjlfimmjieaaGreatCmpW
import Derived.Test.YtfbpjlfimmjieaaGreatCornerNew
import Derived.Deep.RegionHeld3
import Derived.Deep.DeepCutAuto
import Derived.Test.YtfbpjlfimmjieaaGreatIs15b
namespace Go.Proofs.YtfbpjlfimmjieaaGreat
set_option linter.unusedVariables false
set_option linter.unusedSimpArgs false
open Go.RowKit
set_option maxHeartbeats 400000 in
theorem next15 (c : Nat) (w : World) (hc : c ≤ 100000) :
    Calls Tryz.prog 55 #[.int .i64 (c : Int)] w fun e w' => e = .returned (.int .i64 (nxn c : Nat)) ∧ w = w' := by
  have h1 : (c : Int) - (c : Int) % 3 + ((c : Int) + 1) % 3 = (nxn c : Nat) := by unfold nxn; omega
  go_enter Tryz.func55, Tryz.ntmps55
  go_wp2
  go_ret
  exact ⟨rfl, rfl⟩
set_option maxHeartbeats 400000 in
theorem prev15 (c : Nat) (w : World) (hc : c ≤ 100000) :
    Calls Tryz.prog 56 #[.int .i64 (c : Int)] w fun e w' => e = .returned (.int .i64 (pvn c : Nat)) ∧ w = w' := by
  have h1 : (c : Int) - (c : Int) % 3 + ((c : Int) + 2) % 3 = (pvn c : Nat) := by unfold pvn; omega
  go_enter Tryz.func56, Tryz.ntmps56
  go_wp2
  go_ret
  exact ⟨rfl, rfl⟩
set_option maxHeartbeats 400000 in
theorem v15 (N : Int) (ao : Option Addr) (cap : Nat) (T : List Tr) (c : Nat) (w : World) (hT : TrisAt w ao T) (hl : T.length ≤ 10000) (hc : c < 3 * T.length) :
    Calls Tryz.prog 62 #[.agg #[.int .i64 N, .slice ao T.length cap], .int .i64 (c : Int)] w fun e w' => e = .returned (.int .i64 (vt T (c : Nat))) ∧ Below w.heap.size w w' := by
  obtain ⟨g, off, rfl, hcell, hg⟩ := hT.at (i := c / 3) (j := c % 3) (by omega) (by omega)
  obtain ⟨v, hv⟩ : ∃ v, v = tg (T! T (c / 3)) (c % 3) := ⟨_, rfl⟩
  obtain ⟨len, hlen⟩ : ∃ n, n = T.length := ⟨_, rfl⟩
  have e0 : vt T ((c : Nat) : Int) = v := by rw [hv]; rfl
  rw [e0]
  rw [← hv] at hcell
  rw [← hlen] at hl hc ⊢
  have h3 : (c : Int) / 3 = ((c / 3 : Nat) : Int) := by omega
  have h4 : (c : Int) % 3 = ((c % 3 : Nat) : Int) := by omega
  obtain ⟨i, hi⟩ : ∃ i, i = c / 3 := ⟨_, rfl⟩
  obtain ⟨j, hj⟩ : ∃ j, j = c % 3 := ⟨_, rfl⟩
  rw [← hi] at h3 hcell
  rw [← hj] at h4 hcell
  have hil : i < len := by omega
  have hj3 : j < 3 := by omega
  have hc' := ((Below.refl w.heap.size w).alloc (Nat.le_refl _) (.cells #[.int .i64 N, .slice (some ⟨g, off, none⟩) len cap] 24)).cell (p := ⟨g, off + i * 3 + j, none⟩) hg
  rw [hcell] at hc'
  clear hv hlen hT e0 hi hj
  go_enter Tryz.func62, Tryz.ntmps62
  go_wp2
  go_ret
  exact ⟨rfl, (Below.refl _ _).alloc (Nat.le_refl _) _⟩
/-- What is told of the corner that faces an edge. -/
def FacePost (T : List Tr) (a b r : Int) : Prop := (∃ c : Nat, r = c ∧ c < 3 * T.length ∧ edgeAt T (c : Nat) = (a, b)) ∨ (r = -1 ∧ ∀ c : Nat, c < 3 * T.length → edgeAt T (c : Nat) ≠ (a, b))
set_option maxRecDepth 100000 in
set_option maxHeartbeats 1500000 in
theorem facing15 (N : Int) (ao : Option Addr) (cap : Nat) (T : List Tr) (a b : Int) (w : World) (hT : TrisAt w ao T) (hl : T.length ≤ 10000) :
    Calls Tryz.prog 86 #[.agg #[.int .i64 N, .slice ao T.length cap], .int .i64 a, .int .i64 b] w fun e w' => ∃ r, e = .returned (.int .i64 r) ∧ FacePost T a b r ∧ Below w.heap.size w w' := by
  obtain ⟨W0, hW0⟩ : ∃ W0, W0 = w.alloc (.cells #[.int .i64 N, .slice ao T.length cap] 24) := ⟨_, rfl⟩
  have hb0 : Below w.heap.size w W0 := by rw [hW0]; exact (Below.refl _ _).alloc (Nat.le_refl _) _
  have hr0 : RowIs W0 w.heap.size 24 [.int .i64 N, .slice ao T.length cap] := by rw [hW0]; exact RowIs.made w 24 [.int .i64 N, .slice ao T.length cap]
  have HT := Lib.hid (hT.mono (Nat.le_refl _) hb0)
  have HV := Lib.hid (fun (X : World) (c : Nat) (h : TrisAt X ao T) (hc : c < 3 * T.length) => v15 N ao cap T c X h hl hc)
  obtain ⟨xb, hxb⟩ : ∃ x, x = w.heap.size := ⟨_, rfl⟩
  obtain ⟨len, hlen⟩ : ∃ n, n = T.length := ⟨_, rfl⟩
  obtain ⟨l3, hl3⟩ : ∃ x, x = 3 * len := ⟨_, rfl⟩
  rw [← hlen] at hl hW0 hr0 ⊢
  simp only [← hlen] at HV
  rw [← hxb] at hr0
  have h3 : (3 : Int) * (len : Int) = (l3 : Int) := by omega
  have hl3' : l3 ≤ 30000 := by omega
  have HL := Lib.hid hlen
  have HL3 := Lib.hid hl3
  have HB0 := Lib.hid hb0
  have HR0 := Lib.hid hr0
  have HW0 := Lib.hid hW0
  have HXB := Lib.hid hxb
  clear hT hb0 hr0 hlen hl3 hW0 hxb
  go_enter Tryz.func86, Tryz.ntmps86
  go_upto_region 1 with fail
  rw [← HW0.out, ← HXB.out]
  go_wp2
  go_loopw [7] (fun i ws => ∃ c : Nat, c ≤ l3 ∧ i = .int .i64 c ∧ (∀ d : Nat, d < c → edgeAt T (d : Nat) ≠ (a, b)) ∧ Below W0.heap.size W0 ws) (fun i _ => l3 - (intOf i).toNat)
  case atStart => exact ⟨0, by omega, rfl, fun d h => by omega, Below.refl _ _⟩
  case round =>
  obtain ⟨c, hc, rfl, hno, hb⟩ := hrel
  obtain ⟨X, rfl⟩ : ∃ X : World, X = wr := ⟨_, rfl⟩
  have hbox := HR0.out.after hb
  have c0 := hbox.cell (i := 0) rfl
  have c1 := hbox.cell (i := 1) rfl
  have HNO := Lib.hid hno
  have HB := Lib.hid hb
  by_cases hlt : c < l3
  case neg =>
    obtain rfl : l3 = c := by omega
    have HF := Lib.hid (show FacePost T a b (-1) from .inr ⟨rfl, fun d hd => HNO.out d (by have := HL3.out; have := HL.out; omega)⟩)
    have HBF := Lib.hid (below_more HB0.out hb HB0.out.size)
    clear hno hb hbox
    go_wp2
    go_ret
    exact ⟨-1, rfl, HF.out, HBF.out⟩
  case pos =>
  have hcT : c < 3 * T.length := by have := HL3.out; have := HL.out; omega
  obtain ⟨p, hp⟩ : ∃ p, p = vt T (nxn c : Nat) := ⟨_, rfl⟩
  obtain ⟨q, hq⟩ : ∃ q, q = vt T (pvn c : Nat) := ⟨_, rfl⟩
  have hed : edgeAt T (c : Nat) = (p, q) := by rw [edgeAt_nat, hp, hq]
  have HED := Lib.hid hed
  have HK := Lib.hid (show ∀ w', Below X.heap.size X w' → w'.cell? ⟨xb, 0, none⟩ = some (.int .i64 N) ∧ w'.cell? ⟨xb, 1, none⟩ = some (.slice ao len cap) from fun w' h => ⟨(hbox.after h).cell (i := 0) rfl, (hbox.after h).cell (i := 1) rfl⟩)
  have HN := Lib.hid (show ∀ w', Calls Tryz.prog 55 #[.int .i64 (c : Int)] w' fun e w'' => e = .returned (.int .i64 (nxn c : Nat)) ∧ w' = w'' from fun w' => next15 c w' (by omega))
  have HP := Lib.hid (show ∀ w', Calls Tryz.prog 56 #[.int .i64 (c : Int)] w' fun e w'' => e = .returned (.int .i64 (pvn c : Nat)) ∧ w' = w'' from fun w' => prev15 c w' (by omega))
  obtain ⟨nc, hnc⟩ : ∃ x, x = nxn c := ⟨_, rfl⟩
  obtain ⟨pc, hpc⟩ : ∃ x, x = pvn c := ⟨_, rfl⟩
  have HV1 := Lib.hid (show ∀ w', Below X.heap.size X w' → Calls Tryz.prog 62 #[.agg #[.int .i64 N, .slice ao len cap], .int .i64 (nc : Int)] w' fun e w'' => e = .returned (.int .i64 p) ∧ Below w'.heap.size w' w'' from fun w' h => by
    rw [hp, hnc]
    exact HV.out w' (nxn c) (HT.out.mono (Nat.le_refl _) (below_more hb h hb.size)) (by rw [HL.out]; exact nxn_lt hcT))
  have HV2 := Lib.hid (show ∀ w', Below X.heap.size X w' → Calls Tryz.prog 62 #[.agg #[.int .i64 N, .slice ao len cap], .int .i64 (pc : Int)] w' fun e w'' => e = .returned (.int .i64 q) ∧ Below w'.heap.size w' w'' from fun w' h => by
    rw [hq, hpc]
    exact HV.out w' (pvn c) (HT.out.mono (Nat.le_refl _) (below_more hb h hb.size)) (by rw [HL.out]; exact pvn_lt hcT))
  simp only [← hnc] at HN
  simp only [← hpc] at HP
  clear hp hq hed hno hb hnc hpc hbox HV
  go_upto_region 4 with fail
  by_cases h1 : p = a
  · subst h1
    clear c0 c1
    by_cases h2 : q = b
    · subst h2
      go_cut [29] (fun s wc => s = .bool true ∧ Below X.heap.size X wc)
      case first =>
        go_region_held3 (fun w' => w'.cell? ⟨xb, 0, none⟩ = some (.int .i64 N) ∧ w'.cell? ⟨xb, 1, none⟩ = some (.slice ao len cap))
          (exact HK.out _ (by repeat (first | with_reducible exact Below.refl _ _ | with_reducible apply bel_drew | exact hbV2 | exact hbV1)))
          (first
            | (go_at_call 55; (with_reducible refine (HN.out _).mono ?_); rintro e wN ⟨rfl, rfl⟩)
            | (go_at_call 56; (with_reducible refine (HP.out _).mono ?_); rintro e wP ⟨rfl, rfl⟩)
            | (go_at_call 62; (with_reducible refine (HV1.out _ (by repeat (first | with_reducible exact Below.refl _ _ | with_reducible apply bel_drew | exact hbV1))).mono ?_); rintro e wV ⟨rfl, hV1⟩; have hbV1 := below_more (show Below X.heap.size X _ from by repeat (first | with_reducible exact Below.refl _ _ | with_reducible apply bel_drew)) hV1 (Nat.le_refl _))
            | (go_at_call 62; (with_reducible refine (HV2.out _ (by repeat (first | with_reducible exact Below.refl _ _ | with_reducible apply bel_drew | exact hbV1))).mono ?_); rintro e wU ⟨rfl, hV2⟩; have hbV2 := below_more (show Below X.heap.size X _ from by repeat (first | with_reducible exact Below.refl _ _ | with_reducible apply bel_drew | exact hbV1)) hV2 (by first | exact Nat.le_refl _ | exact hbV1.size)))
        all_goals
          go_wp2
          go_meet
          exact ⟨by simp, hbV2⟩
      case rest =>
        obtain ⟨rfl, hbc⟩ := hcut
        have HF := Lib.hid (show FacePost T p q (c : Int) from .inl ⟨c, rfl, hcT, HED.out⟩)
        have HBF := Lib.hid (below_more HB0.out (below_more HB.out hbc HB.out.size) HB0.out.size)
        clear hbc
        go_wp2
        go_ret
        exact ⟨c, rfl, HF.out, HBF.out⟩
    · have d0 : (q == b) = false := by simpa using h2
      have HX := Lib.hid (show (p, q) ≠ (p, b) from fun e => h2 (by simpa using e))
      clear h2
      go_cut [29] (fun s wc => s = .bool false ∧ Below X.heap.size X wc)
      case first =>
        go_region_held3 (fun w' => w'.cell? ⟨xb, 0, none⟩ = some (.int .i64 N) ∧ w'.cell? ⟨xb, 1, none⟩ = some (.slice ao len cap))
          (exact HK.out _ (by repeat (first | with_reducible exact Below.refl _ _ | with_reducible apply bel_drew | exact hbV2 | exact hbV1)))
          (first
            | (go_at_call 55; (with_reducible refine (HN.out _).mono ?_); rintro e wN ⟨rfl, rfl⟩)
            | (go_at_call 56; (with_reducible refine (HP.out _).mono ?_); rintro e wP ⟨rfl, rfl⟩)
            | (go_at_call 62; (with_reducible refine (HV1.out _ (by repeat (first | with_reducible exact Below.refl _ _ | with_reducible apply bel_drew | exact hbV1))).mono ?_); rintro e wV ⟨rfl, hV1⟩; have hbV1 := below_more (show Below X.heap.size X _ from by repeat (first | with_reducible exact Below.refl _ _ | with_reducible apply bel_drew)) hV1 (Nat.le_refl _))
            | (go_at_call 62; (with_reducible refine (HV2.out _ (by repeat (first | with_reducible exact Below.refl _ _ | with_reducible apply bel_drew | exact hbV1))).mono ?_); rintro e wU ⟨rfl, hV2⟩; have hbV2 := below_more (show Below X.heap.size X _ from by repeat (first | with_reducible exact Below.refl _ _ | with_reducible apply bel_drew | exact hbV1)) hV2 (by first | exact Nat.le_refl _ | exact hbV1.size)))
        all_goals
          go_wp2
          go_meet
          exact ⟨by simp, hbV2⟩
      case rest =>
        obtain ⟨rfl, hbc⟩ := hcut
        have HNO2 := Lib.hid (show ∀ d : Nat, d < c + 1 → edgeAt T (d : Nat) ≠ (p, b) from fun d hd => by
          by_cases e : d = c
          · subst e; rw [HED.out]; exact HX.out
          · exact HNO.out d (by omega))
        have HBF := Lib.hid (below_more HB.out hbc HB.out.size)
        clear hbc
        go_wp2
        go_roundw
        case rel => exact ⟨c + 1, by omega, by go_num, HNO2.out, HBF.out⟩
        case measure => simp [intOf]; omega
  · have d0 : (p == a) = false := by simpa using h1
    have HX := Lib.hid (show (p, q) ≠ (a, b) from fun e => h1 (by simp only [Prod.mk.injEq] at e; exact e.1))
    clear h1
    go_cut [29] (fun s wc => s = .bool false ∧ Below X.heap.size X wc)
    case first =>
      first
      | go_region_law (first
        | (go_simp; go_at_call 55; (with_reducible refine (HN.out _).mono ?_); rintro e wN ⟨rfl, rfl⟩)
        | (go_simp; go_at_call 62; (with_reducible refine (HV1.out _ (by repeat (first | with_reducible exact Below.refl _ _ | with_reducible apply bel_drew))).mono ?_); rintro e wV ⟨rfl, hV1⟩; have hbV1 := below_more (show Below X.heap.size X _ from by repeat (first | with_reducible exact Below.refl _ _ | with_reducible apply bel_drew)) hV1 (Nat.le_refl _)))
      | fail
      all_goals
        go_wp2
        go_meet
        exact ⟨by simp, hbV1⟩
    case rest =>
      obtain ⟨rfl, hbc⟩ := hcut
      have HNO2 := Lib.hid (show ∀ d : Nat, d < c + 1 → edgeAt T (d : Nat) ≠ (a, b) from fun d hd => by
        by_cases e : d = c
        · subst e; rw [HED.out]; exact HX.out
        · exact HNO.out d (by omega))
      have HBF := Lib.hid (below_more HB.out hbc HB.out.size)
      clear hbc
      go_wp2
      go_roundw
      case rel => exact ⟨c + 1, by omega, by go_num, HNO2.out, HBF.out⟩
      case measure => simp [intOf]; omega
theorem Surf.face_is {N : Int} {T : List Tr} (hs : Surf N T) {a b r : Int} (h : FacePost T a b r) : r = facing T (a, b) := by
  rcases h with ⟨c, rfl, hc, he⟩ | ⟨rfl, hno⟩
  · obtain ⟨d, hd, hdl, hde⟩ := facing_some (facing_of hc he)
    rw [hd]
    have := hs.edge_c hc hdl (he.trans hde.symm)
    omega
  · rcases facing_lt T (a, b) with h | h
    · by_cases h0 : 0 ≤ facing T (a, b)
      · obtain ⟨d, hd, hdl, hde⟩ := facing_some h0
        exact absurd hde (hno d hdl)
      · unfold facing at h h0 ⊢
        unfold faceFrom at h h0 ⊢
        cases hh : (List.range' 0 (3 * T.length - 0)).find? fun c : Nat => edgeAt T c == (a, b) with
        | none => rfl
        | some v => rw [hh] at h0; simp at h0
    · exact h.symm
set_option maxRecDepth 100000 in
set_option maxHeartbeats 2000000 in
theorem opp15 (N : Int) (ao : Option Addr) (cap : Nat) (T : List Tr) (c : Nat) (w : World) (hT : TrisAt w ao T) (hs : Surf N T) (hc : c < 3 * T.length) :
    Calls Tryz.prog 52 #[.agg #[.int .i64 N, .slice ao T.length cap], .int .i64 (c : Int)] w fun e w' => e = .returned (.int .i64 (opp T (c : Nat))) ∧ Below w.heap.size w w' := by
  have hl : T.length ≤ 10000 := by have := hs.t1; omega
  obtain ⟨W0, hW0⟩ : ∃ W0, W0 = w.alloc (.cells #[.int .i64 N, .slice ao T.length cap] 24) := ⟨_, rfl⟩
  have hb0 : Below w.heap.size w W0 := by rw [hW0]; exact (Below.refl _ _).alloc (Nat.le_refl _) _
  have hr0 : RowIs W0 w.heap.size 24 [.int .i64 N, .slice ao T.length cap] := by rw [hW0]; exact RowIs.made w 24 [.int .i64 N, .slice ao T.length cap]
  have hT0 := hT.mono (Nat.le_refl _) hb0
  obtain ⟨p, hp⟩ : ∃ p, p = vt T (nxn c : Nat) := ⟨_, rfl⟩
  obtain ⟨q, hq⟩ : ∃ q, q = vt T (pvn c : Nat) := ⟨_, rfl⟩
  obtain ⟨r, hr⟩ : ∃ r, r = opp T (c : Nat) := ⟨_, rfl⟩
  obtain ⟨nc, hnc⟩ : ∃ x, x = nxn c := ⟨_, rfl⟩
  obtain ⟨pc, hpc⟩ : ∃ x, x = pvn c := ⟨_, rfl⟩
  have HN := Lib.hid (show ∀ w', Calls Tryz.prog 55 #[.int .i64 (c : Int)] w' fun e w'' => e = .returned (.int .i64 (nc : Int)) ∧ w' = w'' from fun w' => by rw [hnc]; exact next15 c w' (by omega))
  have HP := Lib.hid (show ∀ w', Calls Tryz.prog 56 #[.int .i64 (c : Int)] w' fun e w'' => e = .returned (.int .i64 (pc : Int)) ∧ w' = w'' from fun w' => by rw [hpc]; exact prev15 c w' (by omega))
  have HV1 := Lib.hid (show ∀ w', Hid (Below W0.heap.size W0 w') → Calls Tryz.prog 62 #[.agg #[.int .i64 N, .slice ao T.length cap], .int .i64 (nc : Int)] w' fun e w'' => e = .returned (.int .i64 p) ∧ Hid (Below W0.heap.size W0 w'') from fun w' h => by
    rw [hp, hnc]
    exact (v15 N ao cap T (nxn c) w' (hT0.mono (Nat.le_refl _) h.out) hl (nxn_lt hc)).mono fun e w'' h2 => ⟨h2.1, below_more h.out h2.2 h.out.size⟩)
  have HV2 := Lib.hid (show ∀ w', Hid (Below W0.heap.size W0 w') → Calls Tryz.prog 62 #[.agg #[.int .i64 N, .slice ao T.length cap], .int .i64 (pc : Int)] w' fun e w'' => e = .returned (.int .i64 q) ∧ Hid (Below W0.heap.size W0 w'') from fun w' h => by
    rw [hq, hpc]
    exact (v15 N ao cap T (pvn c) w' (hT0.mono (Nat.le_refl _) h.out) hl (pvn_lt hc)).mono fun e w'' h2 => ⟨h2.1, below_more h.out h2.2 h.out.size⟩)
  have HFC := Lib.hid (show ∀ w', Hid (Below W0.heap.size W0 w') → Calls Tryz.prog 86 #[.agg #[.int .i64 N, .slice ao T.length cap], .int .i64 q, .int .i64 p] w' fun e w'' => e = .returned (.int .i64 r) ∧ Hid (Below W0.heap.size W0 w'') from fun w' h =>
    (facing15 N ao cap T q p w' (hT0.mono (Nat.le_refl _) h.out) hl).mono fun e w'' ⟨r', he, hf, h2⟩ => ⟨by rw [he, hs.face_is hf, hr, opp_nat, hp, hq], below_more h.out h2 h.out.size⟩)
  have HK := Lib.hid (show ∀ w', Hid (Below W0.heap.size W0 w') → w'.cell? ⟨w.heap.size, 0, none⟩ = some (.int .i64 N) ∧ w'.cell? ⟨w.heap.size, 1, none⟩ = some (.slice ao T.length cap) from fun w' h => ⟨(hr0.after h.out).cell (i := 0) rfl, (hr0.after h.out).cell (i := 1) rfl⟩)
  have HD0 := Lib.hid (show Below W0.heap.size W0 W0.drew from ⟨rfl, rfl, rfl, Nat.le_refl _, fun _ _ => rfl⟩)
  have HB0 := Lib.hid hb0
  have HW0 := Lib.hid hW0
  obtain ⟨len, hlen⟩ : ∃ n, n = T.length := ⟨_, rfl⟩
  rw [← hlen] at HV1 HV2 HFC HK HW0 hl ⊢
  rw [← hr]
  obtain ⟨xb, hxb⟩ : ∃ x, x = w.heap.size := ⟨_, rfl⟩
  rw [← hxb] at HK
  have HXB := Lib.hid hxb
  have hc3 : (c : Int) ≤ 30000 := by omega
  clear hT hb0 hr0 hT0 hW0 hp hq hr hnc hpc hlen hs hc hxb
  go_enter Tryz.func52, Tryz.ntmps52
  go_upto_region 1 with fail
  rw [← HW0.out, ← HXB.out]
  go_region_held3 (fun w' => w'.cell? ⟨xb, 0, none⟩ = some (.int .i64 N) ∧ w'.cell? ⟨xb, 1, none⟩ = some (.slice ao len cap))
    (exact HK.out _ (by assumption))
    (first
      | (go_at_call 55; (with_reducible refine (HN.out _).mono ?_); rintro e wN ⟨rfl, rfl⟩)
      | (go_at_call 56; (with_reducible refine (HP.out _).mono ?_); rintro e wP ⟨rfl, rfl⟩)
      | (go_at_call 62; (with_reducible refine (HV1.out _ (by assumption)).mono ?_); rintro e wV ⟨rfl, hV1⟩)
      | (go_at_call 62; (with_reducible refine (HV2.out _ (by assumption)).mono ?_); rintro e wV ⟨rfl, hV2⟩)
      | (go_at_call 86; (with_reducible refine (HFC.out _ (by assumption)).mono ?_); rintro e wV ⟨rfl, hV3⟩))
  all_goals
    go_wp2
    go_ret
    exact ⟨rfl, below_more HB0.out hV3.out HB0.out.size⟩
end Go.Proofs.YtfbpjlfimmjieaaGreat

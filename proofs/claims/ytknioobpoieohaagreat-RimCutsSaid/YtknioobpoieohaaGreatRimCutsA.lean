/- What rim.Cut says of any body, bays and bay; the document's answer is the same one. gypsumlaw40.RimCuts: the walk. -/
import Derived.Test.YtknioobpoieohaaGreatRowLaw40
import Derived.Test.YtknioobpoieohaaGreatOfAny
import Derived.Test.YtknioobpoieohaaGreatCutW
import Derived.Test.YtknioobpoieohaaGreatRefCut40
import Derived.Test.YtknioobpoieohaaGreatAwake40
import Derived.Test.YtknioobpoieohaaGreatTriEq40
namespace Go.Proofs.YtknioobpoieohaaGreat
set_option linter.unusedVariables false
set_option linter.unusedSimpArgs false
open Go.RowKit
theorem flatMap_same {α β : Type} {l : List α} {f g : α → List β} (h : ∀ x ∈ l, f x = g x) : l.flatMap f = l.flatMap g := by
  induction l with
  | nil => rfl
  | cons a l ih => rw [List.flatMap_cons, List.flatMap_cons, h a (by simp), ih fun x hx => h x (by simp [hx])]
theorem cut_same {n : Nat} {T : List Tr} {bays : List Int} {bay : Int} {L L' : Nat → Int} {F F' : List Nat} (hs : Surf n T) (hc : CutIs T bays bay L F) (hl : IsLeast (SAdj T (I! bays)) (3 * T.length) L') (hF : F' = rowL T bays bay L' n) :
    F' = F ∧ cutT bays bay L' F' T.length = cutT bays bay L F T.length := by
  have hA : ∀ i j, SAdj T (I! bays) i j → i < 3 * T.length ∧ j < 3 * T.length := fun i j h => ⟨h.1, h.2.1⟩
  have hu : ∀ i, i < 3 * T.length → L' i = L i := hl.unique hc.least hA
  have e1 : F' = F := by
    rw [hF, hc.row hs]
    unfold rowL
    refine flatMap_same fun v _ => ?_
    unfold repV
    refine List.filter_congr fun c hcm => ?_
    unfold isRep
    rw [hu c (List.mem_range.1 hcm)]
  refine ⟨e1, ?_⟩
  rw [e1]
  unfold cutT
  refine List.map_congr_left fun i hi => ?_
  have hit : i < T.length := by
    unfold sel at hi
    exact List.mem_range.1 (List.mem_filter.1 hi).1
  unfold cutTri
  rw [hu (3 * i) (by omega), hu (3 * i + 1) (by omega), hu (3 * i + 2) (by omega)]
theorem cutT_pos {bays : List Int} {bay : Int} {n : Nat} (L : Nat → Int) (F : List Nat) (hl : bays.length = n) : 0 < (cutT bays bay L F n).length ↔ bay ∈ bays := by
  unfold cutT
  rw [List.length_map, List.length_pos_iff_exists_mem]
  constructor
  · rintro ⟨i, hi⟩
    unfold sel at hi
    obtain ⟨h1, h2⟩ := List.mem_filter.1 hi
    have h3 : I! bays i = bay := by simpa using h2
    have h4 : i < bays.length := by rw [hl]; exact List.mem_range.1 h1
    rw [← h3]
    unfold I!
    rw [List.getD_eq_getElem?_getD, List.getElem?_eq_getElem h4]
    exact List.getElem_mem h4
  · intro h
    obtain ⟨i, hi, e⟩ := List.mem_iff_getElem.1 h
    refine ⟨i, ?_⟩
    unfold sel
    refine List.mem_filter.2 ⟨List.mem_range.2 (by rw [← hl]; exact hi), ?_⟩
    simp only [decide_eq_true_eq]
    unfold I!
    rw [List.getD_eq_getElem?_getD, List.getElem?_eq_getElem hi]
    exact e
/-- Why rim.Cut tells no bay: r. -/
def CutNo (N : Int) (T : List Tr) (pl kl : Nat) (bays : List Int) (bay r : Int) : Prop :=
  (r = 11 ∧ ¬ Surf N T) ∨ (r = 1 ∧ Surf N T ∧ ((pl : Int) ≠ N ∨ (kl ≠ 0 ∧ kl ≠ 3 * T.length) ∨ ¬ BaysOK T.length bays)) ∨ (r = 8 ∧ Surf N T ∧ (pl : Int) = N ∧ (kl = 0 ∨ kl = 3 * T.length) ∧ BaysOK T.length bays ∧ bay ∉ bays)
/-- What is asked of the body, the bays. -/
def CutOK (N : Int) (T : List Tr) (pl kl : Nat) (bays : List Int) : Prop := Surf N T ∧ (pl : Int) = N ∧ (kl = 0 ∨ kl = 3 * T.length) ∧ BaysOK T.length bays
theorem cut_says (N : Int) (ao po ko bo : Option Addr) (cap pc kc bcap : Nat) (T P : List Tr) (K bays : List Int) (bay : Int) (w : World) (hT : TrisAt w ao T) (hP : TrisAt w po P) (hK : IntsAt w ko K) (hB : IntsAt w bo bays) (hl : T.length ≤ 1000) (hpl : P.length ≤ 1000) (hkl : K.length ≤ 1000) (hbl : bays.length ≤ 1000) (hKc : K.length ≤ kc) :
    (∃ r : Int, CutNo N T P.length K.length bays bay r ∧ Calls Tryz.prog 10 #[.agg #[.int .i64 N, .slice ao T.length cap, .slice po P.length pc, .slice ko K.length kc], .slice bo bays.length bcap, .int .i64 bay] w fun e w' => e = .returned (.tuple #[.agg #[.int .i64 0, .slice none 0 0, .slice none 0 0, .slice none 0 0, .slice none 0 0, .slice none 0 0], .int .i64 r]) ∧ Below w.heap.size w w') ∨
    (CutOK N T P.length K.length bays ∧ bay ∈ bays ∧ Calls Tryz.prog 10 #[.agg #[.int .i64 N, .slice ao T.length cap, .slice po P.length pc, .slice ko K.length kc], .slice bo bays.length bcap, .int .i64 bay] w fun e w' => ∃ n : Nat, N = (n : Int) ∧ CutPost n T P K bays bay w e w') := by
  by_cases hs : Surf N T
  case neg =>
    exact .inl ⟨11, .inl ⟨rfl, hs⟩, cut_none N ao po ko bo T.length cap P.length pc K.length kc bays.length bcap bay 11 11 T bays w (by omega) (by omega) (by omega) hT hB (.inl ⟨rfl, rfl⟩) fun X h1 h2 =>
      (notab_surf N ao cap T bo (.slice bo bays.length bcap) bays (by omega) hs X h1 h2).mono fun e w' ⟨h3, h4⟩ => ⟨none, h3, h4⟩⟩
  case pos =>
  by_cases hok : BaysOK T.length bays
  case neg =>
    exact .inl ⟨1, .inr (.inl ⟨rfl, hs, .inr (.inr hok)⟩), cut_none N ao po ko bo T.length cap P.length pc K.length kc bays.length bcap bay 1 1 T bays w (by omega) (by omega) (by omega) hT hB (.inr (.inl ⟨rfl, rfl⟩)) fun X h1 h2 =>
      (notab_bays N ao cap T bo bcap bays (by omega) hs hok X h1 h2).mono fun e w' ⟨h3, h4⟩ => ⟨none, h3, h4⟩⟩
  case pos =>
  by_cases hbad : (P.length : Int) ≠ N ∨ (K.length ≠ 0 ∧ K.length ≠ 3 * T.length)
  case pos =>
    exact .inl ⟨1, .inr (.inl ⟨rfl, hs, hbad.imp id .inl⟩), cut_none N ao po ko bo T.length cap P.length pc K.length kc bays.length bcap bay 0 1 T bays w (by omega) (by omega) (by omega) hT hB (.inr (.inr ⟨rfl, rfl, hbad⟩)) fun X h1 h2 =>
      (table_ok N ao cap T bo bcap bays X h1 h2 hs (by omega)).mono fun e w' ⟨h3, h4⟩ => by
        obtain ⟨-, p, h5, -⟩ := h3.resolve_right fun h => h.1 hok
        exact ⟨_, h5, h4⟩⟩
  case neg =>
  obtain ⟨n, rfl⟩ := Int.eq_ofNat_of_zero_le hs.n0
  have hp : P.length = n := by omega
  have hk : K.length = 0 ∨ K.length = 3 * T.length := by omega
  have HC := cut_ok n ao cap T po pc P ko kc K bo bcap bays bay w hT hP hK hB hs hok hp hk hKc
  by_cases hin : bay ∈ bays
  · exact .inr ⟨⟨hs, by omega, hk, hok⟩, hin, HC.mono fun e w' h => ⟨n, rfl, h⟩⟩
  · refine .inl ⟨8, .inr (.inr ⟨rfl, hs, by omega, hk, hok, hin⟩), HC.mono fun e w' h => ?_⟩
    obtain ⟨h1, h2⟩ := h
    rcases h1 with ⟨-, h1⟩ | ⟨h1, -⟩
    · exact ⟨h1, h2⟩
    · exact absurd h1 hin
set_option maxRecDepth 100000 in
set_option maxHeartbeats 4000000 in
theorem rimcuts_any (N : Int) (ao po ko : Option Addr) (cap pc kc : Nat) (T P : List Tr) (K : List Int) (bo : Option Addr) (bcap : Nat) (bays : List Int) (bay : Int) (w : World) (hT : TrisAt w ao T) (hTl : T.length ≤ 9223372036854775807) (hP : TrisAt w po P) (hPl : P.length ≤ 9223372036854775807) (hK : IntsAt w ko K) (hKl : K.length ≤ 9223372036854775807) (hKc : K.length ≤ kc) (hB : IntsAt w bo bays) (hBl : bays.length ≤ 9223372036854775807) (_hBc : bays.length ≤ bcap) :
    Calls Tryz.prog 3 #[.agg #[.int .i64 N, .slice ao T.length cap, .slice po P.length pc, .slice ko K.length kc], .slice bo bays.length bcap, .int .i64 bay] w fun e w' => e = .returned (.bool true) ∧ Below w.heap.size w w' := by
  obtain ⟨W0, hW0⟩ : ∃ W0, W0 = w.alloc (.cells #[.int .i64 N, .slice ao T.length cap, .slice po P.length pc, .slice ko K.length kc] 28) := ⟨_, rfl⟩
  have hb0 : Below w.heap.size w W0 := by rw [hW0]; exact (Below.refl _ _).alloc (Nat.le_refl _) _
  have hr0 : RowIs W0 w.heap.size 28 [.int .i64 N, .slice ao T.length cap, .slice po P.length pc, .slice ko K.length kc] := by rw [hW0]; exact RowIs.made w 28 [.int .i64 N, .slice ao T.length cap, .slice po P.length pc, .slice ko K.length kc]
  have HG := Lib.hid (fun X : World => great40 N ao T.length cap bo bays.length bcap X)
  have HLOW := Lib.hid (show ∀ X, Below W0.heap.size W0 X → RowIs X w.heap.size 28 [.int .i64 N, .slice ao T.length cap, .slice po P.length pc, .slice ko K.length kc] ∧ TrisAt X ao T ∧ TrisAt X po P ∧ IntsAt X ko K ∧ IntsAt X bo bays ∧ Below w.heap.size w X from fun X hX => by
    have h1 : Below w.heap.size w X := below_more hb0 hX hb0.size
    exact ⟨hr0.after hX, hT.mono (Nat.le_refl _) h1, hP.mono (Nat.le_refl _) h1, hK.mono (Nat.le_refl _) h1, hB.mono (Nat.le_refl _) h1, h1⟩)
  have HCS := Lib.hid (fun (X : World) (h1 : TrisAt X ao T) (h2 : TrisAt X po P) (h3 : IntsAt X ko K) (h4 : IntsAt X bo bays) (g1 : T.length ≤ 1000) (g2 : P.length ≤ 1000) (g3 : K.length ≤ 1000) (g4 : bays.length ≤ 1000) => cut_says N ao po ko bo cap pc kc bcap T P K bays bay X h1 h2 h3 h4 g1 g2 g3 g4 hKc)
  have HIS := Lib.hid (fun (X : World) (h : TrisAt X ao T) (hl : T.length ≤ 10000) => is15 N ao cap T X h hl)
  have HRI := Lib.hid (fun (X : World) (h : IntsAt X bo bays) (hl : bays.length ≤ 100000) => right40r T.length bo bcap bays X h hl)
  have HBR := Lib.hid (fun (X : World) (hl : T.length ≤ 100000) => body_ref N ao po ko T.length P.length K.length cap pc kc X hl)
  have HRC := Lib.hid (fun (n : Nat) (X : World) (hN : N = (n : Int)) (h1 : TrisAt X ao T) (h2 : TrisAt X po P) (h3 : IntsAt X ko K) (h4 : IntsAt X bo bays) (hs : Surf n T) (hok : BaysOK T.length bays) (hp : P.length = n) (hk : K.length = 0 ∨ K.length = 3 * T.length) (hl : T.length ≤ 1000) (hn : n ≤ 10000) => refcut40 n ao cap T po pc P ko kc K bo bcap bays bay X h1 h2 h3 h4 hs hok hp hk hl hn)
  obtain ⟨len, hlen⟩ : ∃ l, l = T.length := ⟨_, rfl⟩
  obtain ⟨pl, hpl⟩ : ∃ l, l = P.length := ⟨_, rfl⟩
  obtain ⟨kl, hkl⟩ : ∃ l, l = K.length := ⟨_, rfl⟩
  obtain ⟨bl, hbl⟩ : ∃ l, l = bays.length := ⟨_, rfl⟩
  obtain ⟨xb, hxb⟩ : ∃ x, x = w.heap.size := ⟨_, rfl⟩
  simp only [← hlen, ← hpl, ← hkl, ← hbl] at HG HCS HIS HRI HBR HRC hTl hPl hKl hBl
  simp only [← hlen, ← hpl, ← hkl, ← hbl, ← hxb] at HLOW hW0
  rw [← hlen, ← hpl, ← hkl, ← hbl]
  have HL := Lib.hid hlen
  have HPL := Lib.hid hpl
  have HKL := Lib.hid hkl
  have HBL := Lib.hid hbl
  have HXB := Lib.hid hxb
  have HW0 := Lib.hid hW0
  have HB0 := Lib.hid hb0
  clear hT hP hK hB hKc _hBc hb0 hr0 hW0 hlen hpl hkl hbl hxb
  go_enter Tryz.func3, Tryz.ntmps3
  go_upto_region 1 with fail
  try simp only [← HXB.out]
  rw [← HW0.out]
  go_wp2_with fail
  refine (awake40 _).mono ?_
  rintro e w1 ⟨rfl, hb1⟩
  have HX1 := Lib.hid hb1
  obtain ⟨h0, -, -, -, -, -⟩ := HLOW.out w1 hb1
  have c0 := h0.cell (i := 0) rfl
  have c1 := h0.cell (i := 1) rfl
  clear h0 hb1
  go_wp2_with fail
  refine (HG.out _).mono ?_
  rintro e w2 ⟨rfl, hb2⟩
  have hb02 := below_more HX1.out hb2 HX1.out.size
  have HX2 := Lib.hid hb02
  obtain ⟨h0, -, -, -, -, hbw⟩ := HLOW.out w2 hb02
  have HBW := Lib.hid hbw
  clear c0 c1 hb2
  have c0 := h0.cell (i := 0) rfl
  have c1 := h0.cell (i := 1) rfl
  have c2 := h0.cell (i := 2) rfl
  have c3 := h0.cell (i := 3) rfl
  clear h0 hb02 hbw
  cases hg : grB N len bl
  case true =>
    clear hg
    go_wp2
    exact bodyPost_ret (v := .bool true) (by simp [results, Tryz.results3, go_sem]) rfl ⟨rfl, by rw [← HXB.out]; exact HBW.out⟩
  case false =>
  by_cases hp100 : 100 < pl
  case pos =>
    have d1 : decide ((pl : Int) > 100) = true := by simp; omega
    have d2 : decide ((100 : Int) < (pl : Int)) = true := by simp; omega
    have d3 : decide (100 < pl) = true := by simp; omega
    clear hg hp100
    go_wp2
    exact bodyPost_ret (v := .bool true) (by simp [results, Tryz.results3, go_sem]) rfl ⟨rfl, by rw [← HXB.out]; exact HBW.out⟩
  case neg =>
  have d1 : decide ((pl : Int) > 100) = false := by simp; omega
  have d2 : decide ((100 : Int) < (pl : Int)) = false := by simp; omega
  have d3 : decide (100 < pl) = false := by simp; omega
  by_cases hk100 : 100 < kl
  case pos =>
    have d4 : decide ((kl : Int) > 100) = true := by simp; omega
    have d5 : decide ((100 : Int) < (kl : Int)) = true := by simp; omega
    have d6 : decide (100 < kl) = true := by simp; omega
    clear hg hp100 hk100
    go_wp2
    exact bodyPost_ret (v := .bool true) (by simp [results, Tryz.results3, go_sem]) rfl ⟨rfl, by rw [← HXB.out]; exact HBW.out⟩
  case neg =>
  have d4 : decide ((kl : Int) > 100) = false := by simp; omega
  have d5 : decide ((100 : Int) < (kl : Int)) = false := by simp; omega
  have d6 : decide (100 < kl) = false := by simp; omega
  have hlen30 : len ≤ 30 := by unfold grB at hg; simp at hg; omega
  have hN100 : N ≤ 100 := by unfold grB at hg; simp at hg; omega
  have hbl60 : bl ≤ 60 := by unfold grB at hg; simp at hg; omega
  have hl1 : len ≤ 1000 := by omega
  have hl2 : pl ≤ 1000 := by omega
  have hl3 : kl ≤ 1000 := by omega
  have hl4 : bl ≤ 1000 := by omega
  clear hg hp100 hk100
  obtain ⟨h0, h1, h2, h3, h4, -⟩ := HLOW.out w2 HX2.out
  have hsays := HCS.out w2 h1 h2 h3 h4 hl1 hl2 hl3 hl4
  clear h0 h1 h2 h3 h4
  rcases hsays with ⟨r, hno, hcall⟩ | ⟨hcok, hin, hcall⟩
  · have HNO := Lib.hid hno
    have HCALL := Lib.hid hcall
    have hr0 : (r == 0) = false := by
      rcases hno with ⟨h, -⟩ | ⟨h, -⟩ | ⟨h, -⟩ <;> rw [h] <;> rfl
    have hr1 : (r != 0) = true := by simp [bne, hr0]
    clear hno hcall
    go_wp2_with fail
    refine HCALL.out.mono ?_
    rintro e w3 ⟨rfl, hb3⟩
    clear d1 d2 d3 d4 d5 d6 c0 c1 c2 c3
    go_upto_region 6 with fail
    obtain ⟨W4, hW4⟩ : ∃ W4, W4 = w3.alloc (.cells #[.int .i64 0, .slice none 0 0, .slice none 0 0, .slice none 0 0, .slice none 0 0, .slice none 0 0] 32) := ⟨_, rfl⟩
    have hb4 : Below w3.heap.size w3 W4 := by rw [hW4]; exact (Below.refl _ _).alloc (Nat.le_refl _) _
    have hrl : RowIs W4 w3.heap.size 32 [.int .i64 0, .slice none 0 0, .slice none 0 0, .slice none 0 0, .slice none 0 0, .slice none 0 0] := by rw [hW4]; exact RowIs.made w3 32 [.int .i64 0, .slice none 0 0, .slice none 0 0, .slice none 0 0, .slice none 0 0, .slice none 0 0]
    have HX4 := Lib.hid (below_more HX2.out (below_more hb3 hb4 hb3.size) HX2.out.size)
    rw [← hW4]
    have l0 := hrl.cell (i := 0) rfl
    have l1 := hrl.cell (i := 1) rfl
    have l2 := hrl.cell (i := 2) rfl
    have l3 := hrl.cell (i := 3) rfl
    have l4 := hrl.cell (i := 4) rfl
    have l5 := hrl.cell (i := 5) rfl
    have HPLN := Lib.hid (plain_local 0 none none none none none 0 0 0 0 0 0 0 0 0 0 W4)
    have HSAM := Lib.hid (fun X : World => same_local 0 none none none none none none none none none none 0 0 0 0 0 0 0 0 0 0 [] [] [] [] [] X (by simp) (by simp) (by simp) (by simp) (by simp) (fun h => absurd rfl h) (fun h => absurd rfl h) (fun h => absurd rfl h) (fun h => absurd rfl h) (fun h => absurd rfl h) (fun h => absurd rfl h) (fun h => absurd rfl h) (fun h => absurd rfl h) (fun h => absurd rfl h) (fun h => absurd rfl h))
    clear hW4 hb4 hrl hb3 HX2 HBW HCALL
    go_wp2_with fail
    refine HPLN.out.mono ?_
    rintro e w5 ⟨rfl, hb5⟩
    have HX5 := Lib.hid (below_more HX4.out hb5 HX4.out.size)
    clear hb5 l0 l1 l2 l3 l4 l5 HX4
    go_wp2_with fail
    refine (HSAM.out _).mono ?_
    rintro e w6 ⟨rfl, hb6⟩
    have HX6 := Lib.hid (below_more HX5.out hb6 HX5.out.size)
    clear hb6 HX5
    obtain ⟨h0, h1, h2, h3, h4, hbw⟩ := HLOW.out w6 HX6.out
    have c0 := h0.cell (i := 0) rfl
    have c1 := h0.cell (i := 1) rfl
    have c2 := h0.cell (i := 2) rfl
    have c3 := h0.cell (i := 3) rfl
    have HBW6 := Lib.hid hbw
    clear h0 h2 h3 h4 hbw
    go_wp2_with fail
    refine (HIS.out w6 h1 (by omega)).mono ?_
    rintro e w7 ⟨q, rfl, hq, hb7⟩
    have HX7 := Lib.hid (below_more HX6.out hb7 HX6.out.size)
    clear h1 hb7 c0 c1 c2 c3
    obtain ⟨h0, h1, h2, h3, h4, hbw⟩ := HLOW.out w7 HX7.out
    have c0 := h0.cell (i := 0) rfl
    have c1 := h0.cell (i := 1) rfl
    have c2 := h0.cell (i := 2) rfl
    have c3 := h0.cell (i := 3) rfl
    have HBW7 := Lib.hid hbw
    clear h0 h1 h2 h3 hbw
    cases q
    case false =>
      have hns : ¬ Surf N T := fun h => by have := hq.2 h; cases this
      obtain rfl : r = 11 := by
        rcases HNO.out with ⟨h, -⟩ | ⟨-, h, -⟩ | ⟨-, h, -⟩
        · exact h
        · exact absurd h hns
        · exact absurd h hns
      clear hq hns h4
      go_wp2
      exact bodyPost_ret (v := .bool true) (by simp [results, Tryz.results3, go_sem]) rfl ⟨rfl, by rw [← HXB.out]; exact HBW7.out⟩
    case true =>
    have HSF := Lib.hid (hq.1 rfl)
    clear hq
    go_wp2_with fail
    refine (HBR.out w7 (by omega)).mono ?_
    rintro e w8 ⟨rfl, hb8⟩
    have HX8 := Lib.hid (below_more HX7.out hb8 HX7.out.size)
    clear hb8 c0 c1 c2 c3 h4
    obtain ⟨h0, h1, h2, h3, h4, hbw⟩ := HLOW.out w8 HX8.out
    have c0 := h0.cell (i := 0) rfl
    have c1 := h0.cell (i := 1) rfl
    have c2 := h0.cell (i := 2) rfl
    have c3 := h0.cell (i := 3) rfl
    have HBW8 := Lib.hid hbw
    clear h0 h1 h2 h3 hbw
    cases hbd : (((pl : Int) == N) && (((kl : Int) == 0) || ((kl : Int) == 3 * (len : Int))))
    case false =>
      obtain rfl : r = 1 := by
        rcases HNO.out with ⟨-, h⟩ | ⟨h, -⟩ | ⟨-, -, h1, h2, -⟩
        · exact absurd HSF.out h
        · exact h
        · have := HL.out
          simp at hbd
          omega
      clear hbd h4
      go_wp2
      exact bodyPost_ret (v := .bool true) (by simp [results, Tryz.results3, go_sem]) rfl ⟨rfl, by rw [← HXB.out]; exact HBW8.out⟩
    case true =>
    have hbody : (pl : Int) = N ∧ (kl = 0 ∨ kl = 3 * T.length) := by
      have := HL.out
      simp at hbd
      omega
    have HBODY := Lib.hid hbody
    clear hbd hbody
    go_wp2_with fail
    refine (HRI.out w8 h4 (by omega)).mono ?_
    rintro e w9 ⟨q, rfl, hq, hb9⟩
    have HX9 := Lib.hid (below_more HX8.out hb9 HX8.out.size)
    clear hb9 c0 c1 c2 c3 h4
    obtain ⟨h0, h1, h2, h3, h4, hbw⟩ := HLOW.out w9 HX9.out
    have c0 := h0.cell (i := 0) rfl
    have c1 := h0.cell (i := 1) rfl
    have c2 := h0.cell (i := 2) rfl
    have c3 := h0.cell (i := 3) rfl
    have HBW9 := Lib.hid hbw
    clear h0 hbw
    cases q
    case false =>
      have hnb : ¬ BaysOK len bays := fun h => by have := hq.2 h; cases this
      obtain rfl : r = 1 := by
        rcases HNO.out with ⟨-, h⟩ | ⟨h, -⟩ | ⟨-, -, -, -, h, -⟩
        · exact absurd HSF.out h
        · exact h
        · exact absurd h (by rw [← HL.out]; exact hnb)
      clear hq hnb h1 h2 h3 h4
      go_wp2
      exact bodyPost_ret (v := .bool true) (by simp [results, Tryz.results3, go_sem]) rfl ⟨rfl, by rw [← HXB.out]; exact HBW9.out⟩
    case true =>
    have hok : BaysOK T.length bays := by rw [← HL.out]; exact hq.1 rfl
    obtain ⟨rfl, hnin⟩ : r = 8 ∧ bay ∉ bays := by
      rcases HNO.out with ⟨-, h⟩ | ⟨-, -, h⟩ | ⟨h, -, -, -, -, h2⟩
      · exact absurd HSF.out h
      · have h1 := HBODY.out.1
        have h2 := HBODY.out.2
        rcases h with h | h | h
        · exact absurd h1 h
        · omega
        · exact absurd hok h
      · exact ⟨h, h2⟩
    obtain ⟨n, hn⟩ := Int.eq_ofNat_of_zero_le HSF.out.n0
    subst hn
    have HRCC := Lib.hid (HRC.out n w9 rfl h1 h2 h3 h4 HSF.out (by rw [HL.out]; exact hok) (by have := HBODY.out.1; omega) (by have := HBODY.out.2; rw [← HL.out] at this; exact this) hl1 (by omega))
    have HNIN := Lib.hid hnin
    have HOK := Lib.hid hok
    clear hq hok hnin h1 h2 h3 h4
    go_wp2_with fail
    refine HRCC.out.mono ?_
    rintro e wA ⟨L, F, a1, a2, a3, a4, a5, e1, e2, e3, e4, e5, hle, hF, rfl, -, -, -, -, -, hbA⟩
    have hzero : ¬ 0 < (cutT bays bay L F T.length).length := fun h => HNIN.out ((cutT_pos L F HOK.out.1).1 h)
    have hdz : decide (0 < (cutT bays bay L F T.length).length) = false := by simpa using hzero
    rw [hdz]
    have HBWA := Lib.hid (HLOW.out wA (below_more HX9.out hbA HX9.out.size)).2.2.2.2.2
    clear hzero hdz hle hF hbA c0 c1 c2 c3
    go_wp2
    exact bodyPost_ret (v := .bool true) (by simp [results, Tryz.results3, go_sem]) rfl ⟨rfl, by rw [← HXB.out]; exact HBWA.out.alloc (by rw [HXB.out]; exact HBWA.out.size) _⟩
  · obtain ⟨hsf, hpN, hkl3, hok⟩ := hcok
    obtain ⟨n, hn⟩ := Int.eq_ofNat_of_zero_le hsf.n0
    subst hn
    have HSF := Lib.hid hsf
    have HPN := Lib.hid hpN
    have HK3 := Lib.hid hkl3
    have HOK := Lib.hid hok
    have HIN := Lib.hid hin
    have HCALL := Lib.hid hcall
    clear hsf hpN hkl3 hok hin hcall
    go_wp2_with fail
    refine HCALL.out.mono ?_
    rintro e w3 ⟨n', hn', hcase, hb3⟩
    obtain rfl : n = n' := by omega
    obtain ⟨-, L, F, a1, a2, a3, a4, a5, c1, c2, c3, c4, c5, l1, l2, l3, l4, l5, hci, rfl, -, e1, g1, e2, g2, e3, g3, e4, g4, e5, g5⟩ := hcase.resolve_left (fun h => h.1 HIN.out)
    obtain ⟨m, hm⟩ : ∃ m, m = F.length := ⟨_, rfl⟩
    rw [← hm]
    have HM := Lib.hid hm
    have HCI := Lib.hid hci
    have HE := Lib.hid (show l1 = (cutT bays bay L F T.length).length ∧ l2 = (cutP P T F).length ∧ l3 = (cutK K bays bay T.length).length ∧ l4 = (cutV T F).length ∧ l5 = (cutR T bays n F).length from ⟨e1, e2, e3, e4, e5⟩)
    have HG1 := Lib.hid g1
    have HG2 := Lib.hid g2
    have HG3 := Lib.hid g3
    have HG4 := Lib.hid g4
    have HG5 := Lib.hid g5
    clear d1 d2 d3 d4 d5 d6 hcase hn' hm hci e1 e2 e3 e4 e5 g1 g2 g3 g4 g5
    go_upto_region 6 with fail
    obtain ⟨xl, hxl⟩ : ∃ x, x = w3.heap.size := ⟨_, rfl⟩
    obtain ⟨W4, hW4⟩ : ∃ W4, W4 = w3.alloc (.cells #[.int .i64 (m : Int), .slice a1 l1 c1, .slice a2 l2 c2, .slice a3 l3 c3, .slice a4 l4 c4, .slice a5 l5 c5] 32) := ⟨_, rfl⟩
    have hb4 : Below w3.heap.size w3 W4 := by rw [hW4]; exact (Below.refl _ _).alloc (Nat.le_refl _) _
    have HRL := Lib.hid (show RowIs W4 xl 32 [.int .i64 (m : Int), .slice a1 l1 c1, .slice a2 l2 c2, .slice a3 l3 c3, .slice a4 l4 c4, .slice a5 l5 c5] from by rw [hW4, hxl]; exact RowIs.made w3 32 [.int .i64 (m : Int), .slice a1 l1 c1, .slice a2 l2 c2, .slice a3 l3 c3, .slice a4 l4 c4, .slice a5 l5 c5])
    have HX4 := Lib.hid (below_more HX2.out (below_more hb3 hb4 hb3.size) HX2.out.size)
    have HA := Lib.hid (show ∀ X, Below W4.heap.size W4 X → TrisAt X a1 (cutT bays bay L F T.length) ∧ TrisAt X a2 (cutP P T F) ∧ IntsAt X a3 (cutK K bays bay T.length) ∧ IntsAt X a4 (cutV T F) ∧ IntsAt X a5 (cutR T bays n F) from fun X hX => by
      have hx := below_more hb4 hX hb4.size
      exact ⟨HG1.out.mono (Nat.le_refl _) hx, HG2.out.mono (Nat.le_refl _) hx, HG3.out.mono (Nat.le_refl _) hx, HG4.out.mono (Nat.le_refl _) hx, HG5.out.mono (Nat.le_refl _) hx⟩)
    rw [← hW4, ← hxl]
    clear hW4 hxl hb4 hb3 HX2 HBW HCALL HG1 HG2 HG3 HG4 HG5
    obtain ⟨h0, h1, h2, h3, h4, hbw⟩ := HLOW.out W4 HX4.out
    have x0 := h0.cell (i := 0) rfl
    have x1 := h0.cell (i := 1) rfl
    have x2 := h0.cell (i := 2) rfl
    have x3 := h0.cell (i := 3) rfl
    clear h0 h2 h3 h4 hbw
    go_wp2_with fail
    refine (HIS.out W4 h1 (by omega)).mono ?_
    rintro e w7 ⟨q, rfl, hq, hb7⟩
    obtain rfl : q = true := hq.2 HSF.out
    have HB7 := Lib.hid hb7
    have HX7 := Lib.hid (below_more HX4.out hb7 HX4.out.size)
    clear h1 hb7 hq x0 x1 x2 x3
    obtain ⟨h0, h1, h2, h3, h4, hbw⟩ := HLOW.out w7 HX7.out
    have x0 := h0.cell (i := 0) rfl
    have x1 := h0.cell (i := 1) rfl
    have x2 := h0.cell (i := 2) rfl
    have x3 := h0.cell (i := 3) rfl
    have hbd : (((pl : Int) == (n : Int)) && (((kl : Int) == 0) || ((kl : Int) == 3 * (len : Int)))) = true := by
      have h1 := HPN.out
      have h2 := HK3.out
      have := HL.out
      simp
      omega
    have HBD := Lib.hid (HBR.out w7 (by omega))
    rw [hbd] at HBD
    clear h0 h1 h2 h3 h4 hbw hbd
    go_wp2_with fail
    refine HBD.out.mono ?_
    rintro e w8 ⟨rfl, hb8⟩
    have HB8 := Lib.hid (below_more HB7.out hb8 HB7.out.size)
    have HX8 := Lib.hid (below_more HX7.out hb8 HX7.out.size)
    clear hb8 HBD x0 x1 x2 x3
    obtain ⟨h0, h1, h2, h3, h4, hbw⟩ := HLOW.out w8 HX8.out
    have x0 := h0.cell (i := 0) rfl
    have x1 := h0.cell (i := 1) rfl
    have x2 := h0.cell (i := 2) rfl
    have x3 := h0.cell (i := 3) rfl
    clear h0 h1 h2 h3 hbw
    go_wp2_with fail
    refine (HRI.out w8 h4 (by omega)).mono ?_
    rintro e w9 ⟨q, rfl, hq, hb9⟩
    obtain rfl : q = true := hq.2 (by rw [HL.out]; exact HOK.out)
    have HB9 := Lib.hid (below_more HB8.out hb9 HB8.out.size)
    have HX9 := Lib.hid (below_more HX8.out hb9 HX8.out.size)
    clear hb9 hq x0 x1 x2 x3 h4
    obtain ⟨h0, h1, h2, h3, h4, hbw⟩ := HLOW.out w9 HX9.out
    have x0 := h0.cell (i := 0) rfl
    have x1 := h0.cell (i := 1) rfl
    have x2 := h0.cell (i := 2) rfl
    have x3 := h0.cell (i := 3) rfl
    have HRCC := Lib.hid (HRC.out n w9 rfl h1 h2 h3 h4 HSF.out (by rw [HL.out]; exact HOK.out) (by have := HPN.out; omega) (by have := HK3.out; rw [← HL.out] at this; exact this) hl1 (by omega))
    clear h0 h1 h2 h3 h4 hbw
    go_wp2_with fail
    refine HRCC.out.mono ?_
    rintro e wA ⟨L', F', b1, b2, b3, b4, b5, d1, d2, d3, d4, d5, hle, hF, rfl, k1, k2, k3, k4, k5, hbA⟩
    obtain ⟨f1, f2⟩ := cut_same HSF.out HCI.out hle hF
    have hpos : decide (0 < l1) = true := by
      have := (cutT_pos L F HOK.out.1).2 HIN.out
      rw [HE.out.1]
      simpa using this
    subst f1
    rw [f2] at k1 ⊢
    rw [← HE.out.1, ← HE.out.2.1, ← HE.out.2.2.1, ← HE.out.2.2.2.1, ← HE.out.2.2.2.2, ← HM.out, hpos]
    have HBA := Lib.hid (below_more HB9.out hbA HB9.out.size)
    have HXA := Lib.hid (below_more HX9.out hbA HX9.out.size)
    have HKA := Lib.hid (And.intro k1 (And.intro k2 (And.intro k3 (And.intro k4 k5))))
    clear hle hF f2 k1 k2 k3 k4 k5 hbA x0 x1 x2 x3 hpos HRCC
    go_upto_region 13 with fail
    obtain ⟨xr, hxr⟩ : ∃ x, x = wA.heap.size := ⟨_, rfl⟩
    obtain ⟨WB, hWB⟩ : ∃ WB, WB = wA.alloc (.cells #[.int .i64 (m : Int), .slice b1 l1 d1, .slice b2 l2 d2, .slice b3 l3 d3, .slice b4 l4 d4, .slice b5 l5 d5] 37) := ⟨_, rfl⟩
    have hbB : Below wA.heap.size wA WB := by rw [hWB]; exact (Below.refl _ _).alloc (Nat.le_refl _) _
    have hrr : RowIs WB xr 37 [.int .i64 (m : Int), .slice b1 l1 d1, .slice b2 l2 d2, .slice b3 l3 d3, .slice b4 l4 d4, .slice b5 l5 d5] := by rw [hWB, hxr]; exact RowIs.made wA 37 [.int .i64 (m : Int), .slice b1 l1 d1, .slice b2 l2 d2, .slice b3 l3 d3, .slice b4 l4 d4, .slice b5 l5 d5]
    have hb4B : Below W4.heap.size W4 WB := below_more HBA.out hbB HBA.out.size
    have hrl : RowIs WB xl 32 [.int .i64 (m : Int), .slice a1 l1 c1, .slice a2 l2 c2, .slice a3 l3 c3, .slice a4 l4 c4, .slice a5 l5 c5] := HRL.out.after hb4B
    have HK := Lib.hid (show ∀ w', Hid (Below WB.heap.size WB w') → w'.cell? ⟨xl, 0, none⟩ = some (.int .i64 (m : Int)) ∧ w'.cell? ⟨xl, 1, none⟩ = some (.slice a1 l1 c1) ∧ w'.cell? ⟨xl, 2, none⟩ = some (.slice a2 l2 c2) ∧ w'.cell? ⟨xl, 3, none⟩ = some (.slice a3 l3 c3) ∧ w'.cell? ⟨xl, 4, none⟩ = some (.slice a4 l4 c4) ∧ w'.cell? ⟨xl, 5, none⟩ = some (.slice a5 l5 c5) ∧ w'.cell? ⟨xr, 0, none⟩ = some (.int .i64 (m : Int)) ∧ w'.cell? ⟨xr, 1, none⟩ = some (.slice b1 l1 d1) ∧ w'.cell? ⟨xr, 2, none⟩ = some (.slice b2 l2 d2) ∧ w'.cell? ⟨xr, 3, none⟩ = some (.slice b3 l3 d3) ∧ w'.cell? ⟨xr, 4, none⟩ = some (.slice b4 l4 d4) ∧ w'.cell? ⟨xr, 5, none⟩ = some (.slice b5 l5 d5) from fun w' hw' => by
      have h1 := hrl.after hw'.out
      have h2 := hrr.after hw'.out
      exact ⟨h1.cell (i := 0) rfl, h1.cell (i := 1) rfl, h1.cell (i := 2) rfl, h1.cell (i := 3) rfl, h1.cell (i := 4) rfl, h1.cell (i := 5) rfl, h2.cell (i := 0) rfl, h2.cell (i := 1) rfl, h2.cell (i := 2) rfl, h2.cell (i := 3) rfl, h2.cell (i := 4) rfl, h2.cell (i := 5) rfl⟩)
    have HPLN := Lib.hid (show ∀ X, Hid (Below WB.heap.size WB X) → Calls Tryz.prog 12 #[.agg #[.int .i64 (m : Int), .slice a1 l1 c1, .slice a2 l2 c2, .slice a3 l3 c3, .slice a4 l4 c4, .slice a5 l5 c5]] X fun e w'' => e = .returned (.agg #[.int .i64 (m : Int), .slice a1 l1 c1, .slice a2 l2 c2, .slice a3 l3 c3, .slice a4 l4 c4, .slice a5 l5 c5]) ∧ Hid (Below WB.heap.size WB w'') from fun X hX =>
      (plain_local (m : Int) a1 a2 a3 a4 a5 l1 l2 l3 l4 l5 c1 c2 c3 c4 c5 X).mono fun e w'' ⟨q1, q2⟩ => ⟨q1, below_more hX.out q2 hX.out.size⟩)
    have HSAM := Lib.hid (show ∀ X, Hid (Below WB.heap.size WB X) → Calls Tryz.prog 11 #[.agg #[.int .i64 (m : Int), .slice a1 l1 c1, .slice a2 l2 c2, .slice a3 l3 c3, .slice a4 l4 c4, .slice a5 l5 c5], .agg #[.int .i64 (m : Int), .slice b1 l1 d1, .slice b2 l2 d2, .slice b3 l3 d3, .slice b4 l4 d4, .slice b5 l5 d5]] X fun e w'' => e = .returned (.bool true) ∧ Hid (Below WB.heap.size WB w'') from fun X hX => by
      obtain ⟨y1, y2, y3, y4, y5⟩ := HA.out X (below_more hb4B hX.out hb4B.size)
      have hx := below_more hbB hX.out hbB.size
      obtain ⟨k1, k2, k3, k4, k5⟩ := HKA.out
      have hF90 : F'.length ≤ 90 := by have := HCI.out.len; have := HL.out; omega
      have := same_local (m : Int) a1 a2 a3 a4 a5 b1 b2 b3 b4 b5 c1 c2 c3 c4 c5 d1 d2 d3 d4 d5 (cutT bays bay L F' T.length) (cutP P T F') (cutK K bays bay T.length) (cutV T F') (cutR T bays n F') X (by have := sel_le bays bay T.length; have := HL.out; simp [cutT]; omega) (by simp [cutP]; omega) (by
        by_cases h0 : K.length = 0
        · unfold cutK; rw [if_pos h0]; simp
        · rw [cutK_len K bays bay T.length h0]; have := sel_le bays bay T.length; have := HL.out; omega) (by simp [cutV]; omega) (by simp [cutR]; omega) y1 (k1.mono (Nat.le_refl _) hx) y2 (k2.mono (Nat.le_refl _) hx) y3 (k3.mono (Nat.le_refl _) hx) y4 (k4.mono (Nat.le_refl _) hx) y5 (k5.mono (Nat.le_refl _) hx)
      rw [← HE.out.1, ← HE.out.2.1, ← HE.out.2.2.1, ← HE.out.2.2.2.1, ← HE.out.2.2.2.2] at this
      exact this.mono fun e w'' ⟨q1, q2⟩ => ⟨q1, below_more hX.out q2 hX.out.size⟩)
    have HFIN := Lib.hid (show ∀ X, Hid (Below WB.heap.size WB X) → Below w.heap.size w X from fun X hX => by
      rw [← HXB.out]
      exact (HLOW.out X (below_more (below_more HXA.out hbB HXA.out.size) hX.out (by have := hbB.size; have := HXA.out.size; omega))).2.2.2.2.2)
    have HD0 := Lib.hid (Below.refl WB.heap.size WB)
    have HD := Lib.hid (show Below WB.heap.size WB WB.drew from (Below.refl _ _).drew)
    rw [← hWB, ← hxr]
    clear hxr hWB hbB hrr hb4B hrl HA HKA HRL HBA HXA
    go_upto_region 15 with fail
    go_region_held3 (fun w' => w'.cell? ⟨xl, 0, none⟩ = some (.int .i64 (m : Int)) ∧ w'.cell? ⟨xl, 1, none⟩ = some (.slice a1 l1 c1) ∧ w'.cell? ⟨xl, 2, none⟩ = some (.slice a2 l2 c2) ∧ w'.cell? ⟨xl, 3, none⟩ = some (.slice a3 l3 c3) ∧ w'.cell? ⟨xl, 4, none⟩ = some (.slice a4 l4 c4) ∧ w'.cell? ⟨xl, 5, none⟩ = some (.slice a5 l5 c5) ∧ w'.cell? ⟨xr, 0, none⟩ = some (.int .i64 (m : Int)) ∧ w'.cell? ⟨xr, 1, none⟩ = some (.slice b1 l1 d1) ∧ w'.cell? ⟨xr, 2, none⟩ = some (.slice b2 l2 d2) ∧ w'.cell? ⟨xr, 3, none⟩ = some (.slice b3 l3 d3) ∧ w'.cell? ⟨xr, 4, none⟩ = some (.slice b4 l4 d4) ∧ w'.cell? ⟨xr, 5, none⟩ = some (.slice b5 l5 d5)) (exact HK.out _ (by assumption))
      (first | (go_at_call 12; (with_reducible refine (HPLN.out _ (by assumption)).mono ?_); rintro eA wP ⟨rfl, hhP⟩) | (go_at_call 11; (with_reducible refine (HSAM.out _ (by assumption)).mono ?_); rintro eB wQ ⟨rfl, hhQ⟩))
    all_goals
      go_wp2
      exact bodyPost_ret (v := .bool true) (by simp [results, Tryz.results3, go_sem]) rfl ⟨rfl, HFIN.out _ (by assumption)⟩
end Go.Proofs.YtknioobpoieohaaGreat

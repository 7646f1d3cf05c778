/- gypsumref40.Of of a surface with right bays. -/
import Derived.Test.YtknioobpoieohaaGreatRims
import Derived.Test.YtknioobpoieohaaGreatBaySurf
import Derived.Test.YtknioobpoieohaaGreatIs15Law
import Derived.Test.YtknioobpoieohaaGreatRowFam
namespace Go.Proofs.YtknioobpoieohaaGreat
set_option linter.unusedVariables false
set_option linter.unusedSimpArgs false
open Go.RowKit
theorem many_tri {T : List Tr} {bays : List Int} {v : Int} : manyB T bays v = true ↔ ∃ i k, i < T.length ∧ k < T.length ∧ hasB (T! T i) v = true ∧ hasB (T! T k) v = true ∧ I! bays i ≠ I! bays k := by
  rw [manyB_iff]
  constructor
  · rintro ⟨c, d, hc, hd, rfl, hv, hne⟩
    refine ⟨c / 3, d / 3, by omega, by omega, hasB_vt, ?_, hne⟩
    rw [← hv]
    exact hasB_vt
  · rintro ⟨i, k, hi, hk, h1, h2, hne⟩
    obtain ⟨p, hp, e1⟩ := hasB_iff.1 h1
    obtain ⟨q, hq, e2⟩ := hasB_iff.1 h2
    refine ⟨3 * i + p, 3 * k + q, by omega, by omega, ?_, ?_, ?_⟩
    · rw [vt3 T i hp, e1]
    · rw [vt3 T k hq, e2]
    · unfold cbay
      rw [show (3 * i + p) / 3 = i by omega, show (3 * k + q) / 3 = k by omega]
      exact hne
/-- What is known of a vertex after so many triangles. -/
structure FMo (T : List Tr) (bays : List Int) (v : Int) (t : Nat) (fi : Int) (mo : Bool) : Prop where
  no : fi < 0 → ∀ i, i < t → hasB (T! T i) v = false
  yes : 0 ≤ fi → ∃ i, i < t ∧ hasB (T! T i) v = true ∧ I! bays i = fi
  more : mo = true ↔ 0 ≤ fi ∧ ∃ i, i < t ∧ hasB (T! T i) v = true ∧ I! bays i ≠ fi
theorem FMo.start (T : List Tr) (bays : List Int) (v : Int) : FMo T bays v 0 (-1) false := ⟨fun _ i h => by omega, fun h => by omega, by simp⟩
theorem FMo.skip {T : List Tr} {bays : List Int} {v : Int} {t : Nat} {fi : Int} {mo : Bool} (h : FMo T bays v t fi mo) (hb : hasB (T! T t) v = false) : FMo T bays v (t + 1) fi mo where
  no h0 i hi := by
    by_cases e : i = t
    · subst e; exact hb
    · exact h.no h0 i (by omega)
  yes h0 := by
    obtain ⟨i, hi, h1⟩ := h.yes h0
    exact ⟨i, by omega, h1⟩
  more := by
    rw [h.more]
    constructor
    · rintro ⟨h0, i, hi, h1⟩
      exact ⟨h0, i, by omega, h1⟩
    · rintro ⟨h0, i, hi, h1, h2⟩
      refine ⟨h0, i, ?_, h1, h2⟩
      by_cases e : i = t
      · subst e; rw [hb] at h1; cases h1
      · omega
theorem FMo.new {T : List Tr} {bays : List Int} {v : Int} {t : Nat} {fi x : Int} {mo : Bool} (h : FMo T bays v t fi mo) (hb : hasB (T! T t) v = true) (hf : fi < 0) (hx : I! bays t = x) (h0 : 0 ≤ x) : mo = false ∧ FMo T bays v (t + 1) x false where
  left := by
    cases e : mo
    · rfl
    · have := (h.more.1 e).1
      omega
  right := ⟨fun h1 => by omega, fun _ => ⟨t, by omega, hb, hx⟩, by
    constructor
    · intro e; cases e
    · rintro ⟨-, i, hi, h1, h2⟩
      by_cases e : i = t
      · subst e; exact absurd hx h2
      · have := h.no hf i (by omega)
        rw [this] at h1
        cases h1⟩
theorem FMo.add {T : List Tr} {bays : List Int} {v : Int} {t : Nat} {fi x : Int} {mo : Bool} (h : FMo T bays v t fi mo) (hb : hasB (T! T t) v = true) (hf : 0 ≤ fi) (hx : I! bays t = x) : FMo T bays v (t + 1) fi (mo || x != fi) where
  no h1 := by omega
  yes _ := by
    obtain ⟨i, hi, h1⟩ := h.yes hf
    exact ⟨i, by omega, h1⟩
  more := by
    rw [Bool.or_eq_true, h.more]
    constructor
    · rintro (⟨h0, i, hi, h1⟩ | h1)
      · exact ⟨h0, i, by omega, h1⟩
      · exact ⟨hf, t, by omega, hb, by rw [hx]; simpa using h1⟩
    · rintro ⟨-, i, hi, h1, h2⟩
      by_cases e : i = t
      · subst e
        right
        rw [hx] at h2
        simpa using h2
      · left
        exact ⟨hf, i, by omega, h1, h2⟩
theorem FMo.stop {T : List Tr} {bays : List Int} {v : Int} {fi : Int} {mo : Bool} (h : FMo T bays v T.length fi mo) : mo = manyB T bays v := by
  rw [Bool.eq_iff_iff, h.more, many_tri]
  constructor
  · rintro ⟨h0, i, hi, h1, h2⟩
    obtain ⟨k, hk, h3, h4⟩ := h.yes h0
    exact ⟨i, k, hi, hk, h1, h3, by rw [h4]; exact h2⟩
  · rintro ⟨i, k, hi, hk, h1, h2, hne⟩
    have h0 : 0 ≤ fi := by
      by_cases e : fi < 0
      · have := h.no e i hi
        rw [this] at h1
        cases h1
      · omega
    refine ⟨h0, ?_⟩
    by_cases e : I! bays i = fi
    · exact ⟨k, hk, h2, fun e' => hne (e.trans e'.symm)⟩
    · exact ⟨i, hi, h1, e⟩
set_option maxRecDepth 100000 in
set_option maxHeartbeats 2000000 in
theorem refof40 (n : Nat) (ao : Option Addr) (cap : Nat) (T : List Tr) (bo : Option Addr) (bcap : Nat) (bays : List Int) (w : World) (hT : TrisAt w ao T) (hB : IntsAt w bo bays) (hn : n ≤ 10000) (hl : T.length ≤ 1000) (hok : BaysOK T.length bays) :
    Calls Tryz.prog 25 #[.agg #[.int .i64 (n : Int), .slice ao T.length cap], .slice bo bays.length bcap] w fun e w' => ∃ v, e = .returned v ∧ w'.ownsRow w.heap.size 3 1 v (rimL T bays n).length (nv (rimL T bays n)) ∧ Below w.heap.size w w' := by
  obtain ⟨i0, hi, hz0, hz1, hz2⟩ := info_parts info3
  obtain ⟨W0, hW0⟩ : ∃ W0, W0 = w.alloc (.cells #[.int .i64 (n : Int), .slice ao T.length cap] 24) := ⟨_, rfl⟩
  have hb0 : Below w.heap.size w W0 := by rw [hW0]; exact (Below.refl _ _).alloc (Nat.le_refl _) _
  have hr0 : RowIs W0 w.heap.size 24 [.int .i64 (n : Int), .slice ao T.length cap] := by rw [hW0]; exact RowIs.made w 24 [.int .i64 (n : Int), .slice ao T.length cap]
  have HT := Lib.hid (hT.mono (Nat.le_refl _) hb0)
  have HB := Lib.hid (hB.mono (Nat.le_refl _) hb0)
  have HB0 := Lib.hid hb0
  have HR0 := Lib.hid hr0
  obtain ⟨len, hlen⟩ : ∃ l, l = T.length := ⟨_, rfl⟩
  have hbe : bays.length = T.length := hok.1
  rw [hbe]
  rw [← hlen] at hW0 HR0 hl ⊢
  have HBL := Lib.hid (show bays.length = len from by rw [hlen]; exact hbe)
  have HL := Lib.hid hlen
  have HW0 := Lib.hid hW0
  have HOK := Lib.hid hok
  obtain ⟨xb, hxb⟩ : ∃ x, x = w.heap.size := ⟨_, rfl⟩
  rw [← hxb] at HR0
  have HXB := Lib.hid hxb
  clear hT hB hb0 hr0 hW0 hlen hok hbe hxb
  go_enter Tryz.func25, Tryz.ntmps25
  go_upto_region 1 with fail
  rw [← HW0.out, ← HXB.out]
  go_wp2
  go_loopw [5, 6] (fun u i ws => ∃ v : Nat, v ≤ n ∧ i = .int .i64 v ∧ ws.ownsRow W0.heap.size 3 1 u (rimL T bays v).length (nv (rimL T bays v)) ∧ Below W0.heap.size W0 ws) (fun _ i _ => n - (intOf i).toNat)
  case atStart => exact ⟨0, by omega, rfl, World.ownsRow_nil _ _ _ _, Below.refl _ _⟩
  case round =>
  obtain ⟨v, hv, rfl, hown, hb⟩ := hrel
  obtain ⟨X, rfl⟩ : ∃ X : World, X = wr := ⟨_, rfl⟩
  have HOW := Lib.hid hown
  have HBX := Lib.hid hb
  have hbox := HR0.out.after hb
  have c0 := hbox.cell (i := 0) rfl
  have c1 := hbox.cell (i := 1) rfl
  obtain ⟨ua, uc, hue⟩ := owns_slice hown
  subst hue
  have hlR := rimL_le T bays v
  clear hown hb hbox
  by_cases hvn : v < n
  case neg =>
    obtain rfl : v = n := by omega
    have HF := Lib.hid (show X.ownsRow w.heap.size 3 1 (.slice ua (rimL T bays v).length uc) (rimL T bays v).length (nv (rimL T bays v)) from owns_base HOW.out HB0.out.size)
    have HBF := Lib.hid (below_more HB0.out HBX.out HB0.out.size)
    go_wp2
    go_ret
    exact ⟨_, rfl, HF.out, HBF.out⟩
  case pos =>
  go_wp2
  clear c0 c1
  go_loopw [7, 8, 9] (fun f m i ws => ∃ (t : Nat) (fi : Int) (mo : Bool), t ≤ len ∧ f = .int .i64 fi ∧ m = .bool mo ∧ i = .int .i64 t ∧ FMo T bays (v : Int) t fi mo ∧ Below X.heap.size X ws) (fun _ _ i _ => len - (intOf i).toNat)
  case atStart => exact ⟨0, -1, false, by omega, rfl, rfl, rfl, FMo.start _ _ _, Below.refl _ _⟩
  case round =>
  obtain ⟨t, fi, mo, ht, rfl, rfl, rfl, hfm, hb⟩ := hrel
  obtain ⟨Y, rfl⟩ : ∃ X : World, X = wr := ⟨_, rfl⟩
  have HFM := Lib.hid hfm
  have HBY := Lib.hid (below_more HBX.out hb HBX.out.size)
  have HY := Lib.hid hb
  have hbox := HR0.out.after HBY.out
  have c0 := hbox.cell (i := 0) rfl
  have c1 := hbox.cell (i := 1) rfl
  clear hfm hb
  by_cases hlt : t < len
  case neg =>
    obtain rfl : t = len := by omega
    have HOY := Lib.hid (owns_below HOW.out HY.out)
    have hmo := HFM.out
    rw [HL.out] at hmo
    have hmo2 := hmo.stop
    cases hmb : manyB T bays (v : Int)
    · have HN := Lib.hid (show rimL T bays (v + 1) = rimL T bays v from by rw [rimL_succ, hmb]; simp)
      rw [hmb] at hmo2
      subst hmo2
      clear hmo hmb hbox
      go_wp2
      go_roundw
      case rel => exact ⟨v + 1, by omega, by go_num, by rw [HN.out]; exact HOY.out, HBY.out⟩
      case measure => simp [intOf]; omega
    · have HN := Lib.hid (show rimL T bays (v + 1) = rimL T bays v ++ [v] from by rw [rimL_succ, hmb]; simp)
      rw [hmb] at hmo2
      subst hmo2
      have hYs := HBY.out.size
      clear hmo hmb hbox
      go_wp2_with (at_builtin; refine wpList_append_new _ rfl _ _ 26 rfl W0.heap.size 3 i0 _ 1 8 (by kernel_rfl) hi hz0 hz1 hz2 rfl (by decide) _ _ _ rfl HOY.out _ _ _ rfl (by first | rfl | simp) rfl ?_ ?_ ?_ ?_ ?_)
      all_goals first | rfl | (simp; omega) | omega | (unfold maxLen; omega) | exact ⟨rfl, rfl⟩ | exact ⟨rfl, rfl, rfl⟩ | skip
      · intro v' w5 hown5 hbel hgr
        have HW5 := Lib.hid (show w5.ownsRow W0.heap.size 3 1 v' (rimL T bays (v + 1)).length (nv (rimL T bays (v + 1))) from by
          rw [HN.out, nv_snoc, List.length_append]
          exact hown5)
        have HB5 := Lib.hid (hbel W0.heap.size _ (Nat.le_refl _) HBY.out)
        clear hown5 hbel hgr
        go_wp2
        go_roundw
        case rel => exact ⟨v + 1, by omega, by go_num, HW5.out, HB5.out⟩
        case measure => simp [intOf]; omega
  case pos =>
  obtain ⟨b, off, x, y, z, rfl, htt, g0, g1, g2, -, -⟩ := HT.out.get (Nat.le_refl _) HBY.out (i := t) (by have := HL.out; omega)
  have HHAS := Lib.hid (fun X : World => has15 x y z (v : Int) X)
  obtain ⟨h, hh⟩ : ∃ h, h = hasB (x, y, z) (v : Int) := ⟨_, rfl⟩
  rw [← hh] at HHAS
  have HH := Lib.hid (show hasB (T! T t) (v : Int) = h from by rw [htt.out, hh])
  have HTT := Lib.hid (show IntsAt Y bo bays from HB.out.mono (Nat.le_refl _) HBY.out)
  clear hh hbox
  go_wp2_with fail
  refine (HHAS.out _).mono ?_
  rintro e w4 ⟨rfl, hb4⟩
  have HB4 := Lib.hid (below_more HY.out hb4 HY.out.size)
  obtain ⟨bb, boff, q, hE, hq, hqc, -, -⟩ := HTT.out.get (Nat.le_refl _) hb4 (i := t) (by rw [HBL.out]; exact hlt)
  subst hE
  have HQ0 := Lib.hid (show 0 ≤ q from by
    have hm : I! bays t ∈ bays := by
      have hl : t < bays.length := by rw [HBL.out]; exact hlt
      unfold I!
      rw [List.getD_eq_getElem?_getD, List.getElem?_eq_getElem hl]
      exact List.getElem_mem hl
    have := (HOK.out.2 _ hm).1
    rw [hq.out] at this
    exact this)
  clear hb4 g0 g1 g2 c0 c1
  cases h
  · have HF2 := Lib.hid (HFM.out.skip HH.out)
    go_wp2
    go_roundw
    case rel => exact ⟨t + 1, fi, mo, by omega, rfl, rfl, by go_num, HF2.out, HB4.out⟩
    case measure => simp [intOf]; omega
  · by_cases hfi : fi < 0
    · have d0 : decide (fi < 0) = true := by simpa using hfi
      obtain ⟨hm0, hf2⟩ := HFM.out.new HH.out hfi hq.out HQ0.out
      have HF2 := Lib.hid hf2
      subst hm0
      have d1 : (q != q) = false := by simp
      clear hf2 hfi
      go_wp2
      go_roundw
      case rel => exact ⟨t + 1, q, false, by omega, rfl, rfl, by go_num, HF2.out, HB4.out⟩
      case measure => simp [intOf]; omega
    · have d0 : decide (fi < 0) = false := by simpa using hfi
      have hf2 := HFM.out.add HH.out (by omega) hq.out
      cases mo
      · obtain ⟨g, hg⟩ : ∃ g, (q != fi) = g := ⟨_, rfl⟩
        rw [hg, Bool.false_or] at hf2
        have HF2 := Lib.hid hf2
        clear hf2 hfi
        go_wp2
        go_roundw
        case rel => exact ⟨t + 1, fi, g, by omega, rfl, rfl, by go_num, HF2.out, HB4.out⟩
        case measure => simp [intOf]; omega
      · rw [Bool.true_or] at hf2
        have HF2 := Lib.hid hf2
        clear hf2 hfi
        go_wp2
        go_roundw
        case rel => exact ⟨t + 1, fi, true, by omega, rfl, rfl, by go_num, HF2.out, HB4.out⟩
        case measure => simp [intOf]; omega
end Go.Proofs.YtknioobpoieohaaGreat

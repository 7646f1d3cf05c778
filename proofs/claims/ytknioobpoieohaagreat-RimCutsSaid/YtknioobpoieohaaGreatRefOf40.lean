/- gypsumref40.Of of a surface with right bays. gypsumref40.join, sides of a surface with right bays. -/
import Derived.Test.YtknioobpoieohaaGreatRims
import Derived.Test.YtknioobpoieohaaGreatBaySurf
import Derived.Test.YtknioobpoieohaaGreatIs15Law
import Derived.Test.YtknioobpoieohaaGreatRowFam
import Derived.Test.YtknioobpoieohaaGreatJoinLaw
import Derived.Test.YtknioobpoieohaaGreatOppRef
import Derived.Test.YtknioobpoieohaaGreatRimTab
import Derived.BigQuiet
namespace Go.Proofs.YtknioobpoieohaaGreat
set_option linter.unusedVariables false
set_option linter.unusedSimpArgs false
open Go.RowKit
theorem many_tri {T : List Tr} {bays : List Int} {v : Int} : manyB T bays v = true ↔ ∃ i k, i < T.length ∧ k < T.length ∧ hasB (T! T i) v = true ∧ hasB (T! T k) v = true ∧ I! bays i ≠ I! bays k := by
  rw [manyB_iff]
  constructor
  · rintro ⟨c, d, hc, hd, rfl, hv, hne⟩
    refine ⟨c / 3, d / 3, by omega, by omega, hasB_vt, ?_, hne⟩
    rw [← hv]
    exact hasB_vt
  · rintro ⟨i, k, hi, hk, h1, h2, hne⟩
    obtain ⟨p, hp, e1⟩ := hasB_iff.1 h1
    obtain ⟨q, hq, e2⟩ := hasB_iff.1 h2
    refine ⟨3 * i + p, 3 * k + q, by omega, by omega, ?_, ?_, ?_⟩
    · rw [vt3 T i hp, e1]
    · rw [vt3 T k hq, e2]
    · unfold cbay
      rw [show (3 * i + p) / 3 = i by omega, show (3 * k + q) / 3 = k by omega]
      exact hne
/-- What is known of a vertex after so many triangles. -/
structure FMo (T : List Tr) (bays : List Int) (v : Int) (t : Nat) (fi : Int) (mo : Bool) : Prop where
  no : fi < 0 → ∀ i, i < t → hasB (T! T i) v = false
  yes : 0 ≤ fi → ∃ i, i < t ∧ hasB (T! T i) v = true ∧ I! bays i = fi
  more : mo = true ↔ 0 ≤ fi ∧ ∃ i, i < t ∧ hasB (T! T i) v = true ∧ I! bays i ≠ fi
theorem FMo.start (T : List Tr) (bays : List Int) (v : Int) : FMo T bays v 0 (-1) false := ⟨fun _ i h => by omega, fun h => by omega, by simp⟩
theorem FMo.skip {T : List Tr} {bays : List Int} {v : Int} {t : Nat} {fi : Int} {mo : Bool} (h : FMo T bays v t fi mo) (hb : hasB (T! T t) v = false) : FMo T bays v (t + 1) fi mo where
  no h0 i hi := by
    by_cases e : i = t
    · subst e; exact hb
    · exact h.no h0 i (by omega)
  yes h0 := by
    obtain ⟨i, hi, h1⟩ := h.yes h0
    exact ⟨i, by omega, h1⟩
  more := by
    rw [h.more]
    constructor
    · rintro ⟨h0, i, hi, h1⟩
      exact ⟨h0, i, by omega, h1⟩
    · rintro ⟨h0, i, hi, h1, h2⟩
      refine ⟨h0, i, ?_, h1, h2⟩
      by_cases e : i = t
      · subst e; rw [hb] at h1; cases h1
      · omega
theorem FMo.new {T : List Tr} {bays : List Int} {v : Int} {t : Nat} {fi x : Int} {mo : Bool} (h : FMo T bays v t fi mo) (hb : hasB (T! T t) v = true) (hf : fi < 0) (hx : I! bays t = x) (h0 : 0 ≤ x) : mo = false ∧ FMo T bays v (t + 1) x false where
  left := by
    cases e : mo
    · rfl
    · have := (h.more.1 e).1
      omega
  right := ⟨fun h1 => by omega, fun _ => ⟨t, by omega, hb, hx⟩, by
    constructor
    · intro e; cases e
    · rintro ⟨-, i, hi, h1, h2⟩
      by_cases e : i = t
      · subst e; exact absurd hx h2
      · have := h.no hf i (by omega)
        rw [this] at h1
        cases h1⟩
theorem FMo.add {T : List Tr} {bays : List Int} {v : Int} {t : Nat} {fi x : Int} {mo : Bool} (h : FMo T bays v t fi mo) (hb : hasB (T! T t) v = true) (hf : 0 ≤ fi) (hx : I! bays t = x) : FMo T bays v (t + 1) fi (mo || x != fi) where
  no h1 := by omega
  yes _ := by
    obtain ⟨i, hi, h1⟩ := h.yes hf
    exact ⟨i, by omega, h1⟩
  more := by
    rw [Bool.or_eq_true, h.more]
    constructor
    · rintro (⟨h0, i, hi, h1⟩ | h1)
      · exact ⟨h0, i, by omega, h1⟩
      · exact ⟨hf, t, by omega, hb, by rw [hx]; simpa using h1⟩
    · rintro ⟨-, i, hi, h1, h2⟩
      by_cases e : i = t
      · subst e
        right
        rw [hx] at h2
        simpa using h2
      · left
        exact ⟨hf, i, by omega, h1, h2⟩
theorem FMo.stop {T : List Tr} {bays : List Int} {v : Int} {fi : Int} {mo : Bool} (h : FMo T bays v T.length fi mo) : mo = manyB T bays v := by
  rw [Bool.eq_iff_iff, h.more, many_tri]
  constructor
  · rintro ⟨h0, i, hi, h1, h2⟩
    obtain ⟨k, hk, h3, h4⟩ := h.yes h0
    exact ⟨i, k, hi, hk, h1, h3, by rw [h4]; exact h2⟩
  · rintro ⟨i, k, hi, hk, h1, h2, hne⟩
    have h0 : 0 ≤ fi := by
      by_cases e : fi < 0
      · have := h.no e i hi
        rw [this] at h1
        cases h1
      · omega
    refine ⟨h0, ?_⟩
    by_cases e : I! bays i = fi
    · exact ⟨k, hk, h2, fun e' => hne (e.trans e'.symm)⟩
    · exact ⟨i, hi, h1, e⟩
set_option maxRecDepth 100000 in
set_option maxHeartbeats 2000000 in
theorem refof40 (n : Nat) (ao : Option Addr) (cap : Nat) (T : List Tr) (bo : Option Addr) (bcap : Nat) (bays : List Int) (w : World) (hT : TrisAt w ao T) (hB : IntsAt w bo bays) (hn : n ≤ 10000) (hl : T.length ≤ 1000) (hok : BaysOK T.length bays) :
    Calls Tryz.prog 25 #[.agg #[.int .i64 (n : Int), .slice ao T.length cap], .slice bo bays.length bcap] w fun e w' => ∃ v, e = .returned v ∧ w'.ownsRow w.heap.size 3 1 v (rimL T bays n).length (nv (rimL T bays n)) ∧ Below w.heap.size w w' := by
  obtain ⟨i0, hi, hz0, hz1, hz2⟩ := info_parts info3
  obtain ⟨W0, hW0⟩ : ∃ W0, W0 = w.alloc (.cells #[.int .i64 (n : Int), .slice ao T.length cap] 24) := ⟨_, rfl⟩
  have hb0 : Below w.heap.size w W0 := by rw [hW0]; exact (Below.refl _ _).alloc (Nat.le_refl _) _
  have hr0 : RowIs W0 w.heap.size 24 [.int .i64 (n : Int), .slice ao T.length cap] := by rw [hW0]; exact RowIs.made w 24 [.int .i64 (n : Int), .slice ao T.length cap]
  have HT := Lib.hid (hT.mono (Nat.le_refl _) hb0)
  have HB := Lib.hid (hB.mono (Nat.le_refl _) hb0)
  have HB0 := Lib.hid hb0
  have HR0 := Lib.hid hr0
  obtain ⟨len, hlen⟩ : ∃ l, l = T.length := ⟨_, rfl⟩
  have hbe : bays.length = T.length := hok.1
  rw [hbe]
  rw [← hlen] at hW0 HR0 hl ⊢
  have HBL := Lib.hid (show bays.length = len from by rw [hlen]; exact hbe)
  have HL := Lib.hid hlen
  have HW0 := Lib.hid hW0
  have HOK := Lib.hid hok
  obtain ⟨xb, hxb⟩ : ∃ x, x = w.heap.size := ⟨_, rfl⟩
  rw [← hxb] at HR0
  have HXB := Lib.hid hxb
  clear hT hB hb0 hr0 hW0 hlen hok hbe hxb
  go_enter Tryz.func25, Tryz.ntmps25
  go_upto_region 1 with fail
  rw [← HW0.out, ← HXB.out]
  go_wp2
  go_loopw [5, 6] (fun u i ws => ∃ v : Nat, v ≤ n ∧ i = .int .i64 v ∧ ws.ownsRow W0.heap.size 3 1 u (rimL T bays v).length (nv (rimL T bays v)) ∧ Below W0.heap.size W0 ws) (fun _ i _ => n - (intOf i).toNat)
  case atStart => exact ⟨0, by omega, rfl, World.ownsRow_nil _ _ _ _, Below.refl _ _⟩
  case round =>
  obtain ⟨v, hv, rfl, hown, hb⟩ := hrel
  obtain ⟨X, rfl⟩ : ∃ X : World, X = wr := ⟨_, rfl⟩
  have HOW := Lib.hid hown
  have HBX := Lib.hid hb
  have hbox := HR0.out.after hb
  have c0 := hbox.cell (i := 0) rfl
  have c1 := hbox.cell (i := 1) rfl
  obtain ⟨ua, uc, hue⟩ := owns_slice hown
  subst hue
  have hlR := rimL_le T bays v
  clear hown hb hbox
  by_cases hvn : v < n
  case neg =>
    obtain rfl : v = n := by omega
    have HF := Lib.hid (show X.ownsRow w.heap.size 3 1 (.slice ua (rimL T bays v).length uc) (rimL T bays v).length (nv (rimL T bays v)) from owns_base HOW.out HB0.out.size)
    have HBF := Lib.hid (below_more HB0.out HBX.out HB0.out.size)
    go_wp2
    go_ret
    exact ⟨_, rfl, HF.out, HBF.out⟩
  case pos =>
  go_wp2
  clear c0 c1
  go_loopw [7, 8, 9] (fun f m i ws => ∃ (t : Nat) (fi : Int) (mo : Bool), t ≤ len ∧ f = .int .i64 fi ∧ m = .bool mo ∧ i = .int .i64 t ∧ FMo T bays (v : Int) t fi mo ∧ Below X.heap.size X ws) (fun _ _ i _ => len - (intOf i).toNat)
  case atStart => exact ⟨0, -1, false, by omega, rfl, rfl, rfl, FMo.start _ _ _, Below.refl _ _⟩
  case round =>
  obtain ⟨t, fi, mo, ht, rfl, rfl, rfl, hfm, hb⟩ := hrel
  obtain ⟨Y, rfl⟩ : ∃ X : World, X = wr := ⟨_, rfl⟩
  have HFM := Lib.hid hfm
  have HBY := Lib.hid (below_more HBX.out hb HBX.out.size)
  have HY := Lib.hid hb
  have hbox := HR0.out.after HBY.out
  have c0 := hbox.cell (i := 0) rfl
  have c1 := hbox.cell (i := 1) rfl
  clear hfm hb
  by_cases hlt : t < len
  case neg =>
    obtain rfl : t = len := by omega
    have HOY := Lib.hid (owns_below HOW.out HY.out)
    have hmo := HFM.out
    rw [HL.out] at hmo
    have hmo2 := hmo.stop
    cases hmb : manyB T bays (v : Int)
    · have HN := Lib.hid (show rimL T bays (v + 1) = rimL T bays v from by rw [rimL_succ, hmb]; simp)
      rw [hmb] at hmo2
      subst hmo2
      clear hmo hmb hbox
      go_wp2
      go_roundw
      case rel => exact ⟨v + 1, by omega, by go_num, by rw [HN.out]; exact HOY.out, HBY.out⟩
      case measure => simp [intOf]; omega
    · have HN := Lib.hid (show rimL T bays (v + 1) = rimL T bays v ++ [v] from by rw [rimL_succ, hmb]; simp)
      rw [hmb] at hmo2
      subst hmo2
      have hYs := HBY.out.size
      clear hmo hmb hbox
      go_wp2_with (at_builtin; refine wpList_append_new _ rfl _ _ 26 rfl W0.heap.size 3 i0 _ 1 8 (by kernel_rfl) hi hz0 hz1 hz2 rfl (by decide) _ _ _ rfl HOY.out _ _ _ rfl (by first | rfl | simp) rfl ?_ ?_ ?_ ?_ ?_)
      all_goals first | rfl | (simp; omega) | omega | (unfold maxLen; omega) | exact ⟨rfl, rfl⟩ | exact ⟨rfl, rfl, rfl⟩ | skip
      · intro v' w5 hown5 hbel hgr
        have HW5 := Lib.hid (show w5.ownsRow W0.heap.size 3 1 v' (rimL T bays (v + 1)).length (nv (rimL T bays (v + 1))) from by
          rw [HN.out, nv_snoc, List.length_append]
          exact hown5)
        have HB5 := Lib.hid (hbel W0.heap.size _ (Nat.le_refl _) HBY.out)
        clear hown5 hbel hgr
        go_wp2
        go_roundw
        case rel => exact ⟨v + 1, by omega, by go_num, HW5.out, HB5.out⟩
        case measure => simp [intOf]; omega
  case pos =>
  obtain ⟨b, off, x, y, z, rfl, htt, g0, g1, g2, -, -⟩ := HT.out.get (Nat.le_refl _) HBY.out (i := t) (by have := HL.out; omega)
  have HHAS := Lib.hid (fun X : World => has15 x y z (v : Int) X)
  obtain ⟨h, hh⟩ : ∃ h, h = hasB (x, y, z) (v : Int) := ⟨_, rfl⟩
  rw [← hh] at HHAS
  have HH := Lib.hid (show hasB (T! T t) (v : Int) = h from by rw [htt.out, hh])
  have HTT := Lib.hid (show IntsAt Y bo bays from HB.out.mono (Nat.le_refl _) HBY.out)
  clear hh hbox
  go_wp2_with fail
  refine (HHAS.out _).mono ?_
  rintro e w4 ⟨rfl, hb4⟩
  have HB4 := Lib.hid (below_more HY.out hb4 HY.out.size)
  obtain ⟨bb, boff, q, hE, hq, hqc, -, -⟩ := HTT.out.get (Nat.le_refl _) hb4 (i := t) (by rw [HBL.out]; exact hlt)
  subst hE
  have HQ0 := Lib.hid (show 0 ≤ q from by
    have hm : I! bays t ∈ bays := by
      have hl : t < bays.length := by rw [HBL.out]; exact hlt
      unfold I!
      rw [List.getD_eq_getElem?_getD, List.getElem?_eq_getElem hl]
      exact List.getElem_mem hl
    have := (HOK.out.2 _ hm).1
    rw [hq.out] at this
    exact this)
  clear hb4 g0 g1 g2 c0 c1
  cases h
  · have HF2 := Lib.hid (HFM.out.skip HH.out)
    go_wp2
    go_roundw
    case rel => exact ⟨t + 1, fi, mo, by omega, rfl, rfl, by go_num, HF2.out, HB4.out⟩
    case measure => simp [intOf]; omega
  · by_cases hfi : fi < 0
    · have d0 : decide (fi < 0) = true := by simpa using hfi
      obtain ⟨hm0, hf2⟩ := HFM.out.new HH.out hfi hq.out HQ0.out
      have HF2 := Lib.hid hf2
      subst hm0
      have d1 : (q != q) = false := by simp
      clear hf2 hfi
      go_wp2
      go_roundw
      case rel => exact ⟨t + 1, q, false, by omega, rfl, rfl, by go_num, HF2.out, HB4.out⟩
      case measure => simp [intOf]; omega
    · have d0 : decide (fi < 0) = false := by simpa using hfi
      have hf2 := HFM.out.add HH.out (by omega) hq.out
      cases mo
      · obtain ⟨g, hg⟩ : ∃ g, (q != fi) = g := ⟨_, rfl⟩
        rw [hg, Bool.false_or] at hf2
        have HF2 := Lib.hid hf2
        clear hf2 hfi
        go_wp2
        go_roundw
        case rel => exact ⟨t + 1, fi, g, by omega, rfl, rfl, by go_num, HF2.out, HB4.out⟩
        case measure => simp [intOf]; omega
      · rw [Bool.true_or] at hf2
        have HF2 := Lib.hid hf2
        clear hf2 hfi
        go_wp2
        go_roundw
        case rel => exact ⟨t + 1, fi, true, by omega, rfl, rfl, by go_num, HF2.out, HB4.out⟩
        case measure => simp [intOf]; omega
def nf (φ : Nat → Nat) : Nat → Int := fun i => (φ i : Int)
theorem nf_join (φ : Nat → Nat) (a b : Nat) : upd (upd (nf φ) a ((min (φ a) (φ b) : Nat) : Int)) b ((min (φ a) (φ b) : Nat) : Int) = nf (joinF φ a b) := by
  funext i
  unfold upd nf joinF updN
  by_cases e1 : i = b
  · simp [e1]
  · by_cases e2 : i = a
    · simp [e1, e2]
    · simp [e1, e2]
set_option maxRecDepth 100000 in
set_option maxHeartbeats 1000000 in
theorem join40 (w : World) (g n : Nat) (φ : Nat → Nat) (a b : Nat) (hrow : RowIs w g 3 (iv (nf φ) n)) (ha : a < n) (hb : b < n) (hn : n ≤ 100000) :
    Calls Tryz.prog 74 #[.slice (some ⟨g, 0, none⟩) n n, .int .i64 (a : Int), .int .i64 (b : Int)] w fun e w' => e = .returned (.tuple #[]) ∧ RowIs w' g 3 (iv (nf (joinF φ a b)) n) ∧ w.grownBy w' (some g) := by
  have c0 := hrow.cell (iv_get (nf φ) ha)
  have c1 := hrow.cell (iv_get (nf φ) hb)
  have f0 := hrow.free a
  have f1 := hrow.free b
  obtain ⟨x, hx⟩ : ∃ x, x = φ a := ⟨_, rfl⟩
  obtain ⟨y, hy⟩ : ∃ y, y = φ b := ⟨_, rfl⟩
  simp only [nf, ← hx, ← hy] at c0 c1
  have HR := Lib.hid (show ∀ l : Nat, l = min (φ a) (φ b) → RowIs ((w.setCell ⟨g, a, none⟩ (.int .i64 (l : Int))).setCell ⟨g, b, none⟩ (.int .i64 (l : Int))) g 3 (iv (nf (joinF φ a b)) n) from fun l hl => by
    have h := (hrow.set a (.int .i64 (l : Int))).set b (.int .i64 (l : Int))
    rw [iv_set, iv_set, hl, nf_join] at h
    rw [hl]
    exact h)
  have HG := Lib.hid (show ∀ v1 v2, w.grownBy ((w.setCell ⟨g, a, none⟩ v1).setCell ⟨g, b, none⟩ v2) (some g) from fun v1 v2 => grown_trans (grown_set w g a v1) (grown_set _ g b v2))
  by_cases hxy : y < x
  · have d0 : decide ((y : Int) < (x : Int)) = true := by simp; omega
    have d1 : decide (y < x) = true := by simpa using hxy
    have HM := Lib.hid (show y = min (φ a) (φ b) from by rw [← hx, ← hy]; omega)
    have hset := hrow.set a (.int .i64 (y : Int))
    have fq := hset.free b
    rw [iv_set] at hset
    have hq := hset.cell (iv_get _ hb)
    generalize upd (nf φ) a (y : Int) b = q at hq
    clear hrow hx hy hxy hset
    go_enter Tryz.func74, Tryz.ntmps74
    go_wp2
    exact bodyPost_end (v := .tuple #[]) (by simp [results, Tryz.results74, go_sem]) rfl ⟨rfl, HR.out y HM.out, HG.out _ _⟩
  · have d0 : decide ((y : Int) < (x : Int)) = false := by simp; omega
    have d1 : decide (y < x) = false := by simpa using hxy
    have HM := Lib.hid (show x = min (φ a) (φ b) from by rw [← hx, ← hy]; omega)
    have hset := hrow.set a (.int .i64 (x : Int))
    have fq := hset.free b
    rw [iv_set] at hset
    have hq := hset.cell (iv_get _ hb)
    generalize upd (nf φ) a (x : Int) b = q at hq
    clear hrow hx hy hxy hset
    go_enter Tryz.func74, Tryz.ntmps74
    go_wp2
    exact bodyPost_end (v := .tuple #[]) (by simp [results, Tryz.results74, go_sem]) rfl ⟨rfl, HR.out x HM.out, HG.out _ _⟩
set_option maxRecDepth 100000 in
set_option maxHeartbeats 4000000 in
theorem refsides40 (n : Nat) (ao : Option Addr) (cap : Nat) (T : List Tr) (bo : Option Addr) (bcap : Nat) (bays : List Int) (w : World) (hT : TrisAt w ao T) (hB : IntsAt w bo bays) (hs : Surf n T) (hok : BaysOK T.length bays) (hl : T.length ≤ 1000) :
    Calls Tryz.prog 45 #[.agg #[.int .i64 (n : Int), .slice ao T.length cap], .slice bo bays.length bcap] w fun e w' => ∃ (g : Nat) (L : Nat → Int), e = .returned (.slice (some ⟨g, 0, none⟩) (3 * T.length) (3 * T.length)) ∧ w.heap.size ≤ g ∧ RowIs w' g 3 (iv L (3 * T.length)) ∧ IsLeast (SAdj T (I! bays)) (3 * T.length) L ∧ Below w.heap.size w w' := by
  obtain ⟨i0, hi, hz0, hz1, hz2⟩ := info_parts info3
  obtain ⟨W0, hW0⟩ : ∃ W0, W0 = w.alloc (.cells #[.int .i64 (n : Int), .slice ao T.length cap] 24) := ⟨_, rfl⟩
  have hb0 : Below w.heap.size w W0 := by rw [hW0]; exact (Below.refl _ _).alloc (Nat.le_refl _) _
  have hr0 : RowIs W0 w.heap.size 24 [.int .i64 (n : Int), .slice ao T.length cap] := by rw [hW0]; exact RowIs.made w 24 [.int .i64 (n : Int), .slice ao T.length cap]
  have hT0 := hT.mono (Nat.le_refl _) hb0
  have HBY := Lib.hid (hB.mono (Nat.le_refl _) hb0)
  have HOPP := Lib.hid (show ∀ (c : Nat) (X : World), c < 3 * T.length → Below W0.heap.size W0 X → Calls Tryz.prog 57 #[.agg #[.int .i64 (n : Int), .slice ao T.length cap], .int .i64 (c : Int)] X fun e w' => e = .returned (.int .i64 (opp T (c : Nat))) ∧ Below X.heap.size X w' from fun c X hc hX => opp15 n ao cap T c X (hT0.mono (Nat.le_refl _) hX) hs hc)
  have HS := Lib.hid hs
  have HSY := Lib.hid (show ∀ i j, SAdj T (I! bays) i j → SAdj T (I! bays) j i from fun i j h => hs.sadj_symm h)
  have HIN := Lib.hid (show ∀ i j, SAdj T (I! bays) i j → i < 3 * T.length ∧ j < 3 * T.length from fun i j h => ⟨h.1, h.2.1⟩)
  have HB0 := Lib.hid hb0
  have HR0 := Lib.hid hr0
  obtain ⟨len, hlen⟩ : ∃ l, l = T.length := ⟨_, rfl⟩
  obtain ⟨l3, hl3⟩ : ∃ l, l = 3 * T.length := ⟨_, rfl⟩
  have hbe : bays.length = T.length := hok.1
  rw [hbe, ← hl3]
  have HBL := Lib.hid (show bays.length = len from by rw [hlen]; exact hbe)
  have HL := Lib.hid hlen
  have HL3 := Lib.hid hl3
  have h3l : (3 : Int) * (len : Int) = (l3 : Int) := by omega
  have hl3b : l3 ≤ 3000 := by omega
  have h3len : l3 = 3 * len := by omega
  rw [← hlen] at hW0 HR0 hl ⊢
  simp only [← hlen] at HOPP
  have HW0 := Lib.hid hW0
  have H3 := Lib.hid h3len
  obtain ⟨xb, hxb⟩ : ∃ x, x = w.heap.size := ⟨_, rfl⟩
  rw [← hxb] at HR0
  have HXB := Lib.hid hxb
  clear hT hB hT0 hb0 hr0 hW0 hlen hl3 hs hok hbe hxb h3len
  go_enter Tryz.func45, Tryz.ntmps45
  go_upto_region 1 with fail
  rw [← HW0.out, ← HXB.out]
  have c0 := HR0.out.cell (i := 0) rfl
  have c1 := HR0.out.cell (i := 1) rfl
  go_wp2_with (at_make; refine wpList_make_full _ rfl _ _ _ rfl W0.heap.size 3 i0 (.int .i64 0) 1 (by kernel_rfl) hi hz0 hz1 _ _ _ _ l3 rfl rfl rfl rfl (by rw [hz2]; omega) (by unfold maxLen; omega) (by simp) ?_)
  intro w3 hown hgr
  rw [madeCells_iv] at hown
  have hrow := RowIs.of_owns hown
  have HB3 := Lib.hid (show Below W0.heap.size W0 w3 from (Below.refl _ _).grown hgr (Nat.le_refl _) (by simp))
  obtain ⟨g, hg⟩ : ∃ q, q = W0.heap.size := ⟨_, rfl⟩
  rw [← hg] at hrow
  have HG := Lib.hid hrow
  have HGE := Lib.hid hg
  clear hown hgr hrow c0 c1
  rw [← hg]
  clear hg
  go_wp2
  go_loopw [6] (fun i ws => ∃ k : Nat, k ≤ l3 ∧ i = .int .i64 k ∧ RowIs ws g 3 (iv (fun i => if i < k then (i : Int) else 0) l3) ∧ Below W0.heap.size W0 ws) (fun i _ => l3 - (intOf i).toNat)
  case atStart => exact ⟨0, by omega, rfl, by simpa using HG.out, HB3.out⟩
  case round =>
  clear HG HB3
  obtain ⟨k, hk, rfl, hrow, hb⟩ := hrel
  obtain ⟨X, rfl⟩ : ∃ X : World, X = wr := ⟨_, rfl⟩
  by_cases hkl : k < l3
  case pos =>
    have f0 := hrow.free k
    have r0 := hrow.cell (iv_get (fun i => if i < k then (i : Int) else 0) hkl)
    have s0 := hrow.set k (.int .i64 (k : Int))
    rw [iv_set] at s0
    have e1 : upd (fun i => if i < k then (i : Int) else 0) k (k : Int) = fun i => if i < k + 1 then (i : Int) else 0 := by
      funext i; unfold upd
      by_cases e : i = k
      · subst e; simp
      · by_cases h : i < k
        · have : i < k + 1 := by omega
          simp [e, h, this]
        · have : ¬ i < k + 1 := by omega
          simp [e, h, this]
    rw [e1] at s0
    have S0 := Lib.hid s0
    have HBS := Lib.hid (hb.setCell (p := ⟨g, k, none⟩) (by have := HGE.out; show W0.heap.size ≤ g; omega) (.int .i64 (k : Int)))
    generalize hq1 : (if k < k then (k : Int) else 0) = q1 at r0
    clear hrow hb s0 e1 hq1
    go_wp2
    go_roundw
    case rel => exact ⟨k + 1, by omega, by go_num, S0.out, HBS.out⟩
    case measure => simp [intOf]; omega
  case neg =>
  obtain rfl : k = l3 := by omega
  have HG := Lib.hid (show RowIs X g 3 (iv (nf fun i => i) k) from by
    rw [iv_congr (h := nf fun i => i) (fun i hi => by simp [hi, nf])] at hrow
    exact hrow)
  have HBX := Lib.hid hb
  clear hrow hb
  go_wp2
  go_loopw [7] (fun i ws => ∃ (r : Nat) (φ : Nat → Nat), r ≤ k ∧ i = .int .i64 r ∧ RowIs ws g 3 (iv (nf φ) k) ∧ QInv (SAdj T (I! bays)) k r φ ∧ Below W0.heap.size W0 ws) (fun i _ => k - (intOf i).toNat)
  case atStart => exact ⟨0, _, by omega, rfl, HG.out, QInv.start _ _, HBX.out⟩
  case round =>
  clear HG HBX
  obtain ⟨r, φ0, hr, rfl, hrow, hq, hb⟩ := hrel
  obtain ⟨Y, rfl⟩ : ∃ X : World, X = wr := ⟨_, rfl⟩
  have HG := Lib.hid hrow
  have HQ := Lib.hid hq
  have HBY2 := Lib.hid hb
  clear hrow hq hb
  by_cases hrl : r < k
  case neg =>
    obtain rfl : r = k := by omega
    have HF := Lib.hid (show ∃ (g' : Nat) (L : Nat → Int), (.returned (.slice (some ⟨g, 0, none⟩) r r) : Ending) = .returned (.slice (some ⟨g', 0, none⟩) r r) ∧ w.heap.size ≤ g' ∧ RowIs Y g' 3 (iv L r) ∧ IsLeast (SAdj T (I! bays)) r L ∧ Below w.heap.size w Y from
      ⟨g, nf φ0, rfl, by have := HGE.out; have := HB0.out.size; omega, HG.out, by
        have hIN := HIN.out
        rw [← HL3.out] at hIN
        exact HQ.out.done.least hIN, below_more HB0.out HBY2.out HB0.out.size⟩)
    go_wp2
    exact bodyPost_ret (v := .slice (some ⟨g, 0, none⟩) r r) (by simp [results, Tryz.results45, go_sem]) rfl HF.out
  case pos =>
  go_wp2
  go_loopw [8] (fun i ws => ∃ (c : Nat) (φ : Nat → Nat), c ≤ k ∧ i = .int .i64 c ∧ RowIs ws g 3 (iv (nf φ) k) ∧ JInv (SAdj T (I! bays)) k φ0 φ (SideP T (I! bays) c) ∧ Below W0.heap.size W0 ws) (fun i _ => k - (intOf i).toNat)
  case atStart => exact ⟨0, φ0, by omega, rfl, HG.out, (JInv.start HQ.out.sp).more (fun i j h => by obtain ⟨c, o, hc, -⟩ := h; omega), HBY2.out⟩
  case round =>
  clear HG HBY2
  obtain ⟨c, φ, hc, rfl, hrow, hj, hb⟩ := hrel
  obtain ⟨Z, rfl⟩ : ∃ X : World, X = wr := ⟨_, rfl⟩
  have HG := Lib.hid hrow
  have HJ := Lib.hid hj
  have HBZ := Lib.hid hb
  have hbox := HR0.out.after hb
  have c0 := hbox.cell (i := 0) rfl
  have c1 := hbox.cell (i := 1) rfl
  clear hrow hj hb hbox
  by_cases hcl : c < k
  case neg =>
    obtain rfl : c = k := by omega
    have HQ2 := Lib.hid (show QInv (SAdj T (I! bays)) c (r + 1) φ from by
      have hIN := HIN.out
      rw [← HL3.out] at hIN
      refine HQ.out.step hIN HSY.out (HJ.out.round HSY.out fun i j h => ?_)
      rw [HL3.out]
      exact SideP.all h)
    go_wp2
    go_roundw
    case rel => exact ⟨r + 1, φ, by omega, by go_num, HG.out, HQ2.out, HBZ.out⟩
    case measure => simp [intOf]; omega
  case pos =>
  have hcT : c < 3 * T.length := by rw [← HL3.out]; exact hcl
  have HOC := Lib.hid (HOPP.out c Z (by have := H3.out; omega) HBZ.out)
  have hol := opp_lt (T := T) (c : Int) (by omega) (by omega)
  obtain ⟨o, ho⟩ : ∃ o, o = opp T (c : Int) := ⟨_, rfl⟩
  rw [← ho] at HOC hol
  have HO := Lib.hid ho
  clear ho
  go_wp2_with fail
  refine HOC.out.mono ?_
  rintro e w5 ⟨rfl, hb5⟩
  have HB5 := Lib.hid (below_more HBZ.out hb5 HBZ.out.size)
  have HG5 := Lib.hid (HG.out.after hb5)
  clear hb5 c0 c1 HOC
  by_cases hneg : o < 0
  case pos =>
    have d0 : decide (o < 0) = true := by simpa using hneg
    have HJ2 := Lib.hid (HJ.out.more (Q := SideP T (I! bays) (c + 1)) fun i j h => by
      rcases h.step with h | ⟨o', ho', -⟩
      · exact h
      · rw [← HO.out] at ho'; omega)
    clear hneg
    go_wp2
    go_quiet (fail)
    go_wp2
    go_roundw
    case rel => exact ⟨c + 1, φ, by omega, by go_num, HG5.out.drew _, HJ2.out, HB5.out.trans ⟨rfl, rfl, rfl, Nat.le_refl _, fun _ _ => rfl⟩⟩
    case measure => simp [intOf]; omega
  case neg =>
  have d0 : decide (o < 0) = false := by simpa using hneg
  obtain ⟨oc, rfl⟩ := Int.eq_ofNat_of_zero_le (show 0 ≤ o by omega)
  obtain ⟨o3, ho3⟩ : ∃ y, y = oc / 3 := ⟨_, rfl⟩
  obtain ⟨c3, hc3⟩ : ∃ y, y = c / 3 := ⟨_, rfl⟩
  have hc3l : c3 < len := by have := H3.out; omega
  have ho3l : o3 < len := by have := HL.out; omega
  have hdc : (c : Int) / 3 = (c3 : Int) := by omega
  have hdo : (oc : Int) / 3 = (o3 : Int) := by omega
  have hoc3 : oc ≤ 3000 := by have := HL3.out; omega
  obtain ⟨bb, boff, x, hE, hx, hxc, -, -⟩ := HBY.out.get (Nat.le_refl _) HB5.out (i := c3) (by rw [HBL.out]; exact hc3l)
  subst hE
  obtain ⟨bb', boff', y, hE', hy, hyc, -, -⟩ := HBY.out.get (Nat.le_refl _) HB5.out (i := o3) (by rw [HBL.out]; exact ho3l)
  cases hE'
  have HX := Lib.hid (show I! bays (c / 3) = x from by rw [← hc3]; exact hx.out)
  have HY := Lib.hid (show I! bays (oc / 3) = y from by rw [← ho3]; exact hy.out)
  clear hneg ho3 hc3
  by_cases hxy : y = x
  case neg =>
    have d1 : (y != x) = true := by simpa using hxy
    have d2 : (y == x) = false := by simpa using hxy
    have HJ2 := Lib.hid (HJ.out.more (Q := SideP T (I! bays) (c + 1)) fun i j h => by
      rcases h.step with h | ⟨o', ho', hb', -⟩
      · exact h
      · rw [← HO.out] at ho'
        obtain rfl : o' = oc := by omega
        rw [HX.out, HY.out] at hb'
        exact absurd hb' hxy)
    clear hxy
    go_wp2
    go_quiet (fail)
    go_wp2
    go_roundw
    case rel => exact ⟨c + 1, φ, by omega, by go_num, HG5.out.drew _, HJ2.out, HB5.out.trans ⟨rfl, rfl, rfl, Nat.le_refl _, fun _ _ => rfl⟩⟩
    case measure => simp [intOf]; omega
  case pos =>
  subst hxy
  have d1 : (y != y) = false := by simp
  obtain ⟨hol', ha1, ha2⟩ := side_one HS.out (bay := I! bays) hcT HO.out.symm (by rw [HX.out, HY.out])
  have hol3 : oc < k := by rw [HL3.out]; exact hol'
  have hp1 : nxn c < k := by rw [HL3.out]; exact nxn_lt hcT
  have hp2 : pvn oc < k := by rw [HL3.out]; exact pvn_lt hol'
  have hp3 : pvn c < k := by rw [HL3.out]; exact pvn_lt hcT
  have hp4 : nxn oc < k := by rw [HL3.out]; exact nxn_lt hol'
  have HJ2 := Lib.hid (show JInv (SAdj T (I! bays)) k φ0 (joinF (joinF φ (nxn c) (pvn oc)) (pvn c) (nxn oc)) (SideP T (I! bays) (c + 1)) from
    ((HJ.out.join hp1 hp2 ha1 HSY.out).join hp3 hp4 ha2 HSY.out).more fun i j h => by
      rcases h.step with h | ⟨o', ho', -, h⟩
      · exact .inl (.inl h)
      · rw [← HO.out] at ho'
        obtain rfl : o' = oc := by omega
        rcases h with h | h | h | h
        · exact .inl (.inr (.inl h))
        · exact .inl (.inr (.inr h))
        · exact .inr (.inl h)
        · exact .inr (.inr h))
  obtain ⟨p1, hp1e⟩ : ∃ q, q = nxn c := ⟨_, rfl⟩
  obtain ⟨p2, hp2e⟩ : ∃ q, q = pvn oc := ⟨_, rfl⟩
  obtain ⟨p3, hp3e⟩ : ∃ q, q = pvn c := ⟨_, rfl⟩
  obtain ⟨p4, hp4e⟩ : ∃ q, q = nxn oc := ⟨_, rfl⟩
  have HN1 := Lib.hid (fun X : World => next15 c X (by omega))
  have HN2 := Lib.hid (fun X : World => prev15 oc X (by omega))
  have HN3 := Lib.hid (fun X : World => prev15 c X (by omega))
  have HN4 := Lib.hid (fun X : World => next15 oc X (by omega))
  rw [← hp1e] at hp1
  rw [← hp2e] at hp2
  rw [← hp3e] at hp3
  rw [← hp4e] at hp4
  simp only [← hp1e] at HN1
  simp only [← hp2e] at HN2
  simp only [← hp3e] at HN3
  simp only [← hp4e] at HN4
  rw [← hp1e, ← hp2e, ← hp3e, ← hp4e] at HJ2
  clear ha1 ha2 hol' hp1e hp2e hp3e hp4e
  go_wp2
  go_quiet (fail)
  generalize hW6 : w5.drewN _ = w6
  have hb6 : Below w5.heap.size w5 w6 := by rw [← hW6]; exact ⟨rfl, rfl, rfl, Nat.le_refl _, fun _ _ => rfl⟩
  have HB6 := Lib.hid (below_more HB5.out hb6 HB5.out.size)
  have HG6 := Lib.hid (HG5.out.after hb6)
  have HJC1 := Lib.hid (join40 w6 g k φ p1 p2 HG6.out hp1 hp2 (by omega))
  clear hW6 hb6 hxc hyc
  go_wp2_with fail
  refine (HN1.out _).mono ?_
  rintro e wN ⟨rfl, rfl⟩
  go_wp2_with fail
  refine (HN2.out _).mono ?_
  rintro e wN ⟨rfl, rfl⟩
  go_wp2_with fail
  refine HJC1.out.mono ?_
  rintro e w7 ⟨rfl, hr7, hg7⟩
  have HB7 := Lib.hid (HB6.out.grown hg7 HB6.out.size (fun q hq => by cases hq; have := HGE.out; omega))
  have HJC2 := Lib.hid (join40 w7 g k (joinF φ p1 p2) p3 p4 hr7 hp3 hp4 (by omega))
  clear hr7 hg7 HJC1
  go_wp2_with fail
  refine (HN3.out _).mono ?_
  rintro e wN ⟨rfl, rfl⟩
  go_wp2_with fail
  refine (HN4.out _).mono ?_
  rintro e wN ⟨rfl, rfl⟩
  go_wp2_with fail
  refine HJC2.out.mono ?_
  rintro e w8 ⟨rfl, hr8, hg8⟩
  have HB8 := Lib.hid (HB7.out.grown hg8 HB7.out.size (fun q hq => by cases hq; have := HGE.out; omega))
  have HG8 := Lib.hid hr8
  clear hr8 hg8 HJC2
  go_wp2
  go_roundw
  case rel => exact ⟨c + 1, _, by omega, by go_num, HG8.out, HJ2.out, HB8.out⟩
  case measure => simp [intOf]; omega
end Go.Proofs.YtknioobpoieohaaGreat

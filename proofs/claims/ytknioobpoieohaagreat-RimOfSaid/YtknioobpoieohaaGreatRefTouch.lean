/- gypsumref40.Touch of a surface with right bays. -/
import Derived.Test.YtknioobpoieohaaGreatTouchW
import Derived.Test.YtknioobpoieohaaGreatOppRef
namespace Go.Proofs.YtknioobpoieohaaGreat
set_option linter.unusedVariables false
set_option linter.unusedSimpArgs false
open Go.RowKit
/-- Do two bays touch at one of the first corners? -/
def tq (T : List Tr) (bays : List Int) (a b : Int) (k : Nat) : Bool := (List.range k).any fun c => decide (0 ≤ opp T (c : Int)) && decide (a ≠ b) && decide (cbay bays c = a) && decide (obay T bays c = b)
theorem tq_succ (T : List Tr) (bays : List Int) (a b : Int) (k : Nat) : tq T bays a b (k + 1) = (tq T bays a b k || (decide (0 ≤ opp T (k : Int)) && decide (a ≠ b) && decide (cbay bays k = a) && decide (obay T bays k = b))) := by simp [tq, List.range_succ]
theorem tq_done (T : List Tr) (bays : List Int) (a b : Int) : tq T bays a b (3 * T.length) = touchB T bays a b := rfl
/-- The first ones of those that touch one. -/
def tcN (T : List Tr) (bays : List Int) (a k : Nat) : List Nat := (List.range k).filter fun (b : Nat) => touchB T bays (a : Int) (b : Int)
theorem tcN_yes {T : List Tr} {bays : List Int} {a k : Nat} (h : touchB T bays (a : Int) (k : Int) = true) : tcN T bays a (k + 1) = tcN T bays a k ++ [k] := by simp [tcN, List.range_succ, h]
theorem tcN_no {T : List Tr} {bays : List Int} {a k : Nat} (h : touchB T bays (a : Int) (k : Int) = false) : tcN T bays a (k + 1) = tcN T bays a k := by simp [tcN, List.range_succ, h]
theorem tcN_le (T : List Tr) (bays : List Int) (a k : Nat) : (tcN T bays a k).length ≤ k := by
  have := List.length_filter_le (fun (b : Nat) => touchB T bays (a : Int) (b : Int)) (List.range k)
  simp [tcN] at *; omega
theorem tcN_done (T : List Tr) (bays : List Int) (a m : Nat) : (tcN T bays a m).map (fun (x : Nat) => (x : Int)) = touchL T bays m a := rfl
/-- The rows as far as they are laid: row a in the midst. -/
def rowsE (T : List Tr) (bays : List Int) (m a b i : Nat) : List Nat := if i < a then tcN T bays i m else if i = a then tcN T bays a b else []
theorem rowsE_push {T : List Tr} {bays : List Int} {m a b : Nat} (h : tcN T bays a (b + 1) = tcN T bays a b ++ [b]) : (fun i => if i = a then rowsE T bays m a b a ++ [b] else rowsE T bays m a b i) = rowsE T bays m a (b + 1) := by
  funext i
  unfold rowsE
  by_cases e : i = a
  · subst e; simp [h]
  · simp [e]
theorem rowsE_same {T : List Tr} {bays : List Int} {m a b : Nat} (h : tcN T bays a (b + 1) = tcN T bays a b) : rowsE T bays m a (b + 1) = rowsE T bays m a b := by
  funext i
  unfold rowsE
  rw [h]
theorem rowsE_next (T : List Tr) (bays : List Int) (m a : Nat) : rowsE T bays m a m = rowsE T bays m (a + 1) 0 := by
  funext i
  unfold rowsE
  by_cases e : i = a
  · subst e; simp
  · by_cases h : i < a
    · have : i < a + 1 := by omega
      simp [e, h, this]
    · have : ¬ i < a + 1 := by omega
      simp [e, h, this, tcN]
theorem rowsE_start (T : List Tr) (bays : List Int) (m : Nat) : rowsE T bays m 0 0 = fun _ => [] := by
  funext i
  unfold rowsE
  simp [tcN]
/-- A row is appended to: the others, and a row of another type, stand. -/
theorem fam_keep {ι : Type} {w w' : World} {base : Nat} {vs : ι → Value} {E : ι → List Nat} (h : Fam w base vs E) {b2 : Nat} {e2 : TypeId} {s2 n2 : Nat} {v2 : Value} {x2 : List Value} (h2 : w.ownsRow b2 e2 s2 v2 n2 x2) (hg : w.grownBy w' v2.ownBlock) (hne : 3 ≠ e2) : Fam w' base vs E :=
  ⟨fun i => (h.1 i).kept hg (own_other (h.1 i) h2 hne), h.2⟩
theorem fam_nil_at {ι : Type} [DecidableEq ι] {w : World} {base : Nat} {vs : ι → Value} {E : ι → List Nat} (h : Fam w base vs E) (a : ι) (he : E a = []) : Fam w base (fun i => if i = a then .slice none 0 0 else vs i) E := by
  refine ⟨fun i => ?_, fun i j hij => ?_⟩
  · by_cases e : i = a
    · subst e; simp [he]; exact World.ownsRow_nil _ _ _ _
    · simp only [e, if_false]; exact h.1 i
  · by_cases e : i = a
    · left; simp [e]; rfl
    · by_cases e2 : j = a
      · simp only [e, e2, if_false, if_true]
        cases ho : (vs i).ownBlock with
        | none => exact .inl rfl
        | some q => right; simp [Value.ownBlock]
      · simp only [e, e2, if_false]; exact h.2 i j hij
set_option maxRecDepth 100000 in
set_option maxHeartbeats 4000000 in
theorem reftouch40 (n : Nat) (ao : Option Addr) (cap : Nat) (T : List Tr) (bo : Option Addr) (bcap : Nat) (bays : List Int) (w : World) (hT : TrisAt w ao T) (hB : IntsAt w bo bays) (hs : Surf n T) (hok : BaysOK T.length bays) (hl : T.length ≤ 1000) :
    Calls Tryz.prog 27 #[.agg #[.int .i64 (n : Int), .slice ao T.length cap], .slice bo bays.length bcap] w fun e w' => ∃ a c, e = .returned (.slice a (mostN bays) c) ∧ MatAt w' a (mostN bays) (touchL T bays (mostN bays)) ∧ Below w.heap.size w w' := by
  obtain ⟨i0, hi, hz0, hz1, hz2⟩ := info_parts info3
  obtain ⟨j0, ki, kz0, kz1, kz2⟩ := info_parts info34'
  obtain ⟨W0, hW0⟩ : ∃ W0, W0 = w.alloc (.cells #[.int .i64 (n : Int), .slice ao T.length cap] 24) := ⟨_, rfl⟩
  have hb0 : Below w.heap.size w W0 := by rw [hW0]; exact (Below.refl _ _).alloc (Nat.le_refl _) _
  have hr0 : RowIs W0 w.heap.size 24 [.int .i64 (n : Int), .slice ao T.length cap] := by rw [hW0]; exact RowIs.made w 24 [.int .i64 (n : Int), .slice ao T.length cap]
  have hT0 := hT.mono (Nat.le_refl _) hb0
  have hB0 := hB.mono (Nat.le_refl _) hb0
  have HOPP := Lib.hid (show ∀ (c : Nat) (X : World), c < 3 * T.length → Below W0.heap.size W0 X → Calls Tryz.prog 57 #[.agg #[.int .i64 (n : Int), .slice ao T.length cap], .int .i64 (c : Int)] X fun e w' => e = .returned (.int .i64 (opp T (c : Nat))) ∧ Below X.heap.size X w' from fun c X hc hX => opp15 n ao cap T c X (hT0.mono (Nat.le_refl _) hX) hs hc)
  have HOL := Lib.hid (show ∀ c : Nat, c < 3 * T.length → opp T (c : Int) < 3 * T.length from fun c hc => opp_lt (c : Int) (by omega) (by omega))
  have HB0 := Lib.hid hb0
  have HR0 := Lib.hid hr0
  have HBY := Lib.hid hB0
  obtain ⟨len, hlen⟩ : ∃ l, l = T.length := ⟨_, rfl⟩
  have hbe : bays.length = T.length := hok.1
  rw [hbe]
  have HBL := Lib.hid (show bays.length = len from by rw [hlen]; exact hbe)
  have HOK := Lib.hid hok
  have HL := Lib.hid hlen
  rw [← hlen] at hW0 HR0 hl ⊢
  simp only [← hlen] at HOPP
  have HW0 := Lib.hid hW0
  obtain ⟨xb, hxb⟩ : ∃ x, x = w.heap.size := ⟨_, rfl⟩
  rw [← hxb] at HR0
  have HXB := Lib.hid hxb
  clear hT hB hT0 hB0 hb0 hr0 hW0 hlen hs hok hbe hxb
  -- the greatest bay
  obtain ⟨ms, hms, hmm⟩ : ∃ ms : Int, ms = (mostN bays : Int) - 1 ∧ ((len = 0 ∧ ms = -1) ∨ (0 < len ∧ ∃ mx : Nat, ms = mx ∧ Lib.maxOf bays = mx ∧ mx < 256)) := by
    by_cases h0 : bays = []
    · exact ⟨_, rfl, .inl ⟨by rw [← HBL.out, h0]; rfl, by simp [mostN, h0]⟩⟩
    · obtain ⟨h1, h2⟩ := maxOf_law h0
      have h3 := HOK.out.2 _ h1
      exact ⟨_, rfl, .inr ⟨by rw [← HBL.out]; exact List.length_pos_iff.2 h0, (Lib.maxOf bays).toNat, by unfold mostN; rw [if_neg h0]; omega, by omega, by omega⟩⟩
  go_enter Tryz.func27, Tryz.ntmps27
  go_upto_region 1 with fail
  rw [← HW0.out, ← HXB.out]
  go_wp2
  have HMS := Lib.hid hms
  have HMM := Lib.hid hmm
  clear hms hmm
  go_loopw [5, 6] (fun u i ws => ∃ (k : Nat) (mo : Int), k ≤ len ∧ u = .int .i64 mo ∧ i = .int .i64 k ∧ ((k = 0 ∧ mo = -1) ∨ (0 < k ∧ mo = Lib.maxOf (bays.take k))) ∧ ws = W0) (fun _ i _ => len - (intOf i).toNat)
  case atStart => exact ⟨0, -1, by omega, rfl, rfl, .inl ⟨rfl, rfl⟩, rfl⟩
  case round =>
  obtain ⟨k, mo, hk, rfl, rfl, hmo, rfl⟩ := hrel
  obtain ⟨W0, rfl⟩ : ∃ X : World, X = wr := ⟨_, rfl⟩
  have HMO := Lib.hid hmo
  clear hmo
  by_cases hkl : k < len
  case pos =>
    obtain ⟨bb, boff, q, hE, hq, hqc, -, -⟩ := HBY.out.get (Nat.le_refl _) (Below.refl _ _) (i := k) (by rw [HBL.out]; exact hkl)
    subst hE
    have HQ0 := Lib.hid (show 0 ≤ q from by
      have := (HOK.out.2 _ (I!_mem (xs := bays) (i := k) (by rw [HBL.out]; exact hkl))).1
      rw [hq.out] at this
      exact this)
    have HST := Lib.hid (show Lib.maxOf (bays.take (k + 1)) = max mo q from by
      rcases HMO.out with ⟨rfl, rfl⟩ | ⟨h0, rfl⟩
      · rw [Lib.maxOf_one]
        have h1 : bays.getD 0 0 = q := hq.out
        rw [h1]
        have := HQ0.out
        omega
      · have h1 : bays.getD k 0 = q := hq.out
        rw [Lib.maxOf_step bays k h0 (by rw [HBL.out]; exact hkl), h1])
    by_cases hgt : mo < q
    · have d0 : decide (mo < q) = true := by simpa using hgt
      have d1 : decide (q > mo) = true := by simpa using hgt
      have HN := Lib.hid (show q = Lib.maxOf (bays.take (k + 1)) from by rw [HST.out]; omega)
      clear hgt
      go_wp2
      go_roundw
      case rel => exact ⟨k + 1, q, by omega, rfl, by go_num, .inr ⟨by omega, HN.out⟩, by trivial⟩
      case measure => simp [intOf]; omega
    · have d0 : decide (mo < q) = false := by simpa using hgt
      have d1 : decide (q > mo) = false := by simpa using hgt
      have HN := Lib.hid (show mo = Lib.maxOf (bays.take (k + 1)) from by rw [HST.out]; omega)
      clear hgt
      go_wp2
      go_roundw
      case rel => exact ⟨k + 1, mo, by omega, rfl, by go_num, .inr ⟨by omega, HN.out⟩, by trivial⟩
      case measure => simp [intOf]; omega
  case neg =>
  obtain rfl : k = len := by omega
  obtain rfl : mo = ms := by
    rcases HMM.out with ⟨h0, h1⟩ | ⟨h0, mx, h1, h2, -⟩
    · rcases HMO.out with ⟨-, h3⟩ | ⟨h3, -⟩
      · omega
      · omega
    · rcases HMO.out with ⟨h3, -⟩ | ⟨-, h3⟩
      · omega
      · rw [h3, h1, ← h2, ← HBL.out, List.take_length]
  obtain ⟨m, hm⟩ : ∃ m, m = mostN bays := ⟨_, rfl⟩
  have hms : mo = (m : Int) - 1 := by rw [hm]; exact HMS.out
  have hm256 : m ≤ 256 := by
    rcases HMM.out with ⟨h0, h1⟩ | ⟨h0, mx, h1, h2, h3⟩ <;> omega
  have HM := Lib.hid hm
  have HMS2 := Lib.hid hms
  have HMO2 := Lib.hid (show ∀ a : Nat, a < m → ((a : Int) ≤ mo) from fun a ha => by omega)
  have HMO3 := Lib.hid (show ¬ ((m : Int) ≤ mo) from by omega)
  clear hm hms hkl hk HMO
  go_wp2
  go_loopw [7, 8] (fun u i ws => ∃ (a : Nat) (vs : Nat → Value), a ≤ m ∧ i = .int .i64 a ∧ ws.ownsRow W0.heap.size 26 1 u a ((List.range a).map vs) ∧ Fam ws W0.heap.size vs (rowsE T bays m a 0) ∧ Below W0.heap.size W0 ws) (fun _ i _ => m - (intOf i).toNat)
  case atStart => exact ⟨0, fun _ => .slice none 0 0, by omega, rfl, World.ownsRow_nil _ _ _ _, by rw [rowsE_start]; exact Fam.nil _ _, Below.refl _ _⟩
  case round =>
  obtain ⟨a, vs, ha, rfl, hown, hfam, hb⟩ := hrel
  obtain ⟨X, rfl⟩ : ∃ X : World, X = wr := ⟨_, rfl⟩
  obtain ⟨ua, uc, hue⟩ := owns_slice hown
  subst hue
  have HOW := Lib.hid hown
  have HF := Lib.hid hfam
  have HBX := Lib.hid hb
  clear hown hfam hb
  by_cases ham : a < m
  case neg =>
    obtain rfl : a = m := by omega
    have d0 : decide ((a : Int) ≤ mo) = false := by simpa using HMO3.out
    have HMT := Lib.hid (show MatAt X ua a (touchL T bays a) from fun h0 => by
      obtain ⟨g, cap', hv, -, hgl, -, -, hcell, -⟩ := owns_block HOW.out h0
      cases hv
      refine ⟨g, 0, rfl, hgl, fun i hi => ?_⟩
      have h1 := HF.out.1 i
      have h2 : rowsE T bays a a 0 i = tcN T bays i a := by simp [rowsE, hi]
      rw [h2] at h1
      obtain ⟨q, qc, hqv, hI⟩ := owns_ic (xs := (tcN T bays i a).map fun (x : Nat) => (x : Int)) (by rw [← nv_ic]; exact h1) (by simp)
      refine ⟨q, qc, ?_, hI⟩
      rw [Nat.zero_add, hcell i (vs i) (by simp [hi]), hqv, show (tcN T bays i a).length = (touchL T bays a i).length from by rw [← tcN_done]; simp])
    have HBF := Lib.hid (below_more HB0.out HBX.out HB0.out.size)
    have HFIN := Lib.hid (show ∃ a' c, (.returned (.slice ua a uc) : Ending) = .returned (.slice a' (mostN bays) c) ∧ MatAt X a' (mostN bays) (touchL T bays (mostN bays)) ∧ Below w.heap.size w X from ⟨ua, uc, by rw [← HM.out], by rw [← HM.out]; exact HMT.out, HBF.out⟩)
    go_wp2
    exact bodyPost_ret (v := .slice ua a uc) (by simp [results, Tryz.results27, go_sem]) rfl HFIN.out
  case pos =>
  have d0 : decide ((a : Int) ≤ mo) = true := by simpa using HMO2.out a ham
  have HF0 := Lib.hid (fam_nil_at HF.out a (by simp [rowsE, tcN]))
  have HL0 := Lib.hid (show (Value.slice none 0 0) = (fun i => if i = a then Value.slice none 0 0 else vs i) a from by simp)
  have HU0 := Lib.hid (show ∀ i, i < a → (fun i => if i = a then Value.slice none 0 0 else vs i) i = vs i from fun i hi => by
    have : i ≠ a := by omega
    simp [this])
  go_wp2
  go_loopw [9, 10] (fun l i ws => ∃ (b : Nat) (us : Nat → Value), b ≤ m ∧ i = .int .i64 b ∧ l = us a ∧ (∀ i, i < a → us i = vs i) ∧ ws.ownsRow W0.heap.size 26 1 (.slice ua a uc) a ((List.range a).map vs) ∧ Fam ws W0.heap.size us (rowsE T bays m a b) ∧ Below W0.heap.size W0 ws) (fun _ i _ => m - (intOf i).toNat)
  case atStart => exact ⟨0, _, by omega, rfl, (if_pos rfl).symm, HU0.out, HOW.out, HF0.out, HBX.out⟩
  case round =>
  clear HF0 HF HOW HBX
  obtain ⟨b, us, hbm, rfl, rfl, hus, hown, hfam, hb⟩ := hrel
  obtain ⟨Y, rfl⟩ : ∃ X : World, X = wr := ⟨_, rfl⟩
  have hEl : (rowsE T bays m a b a).length ≤ 256 := by have := tcN_le T bays a b; simp [rowsE]; omega
  have hfa := hfam.1 a
  obtain ⟨la, lc, hle⟩ := owns_slice hfa
  obtain ⟨lv, hlv⟩ : ∃ lv, lv = us a := ⟨_, rfl⟩
  rw [← hlv] at hfa hle ⊢
  have HLV := Lib.hid hlv
  have HUS := Lib.hid hus
  have HOW := Lib.hid hown
  have HF := Lib.hid hfam
  have HBX := Lib.hid hb
  have HFA := Lib.hid hfa
  clear hus hown hfam hb hfa hlv
  subst hle
  by_cases hbl : b < m
  case neg =>
    obtain rfl : b = m := by omega
    have d1 : decide ((b : Int) ≤ mo) = false := by simpa using HMO3.out
    have hY := HBX.out.size
    have HFN := Lib.hid (show Fam Y W0.heap.size us (rowsE T bays b (a + 1) 0) from by rw [← rowsE_next]; exact HF.out)
    have HMAP := Lib.hid (show (List.range a).map vs ++ [us a] = (List.range (a + 1)).map us from by
      rw [List.range_succ, List.map_append]
      congr 1
      exact List.map_congr_left fun i hi => (HUS.out i (List.mem_range.1 hi)).symm)
    go_wp2_with (at_builtin; refine wpList_append_new _ rfl _ _ 56 rfl W0.heap.size 26 j0 _ 1 24 (by kernel_rfl) ki kz0 kz1 kz2 rfl (by decide) _ _ _ rfl HOW.out _ _ _ rfl (by first | rfl | simp) rfl ?_ ?_ ?_ ?_ ?_)
    all_goals first | rfl | (simp; omega) | omega | (unfold maxLen; omega) | exact ⟨rfl, rfl⟩ | exact ⟨rfl, rfl, rfl⟩ | skip
    · intro v' w5 hown5 hbel hgr
      have HW5 := Lib.hid (show w5.ownsRow W0.heap.size 26 1 v' (a + 1) ((List.range (a + 1)).map us) from by
        rw [← HMAP.out, ← HLV.out]
        exact hown5)
      have HF5 := Lib.hid (fam_keep (HFN.out.more ((Below.refl _ _).alloc (Nat.le_refl _) _)) (HOW.out.alloc _) hgr (by decide))
      have HB5 := Lib.hid (hbel W0.heap.size _ (Nat.le_refl _) HBX.out)
      clear hown5 hbel hgr
      go_wp2
      go_roundw
      case rel => exact ⟨a + 1, us, by omega, by go_num, HW5.out, HF5.out, HB5.out⟩
      case measure => simp [intOf]; omega
  case pos =>
  have d1 : decide ((b : Int) ≤ mo) = true := by simpa using HMO2.out b hbl
  obtain ⟨l3, hl3⟩ : ∃ q, q = 3 * k := ⟨_, rfl⟩
  have h3l : (3 : Int) * (k : Int) = (l3 : Int) := by omega
  have HL3 := Lib.hid (show l3 = 3 * T.length from by rw [hl3, HL.out])
  have hl3b : l3 ≤ 3000 := by omega
  clear hl3
  go_wp2
  go_loopw [11, 12] (fun u i ws => ∃ (c : Nat), c ≤ l3 ∧ i = .int .i64 c ∧ u = .bool (tq T bays (a : Int) (b : Int) c) ∧ Below Y.heap.size Y ws) (fun _ i _ => l3 - (intOf i).toNat)
  case atStart => exact ⟨0, by omega, rfl, rfl, Below.refl _ _⟩
  case round =>
  obtain ⟨c, hc, rfl, rfl, hb⟩ := hrel
  obtain ⟨Z, rfl⟩ : ∃ X : World, X = wr := ⟨_, rfl⟩
  have HBZ := Lib.hid (below_more HBX.out hb HBX.out.size)
  have HZ := Lib.hid hb
  have hbox := HR0.out.after HBZ.out
  have c0 := hbox.cell (i := 0) rfl
  have c1 := hbox.cell (i := 1) rfl
  clear hb hbox
  by_cases hcl : c < l3
  case neg =>
    obtain rfl : c = l3 := by omega
    have HFZ := Lib.hid (HF.out.more HZ.out)
    have HOZ := Lib.hid (owns_below HOW.out HZ.out)
    cases htb : touchB T bays (a : Int) (b : Int)
    · have hq : tq T bays (a : Int) (b : Int) c = false := by rw [HL3.out, tq_done, htb]
      have HRS := Lib.hid (rowsE_same (m := m) (tcN_no htb))
      rw [hq]
      clear hq htb
      go_wp2
      go_roundw
      case rel => exact ⟨b + 1, us, by omega, by go_num, HLV.out, HUS.out, HOZ.out, by rw [HRS.out]; exact HFZ.out, HBZ.out⟩
      case measure => simp [intOf]; omega
    · have hq : tq T bays (a : Int) (b : Int) c = true := by rw [HL3.out, tq_done, htb]
      have HRS := Lib.hid (rowsE_push (m := m) (tcN_yes htb))
      have HFAZ := Lib.hid (owns_below HFA.out HZ.out)
      have hZs := HBZ.out.size
      rw [hq]
      clear hq htb
      go_wp2_with (at_builtin; refine wpList_append_own_at _ rfl _ _ 26 rfl W0.heap.size 3 i0 (.int .i64 0) 1 8 (by kernel_rfl) hi hz0 hz1 hz2 rfl (by decide) _ _ _ rfl (HFAZ.out.alloc _) ⟨Z.heap.size, 0, none⟩ 1 1 [.int .i64 (b : Int)] rfl rfl ?c1 ?c2 ?c3 ?c4 ?c5 ?_)
      case c1 => exact cell_one_new _ _ _
      case c2 => intro u hu; simp at hu; subst hu; rfl
      case c3 => unfold maxLen; omega
      case c4 => omega
      case c5 => simp; omega
      intro v' w3 hown3 hg3 _ hat3
      have hal : Below Z.heap.size Z (Z.alloc (.cells #[.int .i64 (b : Int)] 3)) := (Below.refl _ _).alloc (Nat.le_refl _) _
      have hf3 := (HFZ.out.more hal).push a b v' (by exact hown3) (by rw [← HLV.out]; exact hg3) (by
        rw [← HLV.out]
        rcases hat3 with h | h
        · exact .inl h
        · exact .inr ⟨Z.heap.size + 1, by simp, h⟩)
      have HO3 := Lib.hid ((HOZ.out.alloc (.cells #[.int .i64 (b : Int)] 3)).kept hg3 (own_other (HOZ.out.alloc (.cells #[.int .i64 (b : Int)] 3)) (HFAZ.out.alloc (.cells #[.int .i64 (b : Int)] 3)) (by decide)))
      have HB3 := Lib.hid ((HBZ.out.alloc hZs (.cells #[.int .i64 (b : Int)] 3)).grown hg3 (by simp; omega) (fun q hq => (HFAZ.out.lt q hq).1))
      rw [HRS.out] at hf3
      have HF3 := Lib.hid hf3
      have HU3 := Lib.hid (show ∀ i, i < a → (if i = a then v' else us i) = vs i from fun i hi => by rw [if_neg (by omega)]; exact HUS.out i hi)
      obtain ⟨xa, xc, hxe⟩ := owns_slice hown3
      subst hxe
      clear hown3 hg3 hat3 hf3 hal
      go_wp2
      go_roundw
      case rel => exact ⟨b + 1, _, by omega, by go_num, by simp, HU3.out, HO3.out, HF3.out, HB3.out⟩
      case measure => simp [intOf]; omega
  case pos =>
  have hcT : c < 3 * T.length := by rw [← HL3.out]; exact hcl
  have HOC := Lib.hid (HOPP.out c Z (by have := HL.out; omega) HBZ.out)
  have hol := HOL.out c hcT
  have HTS := Lib.hid (tq_succ T bays (a : Int) (b : Int) c)
  obtain ⟨o, ho⟩ : ∃ o, o = opp T (c : Int) := ⟨_, rfl⟩
  rw [← ho] at HOC hol HTS
  have HO := Lib.hid ho
  obtain ⟨t0, ht0⟩ : ∃ t0, t0 = tq T bays (a : Int) (b : Int) c := ⟨_, rfl⟩
  rw [← ht0] at HTS ⊢
  clear ho ht0
  go_wp2_with fail
  refine HOC.out.mono ?_
  rintro e w5 ⟨rfl, hb5⟩
  have HB5 := Lib.hid (below_more HZ.out hb5 HZ.out.size)
  have HB05 := Lib.hid (below_more HBX.out HB5.out HBX.out.size)
  clear hb5 c0 c1 HOC
  obtain ⟨o3, ho3⟩ : ∃ y, y = o.toNat / 3 := ⟨_, rfl⟩
  obtain ⟨c3, hc3⟩ : ∃ y, y = c / 3 := ⟨_, rfl⟩
  have hc3l : c3 < k := by have := HL.out; omega
  have hdc : (c : Int) / 3 = (c3 : Int) := by omega
  obtain ⟨bb, boff, x, hE, hx, hxc, -, -⟩ := HBY.out.get (Nat.le_refl _) HB05.out (i := c3) (by rw [HBL.out]; exact hc3l)
  subst hE
  have HCB := Lib.hid (show cbay bays c = x from by unfold cbay; rw [← hc3]; exact hx.out)
  cases t0
  case true =>
    have hn : tq T bays (a : Int) (b : Int) (c + 1) = true := by rw [HTS.out]; rfl
    have HN := Lib.hid hn
    clear hn hdc ho3 hc3
    go_wp2
    go_roundw
    case rel => exact ⟨c + 1, by omega, by go_num, by rw [HN.out], HB5.out⟩
    case measure => simp [intOf]; omega
  case false =>
  rw [Bool.false_or] at HTS
  by_cases hneg : o < 0
  case pos =>
    have d2 : decide (o ≥ 0) = false := by simp; omega
    have d3 : decide (0 ≤ o) = false := by simp; omega
    have HN := Lib.hid (show tq T bays (a : Int) (b : Int) (c + 1) = false from by rw [HTS.out, d3]; rfl)
    clear hdc ho3 hc3 hneg
    go_wp2
    go_roundw
    case rel => exact ⟨c + 1, by omega, by go_num, by rw [HN.out], HB5.out⟩
    case measure => simp [intOf]; omega
  case neg =>
  obtain ⟨oc, rfl⟩ := Int.eq_ofNat_of_zero_le (show 0 ≤ o by omega)
  have d2 : decide ((oc : Int) ≥ 0) = true := by simp
  have d3 : decide (0 ≤ (oc : Int)) = true := by simp
  have hoc : oc / 3 = o3 := by rw [ho3]; simp
  have ho3l : o3 < k := by have := HL.out; omega
  have hdo : (oc : Int) / 3 = (o3 : Int) := by omega
  obtain ⟨bb', boff', y, hE', hy, hyc, -, -⟩ := HBY.out.get (Nat.le_refl _) HB05.out (i := o3) (by rw [HBL.out]; exact ho3l)
  cases hE'
  have HOB := Lib.hid (show obay T bays c = y from by
    unfold obay
    rw [← HO.out, ← ho3]
    exact hy.out)
  rw [HCB.out, HOB.out, d3, Bool.true_and] at HTS
  clear ho3 hc3 hneg hoc
  by_cases hab : a = b
  · have d4 : ((a : Int) != (b : Int)) = false := by simp; omega
    have d4' : (a != b) = false := by simpa using hab
    have HN := Lib.hid (show tq T bays (a : Int) (b : Int) (c + 1) = false from by rw [HTS.out]; simp; omega)
    clear hab
    go_wp2
    go_roundw
    case rel => exact ⟨c + 1, by omega, by go_num, by rw [HN.out], HB5.out⟩
    case measure => simp [intOf]; omega
  · have d4 : ((a : Int) != (b : Int)) = true := by simp; omega
    have d4' : (a != b) = true := by simpa using hab
    have hab' : (a : Int) ≠ (b : Int) := by omega
    by_cases hxa : x = (a : Int)
    · have d5 : (x == (a : Int)) = true := by simpa using hxa
      obtain ⟨g, hg⟩ : ∃ g, (y == (b : Int)) = g := ⟨_, rfl⟩
      have HN := Lib.hid (show tq T bays (a : Int) (b : Int) (c + 1) = g from by
        rw [HTS.out, ← hg]
        by_cases hyb : y = (b : Int)
        · simp [hxa, hyb]; omega
        · simp [hxa, hyb])
      clear hab hxa hab'
      go_wp2
      go_roundw
      case rel => exact ⟨c + 1, by omega, by go_num, by rw [HN.out], HB5.out⟩
      case measure => simp [intOf]; omega
    · have d5 : (x == (a : Int)) = false := by simpa using hxa
      have HN := Lib.hid (show tq T bays (a : Int) (b : Int) (c + 1) = false from by rw [HTS.out]; simp [hxa])
      clear hab hxa hab'
      go_wp2
      go_roundw
      case rel => exact ⟨c + 1, by omega, by go_num, by rw [HN.out], HB5.out⟩
      case measure => simp [intOf]; omega
end Go.Proofs.YtknioobpoieohaaGreat

/- gypsumlaw40.awake. -/
import Derived.Test.YtfbpjlfimmjieaaGreatLocAt
import Derived.Test.YtfbpjlfimmjieaaGreatIntsDef
import Derived.Deep.RegionHeld3
import Derived.Deep.DeepCutAuto
import Derived.Test.YtfbpjlfimmjieaaGreatInts08
namespace Go.Proofs.YtfbpjlfimmjieaaGreat
set_option linter.unusedVariables false
set_option linter.unusedSimpArgs false
open Go.RowKit
def sqBays : List Int := [0, 1, 0, 1]
def sqP : List Tr := [(0, 0, 0), (0, 0, 0), (0, 0, 0), (0, 0, 0), (0, 0, 0)]
theorem sq_bays : BaysOK squareT.length sqBays := ⟨rfl, by unfold sqBays; simp⟩
theorem sq_surf : Surf 5 squareT := by
  have hg : ∀ i k, i < 4 → k < 3 → vxOK 5 (T! squareT i) k := by
    intro i k hi hk
    rcases (show i = 0 ∨ i = 1 ∨ i = 2 ∨ i = 3 by omega) with rfl | rfl | rfl | rfl <;> rcases (show k = 0 ∨ k = 1 ∨ k = 2 by omega) with rfl | rfl | rfl <;> refine ⟨?_, ?_, ?_⟩ <;> decide
  have h2 : ∀ i k, i < 4 → k < i → twoOK (T! squareT i) (T! squareT k) := by
    intro i k hi hk
    refine ⟨fun x y hx hy => ?_, ?_⟩
    · rcases (show (i = 1 ∧ k = 0) ∨ (i = 2 ∧ k = 0) ∨ (i = 2 ∧ k = 1) ∨ (i = 3 ∧ k = 0) ∨ (i = 3 ∧ k = 1) ∨ (i = 3 ∧ k = 2) by omega) with ⟨rfl, rfl⟩ | ⟨rfl, rfl⟩ | ⟨rfl, rfl⟩ | ⟨rfl, rfl⟩ | ⟨rfl, rfl⟩ | ⟨rfl, rfl⟩ <;> rcases (show x = 0 ∨ x = 1 ∨ x = 2 by omega) with rfl | rfl | rfl <;> rcases (show y = 0 ∨ y = 1 ∨ y = 2 by omega) with rfl | rfl | rfl <;> decide
    · rcases (show (i = 1 ∧ k = 0) ∨ (i = 2 ∧ k = 0) ∨ (i = 2 ∧ k = 1) ∨ (i = 3 ∧ k = 0) ∨ (i = 3 ∧ k = 1) ∨ (i = 3 ∧ k = 2) by omega) with ⟨rfl, rfl⟩ | ⟨rfl, rfl⟩ | ⟨rfl, rfl⟩ | ⟨rfl, rfl⟩ | ⟨rfl, rfl⟩ | ⟨rfl, rfl⟩ <;> decide
  refine Surf.of_is (by decide) (by decide) (by decide) hg h2 fun v hv => ?_
  have cn : ∀ i k, i < 4 → k < 4 → hasB (T! squareT i) v = true → hasB (T! squareT k) v = true → besB (T! squareT i) (T! squareT k) = true → Conn (BAdj squareT v) i k := fun i k hi hk a b c => (Conn.refl i).step ⟨hi, hk, a, b, c⟩
  rcases (show v = 0 ∨ v = 1 ∨ v = 2 ∨ v = 3 ∨ v = 4 by omega) with rfl | rfl | rfl | rfl | rfl
  all_goals
    refine ⟨by decide, fun i k hi hk a b => ?_⟩
    rcases (show i = 0 ∨ i = 1 ∨ i = 2 ∨ i = 3 by simp [squareT] at hi; omega) with rfl | rfl | rfl | rfl <;> rcases (show k = 0 ∨ k = 1 ∨ k = 2 ∨ k = 3 by simp [squareT] at hk; omega) with rfl | rfl | rfl | rfl <;>
      first
      | exact .refl _
      | (exfalso; revert a b; decide)
      | exact cn _ _ (by decide) (by decide) a b (by decide)
      | exact ((Conn.refl _).step ⟨by decide, by decide, a, by decide, by decide⟩ : Conn (BAdj squareT _) _ 1).step ⟨by decide, by decide, by decide, b, by decide⟩
      | exact ((Conn.refl _).step ⟨by decide, by decide, a, by decide, by decide⟩ : Conn (BAdj squareT _) _ 0).step ⟨by decide, by decide, by decide, b, by decide⟩
      | exact ((Conn.refl _).step ⟨by decide, by decide, a, by decide, by decide⟩ : Conn (BAdj squareT _) _ 2).step ⟨by decide, by decide, by decide, b, by decide⟩
theorem sq_rim : rimL squareT sqBays 5 = [0, 1, 2, 3, 4] := by decide
theorem sq_none (x y : Nat) : ¬ SAdj squareT (I! sqBays) x y := by
  rintro ⟨hx, hy, hb, o, h⟩
  have key : ∀ x, x < 12 → (opp squareT (nxn x : Int) < 0 ∨ I! sqBays (nxn (opp squareT (nxn x : Int)).toNat / 3) ≠ I! sqBays (x / 3)) ∧ (opp squareT (pvn x : Int) < 0 ∨ I! sqBays (pvn (opp squareT (pvn x : Int)).toNat / 3) ≠ I! sqBays (x / 3)) := by decide
  obtain ⟨k1, k2⟩ := key x hx
  rcases h with ⟨e, rfl⟩ | ⟨e, rfl⟩
  · rcases k1 with k | k
    · omega
    · rw [e] at k
      exact k hb
  · rcases k2 with k | k
    · omega
    · rw [e] at k
      exact k hb
theorem sq_label {L : Nat → Int} (h : IsLeast (SAdj squareT (I! sqBays)) (3 * squareT.length) L) {c : Nat} (hc : c < 12) : L c = c := by
  have key : ∀ {i j}, Conn (SAdj squareT (I! sqBays)) i j → i = j := fun c => by
    induction c with
    | refl => rfl
    | step _ s _ => exact absurd s (sq_none _ _)
    | back _ s _ => exact absurd s (sq_none _ _)
  have := key (h.con c hc)
  have := h.nonneg c hc
  omega
theorem sq_cut {L : Nat → Int} {F : List Nat} (h : CutIs squareT sqBays 0 L F) : F = [0, 1, 6, 7, 2, 8] := by
  have hr : reps sqBays 0 L (3 * squareT.length) = [0, 1, 2, 6, 7, 8] := by
    have e : reps sqBays 0 L (3 * squareT.length) = (List.range 12).filter fun c => decide (I! sqBays (c / 3) = 0) := by
      unfold reps
      refine List.filter_congr fun c hc => ?_
      have := sq_label h.least (List.mem_range.1 hc)
      simp [this]
    rw [e]; decide
  have hp := h.perm
  rw [hr] at hp
  have hvt : ∀ c ∈ F, vtx squareT c = [0, 1, 4, 1, 2, 4, 2, 3, 4, 3, 0, 4].getD c 0 := fun c hc => by
    have hm := hp.mem_iff.1 hc
    simp only [List.mem_cons, List.not_mem_nil, or_false] at hm
    rcases hm with rfl | rfl | rfl | rfl | rfl | rfl <;> decide
  refine List.Perm.eq_of_pairwise (le := fun a b => ¬ ltC squareT b a) (fun a b ha hb h1 h2 => ?_) h.sorted ?_ (hp.trans (by decide))
  · unfold ltC at h1 h2
    have : vtx squareT a = vtx squareT b := by omega
    omega
  · have hd : ∀ a, a < 9 → ∀ b, b < 9 → (ltC squareT a b ↔ vtx squareT a < vtx squareT b ∨ vtx squareT a = vtx squareT b ∧ a < b) := fun _ _ _ _ => Iff.rfl
    simp only [ltC]
    decide
theorem sq_cutV {L : Nat → Int} {F : List Nat} (h : CutIs squareT sqBays 0 L F) : F.length = 6 ∧ cutV squareT F = [0, 1, 2, 3, 4, 4] := by
  rw [sq_cut h]
  exact ⟨rfl, by decide⟩
theorem sqBays_at {X : World} {b : Nat} {e : TypeId} (h : RowIs X b e [.int .i64 0, .int .i64 1, .int .i64 0, .int .i64 1]) : IntsAt X (some ⟨b, 0, none⟩) sqBays := fun _ => ⟨b, 0, rfl, h.lt, fun i hi => by
  rw [Nat.zero_add]
  refine h.cell ?_
  simp [sqBays] at hi
  rcases (show i = 0 ∨ i = 1 ∨ i = 2 ∨ i = 3 by omega) with rfl | rfl | rfl | rfl <;> rfl⟩
theorem sqP_at {X : World} {b : Nat} {e : TypeId} (h : RowIs X b e [.int .i64 0, .int .i64 0, .int .i64 0, .int .i64 0, .int .i64 0, .int .i64 0, .int .i64 0, .int .i64 0, .int .i64 0, .int .i64 0, .int .i64 0, .int .i64 0, .int .i64 0, .int .i64 0, .int .i64 0]) : TrisAt X (some ⟨b, 0, none⟩) sqP := fun _ => ⟨b, 0, rfl, h.lt, fun i hi => by
  simp only [Nat.zero_add]
  simp [sqP] at hi
  rcases (show i = 0 ∨ i = 1 ∨ i = 2 ∨ i = 3 ∨ i = 4 by omega) with rfl | rfl | rfl | rfl | rfl <;> exact ⟨h.cell rfl, h.cell rfl, h.cell rfl⟩⟩
set_option maxRecDepth 100000 in
theorem make_pts (X : World) : (Instr.makeSlice 59 (.int .i64 5) (.int .i64 5)).run Tryz.prog X = .ok (.slice (some ⟨X.heap.size, 0, none⟩) 5 5) (X.alloc (.cells #[.int .i64 0, .int .i64 0, .int .i64 0, .int .i64 0, .int .i64 0, .int .i64 0, .int .i64 0, .int .i64 0, .int .i64 0, .int .i64 0, .int .i64 0, .int .i64 0, .int .i64 0, .int .i64 0, .int .i64 0] 108)) := by
  obtain ⟨i, hi, hz0, hz1, hz2⟩ := info_parts infoPt0
  have hr := run_make (P := Tryz.prog) X 59 108 i _ rfl hi hz0 .i64 .i64 5 5 (by omega) (Int.le_refl _) (by rw [hz2]; decide) (by omega)
  rw [hz1, show madeCells (Value.agg #[.int .i64 0, .int .i64 0, .int .i64 0]).cells (Int.toNat 5 * 3) = #[.int .i64 0, .int .i64 0, .int .i64 0, .int .i64 0, .int .i64 0, .int .i64 0, .int .i64 0, .int .i64 0, .int .i64 0, .int .i64 0, .int .i64 0, .int .i64 0, .int .i64 0, .int .i64 0, .int .i64 0] from by kernel_rfl] at hr
  exact hr
theorem lit_ints (X : World) (e : TypeId) (xs : List Int) : IntsAt (X.alloc (.cells (xs.map (.int .i64)).toArray e)) (some ⟨X.heap.size, 0, none⟩) xs := fun _ => ⟨_, _, rfl, by simp, fun i hi => by
  rw [Nat.zero_add]
  refine (RowIs.made X e (xs.map (.int .i64))).cell ?_
  rw [List.getElem?_map, List.getElem?_eq_getElem hi]
  simp [I!, List.getElem?_eq_getElem hi]⟩
theorem bel_step {w a b : World} (h : Below w.heap.size w a) (k : Below a.heap.size a b) : Below w.heap.size w b := below_more h k h.size
set_option maxRecDepth 100000 in
set_option maxHeartbeats 4000000 in
theorem awake40 (w : World) : Calls Tryz.prog 35 #[] w fun e w' => e = .returned (.bool true) ∧ Below w.heap.size w w' := by
  have HSQ := Lib.hid (fun X => square40 X)
  have HOF := Lib.hid (show ∀ X a b c, TrisAt X a squareT → IntsAt X b sqBays → Calls Tryz.prog 72 #[.agg #[.int .i64 5, .slice a 4 4], .slice b 4 c] X fun e w' => ∃ a c, e = .returned (.tuple #[.slice a 5 c, .int .i64 0]) ∧ IntsAt w' a [0, 1, 2, 3, 4] ∧ Below X.heap.size X w' from fun X a b c h1 h2 => by
    have := of40_ok 5 a 4 squareT b c sqBays X h1 h2 sq_surf sq_bays
    rw [sq_rim] at this
    exact this)
  have HCUT := Lib.hid (show ∀ X a b c po, TrisAt X a squareT → IntsAt X b sqBays → TrisAt X po sqP → Calls Tryz.prog 37 #[.agg #[.int .i64 5, .slice a 4 4, .slice po 5 5, .slice none 0 0], .slice b 4 c, .int .i64 0] X fun e w' => ∃ (T P : List Tr) (K R : List Int) (a1 a2 a3 a4 a5 : Option Addr) (c1 c2 c3 c4 c5 l1 l2 l3 l4 l5 : Nat), e = .returned (.tuple #[.agg #[.int .i64 6, .slice a1 l1 c1, .slice a2 l2 c2, .slice a3 l3 c3, .slice a4 l4 c4, .slice a5 l5 c5], .int .i64 0]) ∧ Hid (K.length ≠ 1 ∧ R.length ≠ 1 ∧ l1 = T.length ∧ TrisAt w' a1 T ∧ l2 = P.length ∧ TrisAt w' a2 P ∧ l3 = K.length ∧ IntsAt w' a3 K ∧ l4 = 6 ∧ IntsAt w' a4 [0, 1, 2, 3, 4, 4] ∧ l5 = R.length ∧ IntsAt w' a5 R) ∧ Below X.heap.size X w' from fun X a b c po h1 h2 h3 => by
    have := cut_ok 5 a 4 squareT po 5 sqP none 0 [] b c sqBays 0 X h1 h3 (fun h => absurd rfl h) h2 sq_surf sq_bays rfl (.inl rfl) (Nat.le_refl _)
    refine this.mono fun e w' ⟨hc, hb⟩ => ?_
    obtain ⟨-, L, F, a1, a2, a3, a4, a5, c1, c2, c3, c4, c5, l1, l2, l3, l4, l5, hcut, he, -, hh⟩ := hc.resolve_left (fun h => h.1 (by decide))
    obtain ⟨f1, f2⟩ := sq_cutV hcut
    rw [f2] at hh
    rw [f1] at he
    exact ⟨_, _, _, _, a1, a2, a3, a4, a5, c1, c2, c3, c4, c5, l1, l2, l3, l4, l5, he, Lib.hid ⟨cutK_not1 _ _ _ _, by unfold cutR; simp [f1], hh⟩, hb⟩)
  go_enter Tryz.func35, Tryz.ntmps35
  go_wp2_with fail
  refine (HSQ.out _).mono ?_
  rintro e w1 ⟨a1, rfl, ht1, hb1⟩
  obtain ⟨W2, hW2⟩ : ∃ W2, W2 = w1.alloc (.cells #[.int .i64 0, .int .i64 1, .int .i64 0, .int .i64 1] 3) := ⟨_, rfl⟩
  have hb12 : Below w1.heap.size w1 W2 := by rw [hW2]; exact (Below.refl _ _).alloc (Nat.le_refl _) _
  have HB2 := Lib.hid (below_more hb1 hb12 hb1.size)
  have HO := Lib.hid (HOF.out W2 a1 (some ⟨w1.heap.size, 0, none⟩) 4 (ht1.mono (Nat.le_refl _) hb12) (sqBays_at (e := 3) (by rw [hW2]; exact RowIs.made w1 3 [.int .i64 0, .int .i64 1, .int .i64 0, .int .i64 1])))
  have HW2 := Lib.hid hW2
  clear hW2 ht1 hb1 hb12
  go_wp2_with (go_at_call 72; rw [← HW2.out]; refine HO.out.mono ?_; rintro e w3 ⟨aL, cL, rfl, hL, hb3⟩)
  have HL := Lib.hid hL
  have HB3 := Lib.hid (below_more HB2.out hb3 HB2.out.size)
  clear hL hb3
  go_upto_region 2 with fail
  have hmk := make_pts
  have hbel3 : Below w3.heap.size w3 w3 := Below.refl _ _
  go_cut [3, 4] (fun s3 s4 wc => ∃ (lb : Nat) (T P : List Tr) (K R : List Int), s3 = .pointer (some ⟨lb, 0, none⟩) ∧ s4 = .int .i64 0 ∧ LocAt wc 0 lb 6 T P K [0, 1, 2, 3, 4, 4] R ∧ Below w3.heap.size w3 wc)
  case first =>
    go_region_held3 (fun _ => True) (exact trivial) (first | (go_at_call 73; (with_reducible refine (HSQ.out _).mono ?_); rintro e wA ⟨aA, rfl, hA, hbA⟩; (try (have hY := RowIs.after (show RowIs _ _ 63 [.int .i64 0, .slice none 0 0, .slice none 0 0, .slice none 0 0, .slice none 0 0, .slice none 0 0] from by (repeat (first | exact RowIs.made' _ _ _ _ (by first | rfl | simp) | with_reducible apply RowIs.drew1 | with_reducible apply RowIs.alloc))) hbA))) | (go_at_call 37; (with_reducible refine (HCUT.out _ _ _ _ _ (by (repeat (first | exact hA | with_reducible apply tris_drew | with_reducible apply tris_alloc))) (sqBays_at (e := 3) (by (repeat (first | exact RowIs.made' _ _ _ _ (by first | rfl | simp) | with_reducible apply RowIs.drew1 | with_reducible apply RowIs.alloc | (with_reducible refine RowIs.after ?_ hbA))))) (sqP_at (e := 108) (by (repeat (first | exact RowIs.made' _ _ _ _ (by first | rfl | simp) | with_reducible apply RowIs.drew1 | with_reducible apply RowIs.alloc | (with_reducible refine RowIs.after ?_ hbA)))))).mono ?_); rintro e wB ⟨T1, P1, K1, R1, d1, d2, d3, d4, d5, n1, n2, n3, n4, n5, m1, m2, m3, m4, m5, rfl, hV, hbB⟩; (try (have hZ := RowIs.after (show RowIs _ _ 63 [.int .i64 0, .slice none 0 0, .slice none 0 0, .slice none 0 0, .slice none 0 0, .slice none 0 0] from by (repeat (first | exact hY | exact RowIs.made' _ _ _ _ (by first | rfl | simp) | with_reducible apply RowIs.drew1 | with_reducible apply RowIs.alloc))) hbB; (try simp only [World.size_alloc] at hZ); have q0 := hZ.cell (i := 0) rfl; have q1 := hZ.cell (i := 1) rfl; have q2 := hZ.cell (i := 2) rfl; have q3 := hZ.cell (i := 3) rfl; have q4 := hZ.cell (i := 4) rfl; have q5 := hZ.cell (i := 5) rfl; have qf0 := hZ.free 0; have qf1 := hZ.free 1; have qf2 := hZ.free 2; have qf3 := hZ.free 3; have qf4 := hZ.free 4; have qf5 := hZ.free 5; try simp only [World.size_alloc] at q0 q1 q2 q3 q4 q5 qf0 qf1 qf2 qf3 qf4 qf5))))
    all_goals
      go_wp2
      go_meet
      obtain ⟨nK, nR, e1, h1, e2, h2, e3, h3, e4', h4, e5, h5⟩ := hV.out
      have e4 : m4 = ([0, 1, 2, 3, 4, 4] : List Int).length := e4'
      have nV : ([0, 1, 2, 3, 4, 4] : List Int).length ≠ 1 := by decide
      try (have hZ' : RowIs _ _ _ zrow := hZ)
      first
      | with_reducible exact ⟨_, T1, P1, K1, R1, rfl, rfl, loc_alloc new5 e1 h1 e2 h2 e3 h3 e4 h4 e5 h5, by repeat (first | with_reducible exact Below.refl _ _ | with_reducible apply bel_alloc | with_reducible apply bel_drew | (with_reducible refine bel_step ?_ hbB) | (with_reducible refine bel_step ?_ hbA))⟩
      | with_reducible exact ⟨_, T1, P1, K1, R1, rfl, rfl, loc_store hZ' new5 e1 h1 e2 h2 e3 h3 e4 h4 e5 h5 nK nV nR, set6_below (by repeat (first | with_reducible exact Below.refl _ _ | with_reducible apply bel_alloc | with_reducible apply bel_drew | (with_reducible refine bel_step ?_ hbB) | (with_reducible refine bel_step ?_ hbA))) (by have q1 := hbA.size; have q2 := hbB.size; simp only [World.size_alloc, show ∀ X : World, X.drew.heap.size = X.heap.size from fun _ => rfl] at q1 q2 ⊢; omega) _ _ _ _ _ _⟩
  case rest =>
    obtain ⟨lb, T1, P1, K1, R1, rfl, rfl, hloc, hb4⟩ := hcut
    obtain ⟨X4, rfl⟩ : ∃ X : World, X = wc := ⟨_, rfl⟩
    obtain ⟨a1', a2', a3', a4', a5', c1, c2, c3, c4, c5, l1, l2, l3, l4, l5, h0, -, e1, h1, e2, h2, e3, h3, e4, h4, e5, h5⟩ := hloc
    replace e4 : l4 = 6 := e4
    subst e4
    have hL4 : IntsAt X4 aL [0, 1, 2, 3, 4] := HL.out.mono (Nat.le_refl _) hb4
    have H5 := Lib.hid (show ∀ X a b c c', IntsAt X a [0, 1, 2, 3, 4] → IntsAt X b [0, 1, 2, 3, 4] → Calls Tryz.prog 17 #[.slice a 5 c, .slice b 5 c'] X fun e w' => e = .returned (.bool true) ∧ Below X.heap.size X w' from fun X a b c c' i1 i2 => (ints08 a b c c' [0, 1, 2, 3, 4] [0, 1, 2, 3, 4] X (by decide) i1 i2).mono fun e w' ⟨h, k⟩ => ⟨h.trans (by simp), k⟩)
    have H6 := Lib.hid (show ∀ X a b c c', IntsAt X a [0, 1, 2, 3, 4, 4] → IntsAt X b [0, 1, 2, 3, 4, 4] → Calls Tryz.prog 17 #[.slice a 6 c, .slice b 6 c'] X fun e w' => e = .returned (.bool true) ∧ Below X.heap.size X w' from fun X a b c c' i1 i2 => (ints08 a b c c' [0, 1, 2, 3, 4, 4] [0, 1, 2, 3, 4, 4] X (by decide) i1 i2).mono fun e w' ⟨h, k⟩ => ⟨h.trans (by simp), k⟩)
    have HR := Lib.hid h0
    have HV := Lib.hid h4
    have HL4 := Lib.hid hL4
    have HB4 := Lib.hid (bel_step HB3.out hb4)
    clear h0 h1 h2 h3 h4 h5 e1 e2 e3 e5 hL4 hb4
    have HLIT5 := Lib.hid (show ∀ X, IntsAt (X.alloc (.cells #[.int .i64 0, .int .i64 1, .int .i64 2, .int .i64 3, .int .i64 4] 3)) (some ⟨X.heap.size, 0, none⟩) [0, 1, 2, 3, 4] from fun X => lit_ints X 3 [0, 1, 2, 3, 4])
    have HLIT6 := Lib.hid (show ∀ X, IntsAt (X.alloc (.cells #[.int .i64 0, .int .i64 1, .int .i64 2, .int .i64 3, .int .i64 4, .int .i64 4] 3)) (some ⟨X.heap.size, 0, none⟩) [0, 1, 2, 3, 4, 4] from fun X => lit_ints X 3 [0, 1, 2, 3, 4, 4])
    go_wp2_with (first | (go_at_call 17; (with_reducible refine (H5.out _ _ _ _ _ (ints_alloc HL4.out _) (HLIT5.out _)).mono ?_); rintro e wD ⟨rfl, hbD⟩; have hrD := (HR.out.alloc _).after hbD; have q0 := hrD.cell (i := 0) rfl; have q4 := hrD.cell (i := 4) rfl; have HVD := Lib.hid ((ints_alloc HV.out _).mono (Nat.le_refl _) hbD); have HBD := Lib.hid (bel_step (bel_alloc HB4.out _) hbD)) | (go_at_call 17; (with_reducible refine (H6.out _ _ _ _ _ (ints_alloc HVD.out _) (HLIT6.out _)).mono ?_); rintro e wE ⟨rfl, hbE⟩; have HBE := Lib.hid (bel_step (bel_alloc HBD.out _) hbE)))
    exact bodyPost_ret (v := .bool true) (by simp [results, Tryz.results35, go_sem]) rfl ⟨rfl, HBE.out⟩
end Go.Proofs.YtfbpjlfimmjieaaGreat

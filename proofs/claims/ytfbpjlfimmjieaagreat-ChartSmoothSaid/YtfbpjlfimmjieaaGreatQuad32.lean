/- Plain: a small surface is seen by deciding; a lone triangle is a disc; the document's examples of layer 32. gypsumlaw32.awake: the document's examples come out true. gypsumlaw32.great, right, many, told: what layer 32's laws ask of their arguments. -/
import Derived.Test.YtfbpjlfimmjieaaGreatDiscsW
import Derived.Test.YtfbpjlfimmjieaaGreatTable12
import Derived.Test.YtfbpjlfimmjieaaGreatInts08
import Derived.Test.YtfbpjlfimmjieaaGreatIs15b
namespace Go.Proofs.YtfbpjlfimmjieaaGreat
set_option linter.unusedVariables false
set_option linter.unusedSimpArgs false
open Go.RowKit
theorem belowNQ {P : Nat → Bool} {n : Nat} (h : (List.range n).all P = true) : ∀ i, i < n → P i = true := by simpa using h
def padjCQ (T : List Tr) (v : Int) (i k : Nat) : Bool := hasB (T! T i) v && hasB (T! T k) v && (List.range 3).any fun j => !(tg (T! T i) j == v) && hasB (T! T k) (tg (T! T i) j)
/-- A small surface, all vertices' triangles beside each other: seen by deciding. -/
def smallBQ (n : Nat) (T : List Tr) : Bool :=
  decide (n ≤ 4096) && decide (T.length ≤ 8192) &&
  ((List.range T.length).all fun i => decide (0 ≤ (T! T i).1 ∧ (T! T i).1 < n ∧ 0 ≤ (T! T i).2.1 ∧ (T! T i).2.1 < n ∧ 0 ≤ (T! T i).2.2 ∧ (T! T i).2.2 < n)) &&
  ((List.range T.length).all fun i => !loopB (T! T i)) &&
  ((List.range T.length).all fun b => (List.range T.length).all fun a => !(decide (a < b)) || (!twB (T! T a) (T! T b) && !mirB (T! T a) (T! T b))) &&
  ((List.range n).all fun v => (List.range T.length).any fun i => hasB (T! T i) (v : Int)) &&
  ((List.range n).all fun v => (List.range T.length).all fun i => (List.range T.length).all fun k => !(hasB (T! T i) (v : Int)) || !(hasB (T! T k) (v : Int)) || padjCQ T (v : Int) i k)
theorem surf_smallQ {n : Nat} {T : List Tr} (h : smallBQ n T = true) : Surf n T := by
  unfold smallBQ at h
  simp only [Bool.and_eq_true, decide_eq_true_eq] at h
  obtain ⟨⟨⟨⟨⟨⟨h1, h2⟩, h3⟩, h4⟩, h5⟩, h6⟩, h7⟩ := h
  refine ⟨by omega, by omega, h2, ?_, ?_, ?_, ?_, ?_, ?_⟩
  · intro i hi j
    have hb := belowNQ h3 i hi
    simp only [decide_eq_true_eq] at hb
    match j with
    | 0 => exact ⟨hb.1, hb.2.1⟩
    | 1 => exact ⟨hb.2.2.1, hb.2.2.2.1⟩
    | _ + 2 => exact ⟨hb.2.2.2.2.1, hb.2.2.2.2.2⟩
  · intro i hi
    simpa using belowNQ h4 i hi
  · intro b a hb hab
    have := belowNQ (belowNQ h5 b hb) a (by omega)
    simp [hab] at this
    exact this.1
  · intro b a hb hab
    have := belowNQ (belowNQ h5 b hb) a (by omega)
    simp [hab] at this
    exact this.2
  · intro v h0 h1
    obtain ⟨n, rfl⟩ := Int.eq_ofNat_of_zero_le h0
    have := belowNQ h6 n (by omega)
    simpa using this
  · intro v h0 h1 i k hi hk ha hb
    obtain ⟨n, rfl⟩ := Int.eq_ofNat_of_zero_le h0
    have := belowNQ (belowNQ (belowNQ h7 n (by omega)) i hi) k hk
    rw [ha, hb] at this
    refine .step (.refl _) ?_
    simp only [padjCQ, Bool.not_true, Bool.false_or, Bool.and_eq_true, List.any_eq_true, List.mem_range, Bool.not_eq_true', beq_eq_false_iff_ne] at this
    obtain ⟨⟨h1, h2⟩, j, hj, h3, h4⟩ := this
    exact ⟨hi, hk, h1, h2, j, hj, h3, h4⟩

def quad : List Tr := [(0, 1, 2), (2, 1, 3)]
theorem quad_surf : Surf (4 : Nat) quad := surf_smallQ (by decide +kernel)
theorem quad_open (K : List Int) (c o : Nat) (hc : c < 6) (h : OpenK quad K c o) : (c = 0 ∧ o = 5 ∨ c = 5 ∧ o = 0) ∧ I! K 1 = I! K 4 ∧ I! K 2 = I! K 3 := by
  obtain ⟨h1, h2, h3⟩ := h
  rcases (show c = 0 ∨ c = 1 ∨ c = 2 ∨ c = 3 ∨ c = 4 ∨ c = 5 by omega) with rfl | rfl | rfl | rfl | rfl | rfl
  · have e : opp quad ((0 : Nat) : Int) = 5 := by decide +kernel
    rw [e] at h1
    obtain rfl : o = 5 := by omega
    exact ⟨.inl ⟨rfl, rfl⟩, h2, h3⟩
  · have e : opp quad ((1 : Nat) : Int) = -1 := by decide +kernel
    omega
  · have e : opp quad ((2 : Nat) : Int) = -1 := by decide +kernel
    omega
  · have e : opp quad ((3 : Nat) : Int) = -1 := by decide +kernel
    omega
  · have e : opp quad ((4 : Nat) : Int) = -1 := by decide +kernel
    omega
  · have e : opp quad ((5 : Nat) : Int) = 0 := by decide +kernel
    rw [e] at h1
    obtain rfl : o = 0 := by omega
    exact ⟨.inr ⟨rfl, rfl⟩, h3.symm, h2.symm⟩
/-- Its two triangles are apart. -/
theorem quad_two {K : List Int} {M : Nat → Int} (hK : ¬ (I! K 1 = I! K 4 ∧ I! K 2 = I! K 3)) (hM : IsShells (KAdj quad K) quad.length M) : M 0 = 0 ∧ M 1 = 1 := by
  have hno : ∀ a b, ¬ KAdj quad K a b := fun a b ⟨c, o, hc, ho, h, _, _⟩ => hK (quad_open K c o hc h).2
  have hcn : ∀ {a b}, Conn (KAdj quad K) a b → a = b := fun {a b} h => by
    induction h with
    | refl => rfl
    | step _ s _ => exact absurd s (hno _ _)
    | back _ s _ => exact absurd s (hno _ _)
  have hl : quad.length = 2 := rfl
  have h0 := hM.le 0 (by omega)
  have h00 := hM.nonneg 0 (by omega)
  have h1 := hM.le 1 (by omega)
  have h10 := hM.nonneg 1 (by omega)
  have e0 : M 0 = 0 := by omega
  refine ⟨e0, ?_⟩
  have hne : M 1 ≠ 0 := fun e => by
    have := hcn (hM.con 0 1 (by omega) (by omega) (by rw [e0, e]))
    omega
  omega
theorem quad_one {K : List Int} {M : Nat → Int} (h1 : I! K 1 = I! K 4) (h2 : I! K 2 = I! K 3) (hM : IsShells (KAdj quad K) quad.length M) : M 0 = 0 ∧ M 1 = 0 := by
  have hl : quad.length = 2 := rfl
  have h0 := hM.le 0 (by omega)
  have h00 := hM.nonneg 0 (by omega)
  have e0 : M 0 = 0 := by omega
  have ha : KAdj quad K 0 1 := ⟨0, 5, by omega, by omega, ⟨by decide +kernel, h1, h2⟩, rfl, rfl⟩
  exact ⟨e0, by rw [hM.clo 0 1 (by omega) (by omega) ha, e0]⟩
/-- A lone triangle is a disc. -/
theorem lone_disc {N : Nat} {t : Tr} (hs : Surf N [t]) : discB N [t] = true := by
  obtain ⟨a, b, c⟩ := t
  have a0 := hs.vin 0 (by simp) 0
  have b0 := hs.vin 0 (by simp) 1
  have c0 := hs.vin 0 (by simp) 2
  have nl := hs.noloop 0 (by simp)
  have us : ∀ v : Int, 0 ≤ v → v < N → a = v ∨ b = v ∨ c = v := fun v h0 h1 => by
    obtain ⟨i, hi, h⟩ := hs.used v h0 h1
    obtain rfl : i = 0 := by simp at hi; omega
    simpa [T!, hasB, or_assoc] using h
  simp only [T!, tg, List.getD_cons_zero] at a0 b0 c0
  simp [T!, loopB] at nl
  have h3 : N = 3 := by
    rcases Nat.lt_trichotomy N 3 with h | h | h
    · omega
    · exact h
    · have u0 := us 0 (by omega) (by omega)
      have u1 := us 1 (by omega) (by omega)
      have u2 := us 2 (by omega) (by omega)
      have u3 := us 3 (by omega) (by omega)
      omega
  subst h3
  have ha : a = 0 ∨ a = 1 ∨ a = 2 := by omega
  have hb : b = 0 ∨ b = 1 ∨ b = 2 := by omega
  have hc : c = 0 ∨ c = 1 ∨ c = 2 := by omega
  clear hs us a0 b0 c0
  rcases ha with rfl | rfl | rfl <;> rcases hb with rfl | rfl | rfl <;> rcases hc with rfl | rfl | rfl <;> first | (exfalso; revert nl; decide) | decide +kernel
theorem least_exists {A : Nat → Nat → Prop} (n : Nat) (hin : ∀ i j, A i j → i < n ∧ j < n) : ∃ L, IsLeast A n L := by
  refine ⟨fun i => ((Classical.choose (least_of A i) : Nat) : Int), fun i _ => by omega, fun i hi => ?_, fun i j hi hj h => ?_, fun i hi => ?_⟩
  · have := (Classical.choose_spec (least_of A i))
    have := this.1 i (this.2)
    omega
  · have a := (Classical.choose_spec (least_of A i))
    have b := (Classical.choose_spec (least_of A j))
    have h1 := a.1 _ ((a.2.step h).trans b.2.symm)
    have h2 := b.1 _ ((b.2.back h).trans a.2.symm)
    show ((Classical.choose (least_of A j) : Nat) : Int) = ((Classical.choose (least_of A i) : Nat) : Int)
    omega
  · simpa using (Classical.choose_spec (least_of A i)).2
/-- A chart of one triangle is a disc. -/
theorem lone_at {n : Nat} {T : List Tr} {K : List Int} {M : Nat → Int} {k : Nat} {b : Bool} (hs : Surf n T) (hl : T.length ≤ 1000) (hM : IsShells (KAdj T K) T.length M) (h : DiscAt T K M k b) (h1 : (sel (mL M T.length) (k : Int) T.length).length = 1) : b = true := by
  obtain ⟨L, hL⟩ := least_exists (A := KSAdj T K) (3 * T.length) ksadj_in
  have hp := rowK_piece hs hM hL (k : Int)
  rw [h L _ hp]
  have hS := hp.surf hs hl
  obtain ⟨t, ht⟩ : ∃ t, cutT (mL M T.length) (k : Int) L (rowK T (mL M T.length) (k : Int) L n) T.length = [t] := by
    unfold cutT
    obtain ⟨x, hx⟩ := List.length_eq_one_iff.1 h1
    exact ⟨_, by rw [hx]; rfl⟩
  rw [ht] at hS ⊢
  exact lone_disc hS
theorem RowIs.trisA {w : World} {g : Nat} {T : List Tr} (h : RowIs w g 49 (tcells T)) : TrisAt w (some ⟨g, 0, none⟩) T := fun _ =>
  ⟨g, 0, rfl, h.lt, fun i hi => by
    have h0 := h.cell (tcells_get T i 0 hi (by omega))
    have h1 := h.cell (tcells_get T i 1 hi (by omega))
    have h2 := h.cell (tcells_get T i 2 hi (by omega))
    simpa using ⟨h0, h1, h2⟩⟩
theorem RowIs.intsA {w : World} {g : Nat} {e : TypeId} {xs : List Int} (h : RowIs w g e (ic xs)) : IntsAt w (some ⟨g, 0, none⟩) xs := fun _ =>
  ⟨g, 0, rfl, h.lt, fun i hi => by
    rw [Nat.zero_add]
    refine h.cell ?_
    simp [ic, I!, List.getD_eq_getElem?_getD, hi]⟩
set_option maxRecDepth 100000 in
set_option maxHeartbeats 2000000 in
theorem awake32 (w : World) : Calls Tryz.prog 11 #[] w fun e w' => e = .returned (.bool true) ∧ Below w.heap.size w w' := by
  go_enter Tryz.func11, Tryz.ntmps11
  go_upto_region 2 with fail
  obtain ⟨B, hB⟩ : ∃ B, B = w.heap.size := ⟨_, rfl⟩
  obtain ⟨W1, hW1⟩ : ∃ W1, W1 = (w.alloc (.cells #[.int .i64 0, .int .i64 1, .int .i64 2, .int .i64 2, .int .i64 1, .int .i64 3] 49)).alloc (.cells #[.int .i64 4, .slice (some ⟨w.heap.size, 0, none⟩) 2 2] 24) := ⟨_, rfl⟩
  rw [← hW1]
  have hr0 : RowIs W1 w.heap.size 49 (tcells quad) := by rw [hW1]; exact (RowIs.made w 49 (tcells quad)).alloc _
  have hr1 : RowIs W1 (w.heap.size + 1) 24 [.int .i64 4, .slice (some ⟨w.heap.size, 0, none⟩) 2 2] := by rw [hW1]; exact RowIs.made' _ _ [.int .i64 4, .slice (some ⟨w.heap.size, 0, none⟩) 2 2] _ (by simp)
  have hb1 : Below w.heap.size w W1 := by rw [hW1]; exact ((Below.refl _ _).alloc (Nat.le_refl _) _).alloc (by simp) _
  have hT1 := hr0.trisA
  have c0 := hr1.cell (i := 0) rfl
  have c1 := hr1.cell (i := 1) rfl
  have HR1 := Lib.hid hr1
  have HT1 := Lib.hid hT1
  have HB1 := Lib.hid hb1
  have HTB := Lib.hid (table12 4 (some ⟨w.heap.size, 0, none⟩) 2 quad W1 hT1 quad_surf (by decide))
  rw [show quad.length = 2 from rfl] at HTB
  clear hr0 hr1 hb1 hT1 hW1
  go_wp2_with fail
  refine HTB.out.mono ?_
  rintro e w2 ⟨p, rfl, -, htab, hb2⟩
  obtain ⟨W2, rfl⟩ : ∃ W2 : World, W2 = w2 := ⟨_, rfl⟩
  have HB2 := Lib.hid (below_more HB1.out hb2 HB1.out.size)
  have HR2 := Lib.hid (HR1.out.after hb2)
  have HT2 := Lib.hid (HT1.out.mono (Nat.le_refl _) hb2)
  obtain ⟨W3, hW3⟩ : ∃ W3, W3 = W2.alloc (.cells #[.int .i64 0, .int .i64 0, .int .i64 0, .int .i64 5, .int .i64 5, .int .i64 5] 3) := ⟨_, rfl⟩
  have hb3 : Below W2.heap.size W2 W3 := by rw [hW3]; exact (Below.refl _ _).alloc (Nat.le_refl _) _
  have hk3 : RowIs W3 W2.heap.size 3 (ic [0, 0, 0, 5, 5, 5]) := by rw [hW3]; exact RowIs.made W2 3 (ic [0, 0, 0, 5, 5, 5])
  have HO := Lib.hid (cof_ok p 4 quad (some ⟨W2.heap.size, 0, none⟩) 6 [0, 0, 0, 5, 5, 5] W3 (htab.mono (Nat.le_refl _) hb3) quad_surf rfl hk3.intsA)
  rw [show ([0, 0, 0, 5, 5, 5] : List Int).length = 6 from rfl] at HO
  have HTAB := Lib.hid htab
  have HB3 := Lib.hid hb3
  have HW3 := Lib.hid hW3
  clear hb2 htab hb3 hk3 hW3 c0 c1
  go_wp2_with fail
  rw [← HW3.out]
  refine HO.out.mono ?_
  rintro e w4 ⟨gm, M, rfl, hgm, hrM, hM, hb4⟩
  have hl2 : quad.length = 2 := rfl
  have hM2 := quad_two (by decide) hM
  have HI4 := Lib.hid (show IntsAt w4 (some ⟨gm, 0, none⟩) [0, 1] from by
    have := hrM.ints
    rwa [show il M quad.length = [0, 1] from by simp [il, hl2, List.range_succ, hM2.1, hM2.2]] at this)
  obtain ⟨W4, rfl⟩ : ∃ W4 : World, W4 = w4 := ⟨_, rfl⟩
  have HB4 := Lib.hid (below_more HB3.out hb4 HB3.out.size)
  have hT4 := HTAB.out.mono (Nat.le_refl _) HB4.out
  rw [hl2]
  obtain ⟨W5, hW5⟩ : ∃ W5, W5 = W4.alloc (.cells #[.int .i64 0, .int .i64 7, .int .i64 8, .int .i64 8, .int .i64 7, .int .i64 3] 3) := ⟨_, rfl⟩
  have hb5 : Below W4.heap.size W4 W5 := by rw [hW5]; exact (Below.refl _ _).alloc (Nat.le_refl _) _
  have hk5 : RowIs W5 W4.heap.size 3 (ic [0, 7, 8, 8, 7, 3]) := by rw [hW5]; exact RowIs.made W4 3 (ic [0, 7, 8, 8, 7, 3])
  have HO5 := Lib.hid (cof_ok p 4 quad (some ⟨W4.heap.size, 0, none⟩) 6 [0, 7, 8, 8, 7, 3] W5 (hT4.mono (Nat.le_refl _) hb5) quad_surf rfl hk5.intsA)
  rw [show ([0, 7, 8, 8, 7, 3] : List Int).length = 6 from rfl] at HO5
  have HI5 := Lib.hid (HI4.out.mono (Nat.le_refl _) hb5)
  have HB5 := Lib.hid (below_more HB4.out hb5 HB4.out.size)
  have HW5 := Lib.hid hW5
  clear hgm hrM hM hM2 hb4 hT4 hW5 hb5 hk5 HO HW3 HI4
  go_wp2_with fail
  rw [← HW5.out]
  refine HO5.out.mono ?_
  rintro e w6 ⟨gn, M', rfl, hgn, hrM', hM', hb6⟩
  have hM2' := quad_one (by decide) (by decide) hM'
  have HJ6 := Lib.hid (show IntsAt w6 (some ⟨gn, 0, none⟩) [0, 0] from by
    have := hrM'.ints
    rwa [show il M' quad.length = [0, 0] from by simp [il, hl2, List.range_succ, hM2'.1, hM2'.2]] at this)
  obtain ⟨W6, rfl⟩ : ∃ W6 : World, W6 = w6 := ⟨_, rfl⟩
  have HB6 := Lib.hid (below_more HB5.out hb6 HB5.out.size)
  have HI6 := Lib.hid (HI5.out.mono (Nat.le_refl _) hb6)
  rw [hl2]
  obtain ⟨W7, hW7⟩ : ∃ W7, W7 = W6.alloc (.cells #[.int .i64 0, .int .i64 0, .int .i64 0, .int .i64 0, .int .i64 5, .int .i64 5] 3) := ⟨_, rfl⟩
  have hb7 : Below W6.heap.size W6 W7 := by rw [hW7]; exact (Below.refl _ _).alloc (Nat.le_refl _) _
  have hk7 : RowIs W7 W6.heap.size 3 (ic [0, 0, 0, 0, 5, 5]) := by rw [hW7]; exact RowIs.made W6 3 (ic [0, 0, 0, 0, 5, 5])
  have hr6 := HR2.out.after HB6.out
  have HB7 := Lib.hid (below_more HB6.out hb7 HB6.out.size)
  have HD := Lib.hid (cdiscs_ok 4 (some ⟨w.heap.size, 0, none⟩) 2 quad (some ⟨W6.heap.size, 0, none⟩) 6 [0, 0, 0, 0, 5, 5] W7 (HT2.out.mono (Nat.le_refl _) HB7.out) quad_surf hk7.intsA rfl (by decide))
  rw [show ([0, 0, 0, 0, 5, 5] : List Int).length = 6 from rfl, hl2] at HD
  have c0 := hr6.cell (i := 0) rfl
  have c1 := hr6.cell (i := 1) rfl
  have HI7 := Lib.hid (HI6.out.mono (Nat.le_refl _) hb7)
  have HJ7 := Lib.hid (HJ6.out.mono (Nat.le_refl _) hb7)
  have HW7 := Lib.hid hW7
  clear hgn hrM' hM' hM2' hb6 hW7 hb7 hk7 hr6 HO5 HW5 HI5 HJ6 HI6
  go_wp2_with fail
  rw [← HW7.out]
  refine HD.out.mono ?_
  rintro e w8 ⟨M3, D, da, dc, hM3, hDl, rfl, hDA, hdis, hb8⟩
  have hM2 := quad_two (by decide) hM3
  have hD2 : D.length = 2 := by
    have : cnt M3 quad.length = 2 := by
      show max (max 0 (M3 0 + 1)) (M3 1 + 1) = 2
      rw [hM2.1, hM2.2]; rfl
    omega
  have hg : ∀ k, k < 2 → D.getD k false = true := fun k hk => lone_at quad_surf (by decide) hM3 (hdis k (by omega)) (by
    have e : mL M3 quad.length = [0, 1] := by simp [mL, hl2, List.range_succ, hM2.1, hM2.2]
    rw [e, hl2]
    rcases (show k = 0 ∨ k = 1 by omega) with rfl | rfl <;> decide +kernel)
  obtain ⟨db, doff, rfl, hdb, hcell⟩ := hDA (by intro e; rw [e] at hD2; cases hD2)
  have x0 := hcell 0 (by omega)
  have x1 := hcell 1 (by omega)
  rw [hg 0 (by omega)] at x0
  rw [hg 1 (by omega)] at x1
  rw [hD2]
  obtain ⟨W8, rfl⟩ : ∃ W8 : World, W8 = w8 := ⟨_, rfl⟩
  have HB8 := Lib.hid (below_more HB7.out hb8 HB7.out.size)
  have HI8 := Lib.hid (HI7.out.mono (Nat.le_refl _) hb8)
  have HJ8 := Lib.hid (HJ7.out.mono (Nat.le_refl _) hb8)
  have HX := Lib.hid (show db < W8.heap.size ∧ W8.cell? ⟨db, doff + 0, none⟩ = some (.bool true) ∧ W8.cell? ⟨db, doff + 1, none⟩ = some (.bool true) from ⟨hdb, x0, x1⟩)
  clear hM3 hDl hdis hM2 hg hcell hb8 c0 c1 x0 x1 hdb
  obtain ⟨W9, hW9⟩ : ∃ W9, W9 = W8.alloc (.cells #[.int .i64 0, .int .i64 1] 3) := ⟨_, rfl⟩
  have hb9 : Below W8.heap.size W8 W9 := by rw [hW9]; exact (Below.refl _ _).alloc (Nat.le_refl _) _
  have hk9 : RowIs W9 W8.heap.size 3 (ic [0, 1]) := by rw [hW9]; exact RowIs.made W8 3 (ic [0, 1])
  have HE9 := Lib.hid (ints08 (some ⟨gm, 0, none⟩) (some ⟨W8.heap.size, 0, none⟩) 2 2 [0, 1] [0, 1] W9 (by decide) (HI8.out.mono (Nat.le_refl _) hb9) hk9.intsA)
  rw [show ([0, 1] : List Int).length = 2 from rfl, show decide (([0, 1] : List Int) = [0, 1]) = true from by decide] at HE9
  have HB9 := Lib.hid (below_more HB8.out hb9 HB8.out.size)
  have HB89 := Lib.hid hb9
  have HW9 := Lib.hid hW9
  clear hb9 hk9 hW9
  go_wp2_with fail
  rw [← HW9.out]
  refine HE9.out.mono ?_
  rintro e w10 ⟨rfl, hb10⟩
  obtain ⟨W10, rfl⟩ : ∃ W10 : World, W10 = w10 := ⟨_, rfl⟩
  have HB810 := Lib.hid (below_more HB89.out hb10 HB89.out.size)
  obtain ⟨W11, hW11⟩ : ∃ W11, W11 = W10.alloc (.cells #[.int .i64 0, .int .i64 0] 3) := ⟨_, rfl⟩
  have hb11 : Below W10.heap.size W10 W11 := by rw [hW11]; exact (Below.refl _ _).alloc (Nat.le_refl _) _
  have hk11 : RowIs W11 W10.heap.size 3 (ic [0, 0]) := by rw [hW11]; exact RowIs.made W10 3 (ic [0, 0])
  have HB811 := Lib.hid (below_more HB810.out hb11 HB810.out.size)
  have HE11 := Lib.hid (ints08 (some ⟨gn, 0, none⟩) (some ⟨W10.heap.size, 0, none⟩) 2 2 [0, 0] [0, 0] W11 (by decide) (HJ8.out.mono (Nat.le_refl _) HB811.out) hk11.intsA)
  rw [show ([0, 0] : List Int).length = 2 from rfl, show decide (([0, 0] : List Int) = [0, 0]) = true from by decide] at HE11
  have HW11 := Lib.hid hW11
  clear hb10 hb11 hk11 hW11
  go_wp2_with fail
  rw [← HW11.out]
  refine HE11.out.mono ?_
  rintro e w12 ⟨rfl, hb12⟩
  have hb := below_more HB811.out hb12 HB811.out.size
  have x0 : w12.cell? ⟨db, doff, none⟩ = some (.bool true) := (hb.cell (p := ⟨db, doff + 0, none⟩) HX.out.1).trans HX.out.2.1
  have x1 := (hb.cell (p := ⟨db, doff + 1, none⟩) HX.out.1).trans HX.out.2.2
  have HBF := Lib.hid (below_more HB2.out (below_more HB8.out hb HB8.out.size) HB2.out.size)
  clear hb hb12
  go_wp2
  go_ret
  exact ⟨by first | rfl | (simp; done), HBF.out⟩
def grB32 (N : Int) (l kl : Nat) : Bool := decide (30 < l) || decide (200 < N) || decide (200 < kl)
theorem grB32_no {N : Int} {l kl : Nat} (h : grB32 N l kl = false) : l ≤ 30 ∧ N ≤ 200 ∧ kl ≤ 200 := by
  unfold grB32 at h
  simp at h
  omega
set_option maxHeartbeats 1000000 in
theorem great32 (N : Int) (ao : Option Addr) (l cap : Nat) (ko : Option Addr) (kl kc : Nat) (w : World) :
    Calls Tryz.prog 12 #[.agg #[.int .i64 N, .slice ao l cap], .slice ko kl kc] w fun e w' => e = .returned (.bool (grB32 N l kl)) ∧ Below w.heap.size w w' := by
  obtain ⟨r, hr⟩ : ∃ r, r = grB32 N l kl := ⟨_, rfl⟩
  rw [← hr]
  unfold grB32 at hr
  have e1 : decide ((30 : Int) < (l : Int)) = decide (30 < l) := by simp; omega
  have e3 : decide ((200 : Int) < (kl : Int)) = decide (200 < kl) := by simp; omega
  cases h1 : decide (30 < l) <;> cases h2 : decide (200 < N) <;> cases h3 : decide (200 < kl) <;> simp only [h1, h2, h3, Bool.or_false, Bool.or_true] at hr <;> subst hr
  all_goals
    rw [h1] at e1
    rw [h3] at e3
    have g1 : decide ((l : Int) > 30) = _ := e1
    have g2 : decide (N > 200) = _ := h2
    have g3 : decide ((kl : Int) > 200) = _ := e3
    go_enter Tryz.func12, Tryz.ntmps12
    go_wp2
    go_ret
    exact ⟨rfl, (Below.refl _ _).alloc (Nat.le_refl _) _⟩
/-- What the laws of layer 32 look at. -/
def Right32 (N : Int) (T : List Tr) (kl : Nat) : Prop := T.length ≤ 30 ∧ kl = 3 * T.length ∧ Surf N T
set_option maxRecDepth 100000 in
set_option maxHeartbeats 1000000 in
theorem right32 (N : Int) (ao : Option Addr) (cap : Nat) (T : List Tr) (ko : Option Addr) (kl kc : Nat) (w : World) (hT : TrisAt w ao T) :
    Calls Tryz.prog 26 #[.agg #[.int .i64 N, .slice ao T.length cap], .slice ko kl kc] w (BoolPost (Right32 N T kl) w) := by
  obtain ⟨W0, hW0⟩ : ∃ W0, W0 = w.alloc (.cells #[.int .i64 N, .slice ao T.length cap] 24) := ⟨_, rfl⟩
  have hb0 : Below w.heap.size w W0 := by rw [hW0]; exact (Below.refl _ _).alloc (Nat.le_refl _) _
  have hr0 : RowIs W0 w.heap.size 24 [.int .i64 N, .slice ao T.length cap] := by rw [hW0]; exact RowIs.made w 24 [.int .i64 N, .slice ao T.length cap]
  have HT := Lib.hid (hT.mono (Nat.le_refl _) hb0)
  have HIS := Lib.hid (fun (X : World) (h : TrisAt X ao T) (hl : T.length ≤ 10000) => is15 N ao cap T X h hl)
  have HDF := Lib.hid (show Right32 N T kl ↔ (T.length ≤ 30 ∧ kl = 3 * T.length ∧ Surf N T) from Iff.rfl)
  obtain ⟨len, hlen⟩ : ∃ l, l = T.length := ⟨_, rfl⟩
  rw [← hlen] at hW0 hr0 HIS HDF ⊢
  have HR0 := Lib.hid hr0
  have HB0 := Lib.hid hb0
  have HW0 := Lib.hid hW0
  clear hT hb0 hr0 hW0 hlen
  go_enter Tryz.func26, Tryz.ntmps26
  go_upto_region 1 with fail
  rw [← HW0.out]
  have c0 := HR0.out.cell (i := 0) rfl
  have c1 := HR0.out.cell (i := 1) rfl
  by_cases g1 : len ≤ 30
  · have d1 : decide ((len : Int) ≤ 30) = true := by simp; omega
    have e3 : IntKind.i64.wrap (3 * (len : Int)) = 3 * (len : Int) := IntWalk.i64_in _ (by omega)
    by_cases g2 : kl = 3 * len
    · have d2 : ((kl : Int) == 3 * (len : Int)) = true := by simp; omega
      have HG := Lib.hid (show len ≤ 30 ∧ kl = 3 * len from ⟨g1, g2⟩)
      have HI1 := Lib.hid (HIS.out W0 HT.out (by omega))
      clear g1 g2
      go_wp2_with fail
      refine HI1.out.mono ?_
      rintro e w2 ⟨r, rfl, hs1, hb2⟩
      have HF := Lib.hid (show SaysB r (Right32 N T kl) from ⟨fun h => HDF.out.2 ⟨HG.out.1, HG.out.2, hs1.1 h⟩, fun h => hs1.2 (HDF.out.1 h).2.2⟩)
      have HB2 := Lib.hid (below_more HB0.out hb2 HB0.out.size)
      clear hs1 hb2
      go_wp2
      exact bodyPost_ret (v := .bool r) (by simp [results, Tryz.results26, go_sem]) rfl ⟨_, rfl, HF.out, HB2.out⟩
    · have d2 : ((kl : Int) == 3 * (len : Int)) = false := by simp; omega
      have HN := Lib.hid (show ¬ Right32 N T kl from fun h => g2 (HDF.out.1 h).2.1)
      clear g1 g2
      go_wp2
      exact bodyPost_ret (v := .bool false) (by simp [results, Tryz.results26, go_sem]) rfl ⟨_, rfl, says_no HN.out, HB0.out⟩
  · have d1 : decide ((len : Int) ≤ 30) = false := by simp; omega
    have HN := Lib.hid (show ¬ Right32 N T kl from fun h => g1 (HDF.out.1 h).1)
    clear g1
    go_wp2
    exact bodyPost_ret (v := .bool false) (by simp [results, Tryz.results26, go_sem]) rfl ⟨_, rfl, says_no HN.out, HB0.out⟩
set_option maxRecDepth 100000 in
set_option maxHeartbeats 1000000 in
theorem many32 (g n : Nat) (M : Nat → Int) (w : World) (hn : n ≤ 100000) (hrow : RowIs w g 3 (iv M n)) (hM : ∀ i, i < n → 0 ≤ M i ∧ M i < 100000) :
    Calls Tryz.prog 24 #[.slice (some ⟨g, 0, none⟩) n n] w fun e w' => e = .returned (.int .i64 (cnt M n)) ∧ w' = w := by
  have HR := Lib.hid hrow
  have HM := Lib.hid hM
  clear hrow hM
  go_enter Tryz.func24, Tryz.ntmps24
  go_wp2
  go_loopw [3, 4] (fun m i ws => ∃ k : Nat, k ≤ n ∧ m = .int .i64 (cnt M k) ∧ i = .int .i64 k ∧ ws = w) (fun _ i _ => n - (intOf i).toNat)
  case atStart => exact ⟨0, by omega, rfl, rfl, rfl⟩
  case round =>
    obtain ⟨k, hk, rfl, rfl, rfl⟩ := hrel
    obtain ⟨w, rfl⟩ : ∃ x : World, x = wr := ⟨_, rfl⟩
    obtain ⟨ck, hck⟩ : ∃ c, c = cnt M k := ⟨_, rfl⟩
    have HC := Lib.hid hck
    rw [← hck]
    clear hck
    by_cases hkb : k < n
    · have c0 := HR.out.cell (iv_get M hkb)
      obtain ⟨h0, h1⟩ := HM.out k hkb
      obtain ⟨x, hx⟩ : ∃ x, x = M k := ⟨_, rfl⟩
      rw [← hx] at c0 h0 h1
      have HX := Lib.hid hx
      clear hx
      have e1 : IntKind.i64.wrap (x + 1) = x + 1 := IntWalk.i64_in _ (by omega)
      go_wp2
      go_roundw
      case rel => exact ⟨k + 1, by omega, by unfold cnt; rw [← HC.out, ← HX.out], by go_num, by trivial⟩
      case measure => simp [intOf]; omega
    · obtain rfl : k = n := by omega
      go_wp2
      exact bodyPost_ret (v := .int .i64 ck) (by simp [results, Tryz.results24, go_sem]) rfl ⟨by rw [HC.out], rfl⟩
/-- Are all values such as layer 31 takes? -/
def Told (K : List Int) : Prop := ∀ i, i < K.length → 0 ≤ I! K i ∧ I! K i ≤ 65535
set_option maxRecDepth 100000 in
set_option maxHeartbeats 1000000 in
theorem told32 (ko : Option Addr) (kc : Nat) (K : List Int) (w : World) (hK : IntsAt w ko K) (hl : K.length ≤ 100000) :
    Calls Tryz.prog 31 #[.slice ko K.length kc] w (BoolPost (Told K) w) := by
  have HD := Lib.hid (show Told K ↔ ∀ i, i < K.length → 0 ≤ I! K i ∧ I! K i ≤ 65535 from Iff.rfl)
  obtain ⟨bl, hbl⟩ : ∃ l, l = K.length := ⟨_, rfl⟩
  rw [← hbl] at hl HD ⊢
  have HB := Lib.hid hK
  have HBL := Lib.hid hbl
  clear hK hbl
  go_enter Tryz.func31, Tryz.ntmps31
  go_wp2
  go_loopw [3] (fun c ws => ∃ k : Nat, k ≤ bl ∧ c = .int .i64 k ∧ (∀ i, i < k → 0 ≤ I! K i ∧ I! K i ≤ 65535) ∧ ws = w) (fun c _ => bl - (intOf c).toNat)
  case atStart => exact ⟨0, by omega, rfl, fun i h => by omega, rfl⟩
  case round =>
    obtain ⟨k, hk, rfl, hok, rfl⟩ := hrel
    obtain ⟨w, rfl⟩ : ∃ x : World, x = wr := ⟨_, rfl⟩
    have HOK := Lib.hid hok
    clear hok
    by_cases hkb : k < bl
    · obtain ⟨b, off, x, hE, hx, hc, -, -⟩ := HB.out.get (Nat.le_refl _) (Below.refl _ _) (i := k) (by rw [← HBL.out]; exact hkb)
      subst hE
      have HX := Lib.hid (show ¬ (0 ≤ x ∧ x ≤ 65535) → ¬ Told K from fun h hb => h (by
        have := HD.out.1 hb k hkb
        rw [hx.out] at this
        exact this))
      by_cases h0 : x < 0
      · have d0 : decide (x < 0) = true := by simpa using h0
        have HF := Lib.hid (HX.out (by omega))
        clear h0
        go_wp2
        exact bodyPost_ret (v := .bool false) (by simp [results, Tryz.results31, go_sem]) rfl ⟨_, rfl, says_no HF.out, Below.refl _ _⟩
      · have d0 : decide (x < 0) = false := by simpa using h0
        by_cases h1 : 65535 < x
        · have d1 : decide (x > 65535) = true := by simpa using h1
          have d2 : decide (65535 < x) = true := by simpa using h1
          have HF := Lib.hid (HX.out (by omega))
          clear h0 h1
          go_wp2
          exact bodyPost_ret (v := .bool false) (by simp [results, Tryz.results31, go_sem]) rfl ⟨_, rfl, says_no HF.out, Below.refl _ _⟩
        · have d1 : decide (x > 65535) = false := by simpa using h1
          have d2 : decide (65535 < x) = false := by simpa using h1
          have HN := Lib.hid (show 0 ≤ x ∧ x ≤ 65535 by omega)
          clear h0 h1
          go_wp2
          go_roundw
          case rel => exact ⟨k + 1, by omega, by go_num, fun i hi => by
            by_cases e : i = k
            · subst e; rw [hx.out]; exact HN.out
            · exact HOK.out i (by omega), by trivial⟩
          case measure => simp [intOf]; omega
    · obtain rfl : k = bl := by omega
      have HY := Lib.hid (show Told K from HD.out.2 HOK.out)
      go_wp2
      exact bodyPost_ret (v := .bool true) (by simp [results, Tryz.results31, go_sem]) rfl ⟨_, rfl, says_yes HY.out, Below.refl _ _⟩
end Go.Proofs.YtfbpjlfimmjieaaGreat

/- gypsumref18.Rest: contract. -/
import Derived.Test.YtkjamheoihlekaaGreatRefIns18
import Derived.Test.YtkjamheoihlekaaGreatTreeRest
namespace Go.Proofs.YtkjamheoihlekaaGreat
set_option linter.unusedVariables false
set_option linter.unusedSimpArgs false
open Go.RowKit
/-- The edges that the first links face. -/
def facedN (T : List Tr) (s : BfS) (i : Nat) : List (Int × Int) := (List.range i).flatMap fun t => if 0 ≤ s.l t then [ukey T (s.l t).toNat] else []
theorem facedN_no {T : List Tr} {s : BfS} {i : Nat} (h : s.l i < 0) : facedN T s (i + 1) = facedN T s i := by
  have : ¬ 0 ≤ s.l i := by omega
  simp [facedN, List.range_succ, this]
theorem facedN_yes {T : List Tr} {s : BfS} {i c : Nat} (h : s.l i = (c : Int)) : facedN T s (i + 1) = facedN T s i ++ [ukey T c] := by
  have h0 : 0 ≤ s.l i := by omega
  have h1 : (s.l i).toNat = c := by omega
  simp [facedN, List.range_succ, h0, h1]
theorem facedN_le (T : List Tr) (s : BfS) : ∀ i, (facedN T s i).length ≤ i
  | 0 => by simp [facedN]
  | i + 1 => by
    have ih := facedN_le T s i
    by_cases h : s.l i < 0
    · rw [facedN_no h]; omega
    · obtain ⟨c, hc⟩ := Int.eq_ofNat_of_zero_le (show 0 ≤ s.l i by omega)
      rw [facedN_yes hc, List.length_append]
      simp; omega
theorem facedN_mem {T : List Tr} {s : BfS} {i : Nat} {e : Int × Int} : e ∈ facedN T s i ↔ ∃ t c : Nat, t < i ∧ s.l t = (c : Int) ∧ e = ukey T c := by
  simp only [facedN, List.mem_flatMap, List.mem_range]
  constructor
  · rintro ⟨t, ht, h⟩
    by_cases h0 : 0 ≤ s.l t
    · rw [if_pos h0] at h
      simp at h
      exact ⟨t, (s.l t).toNat, ht, by omega, h⟩
    · rw [if_neg h0] at h; cases h
  · rintro ⟨t, c, ht, hc, rfl⟩
    refine ⟨t, ht, ?_⟩
    rw [if_pos (by omega), hc]
    simp
/-- What is put together of the edges that no link faces. -/
structure OutR (T : List Tr) (s : BfS) (i j : Nat) (R : List (Int × Int)) : Prop where
  st : R.Pairwise ltE
  mem : ∀ e, e ∈ R ↔ PF T s.o i j e ∧ e ∉ facedN T s T.length
theorem OutR.init (T : List Tr) (s : BfS) : OutR T s 0 0 [] := ⟨List.Pairwise.nil, fun e => ⟨fun h => (by cases h), fun h => ((PF_zero T s.o e).1 h.1).elim⟩⟩
theorem OutR.next {T : List Tr} {s : BfS} {i : Nat} {R : List (Int × Int)} (h : OutR T s i 3 R) : OutR T s (i + 1) 0 R := ⟨h.st, fun e => by rw [h.mem, PF_next]⟩
theorem OutR.skip {T : List Tr} {s : BfS} {i j : Nat} {R : List (Int × Int)} (h : OutR T s i j R) (hf : ukey T (3 * s.o.getD i 0 + j) ∈ facedN T s T.length) : OutR T s i (j + 1) R := ⟨h.st, fun e => by
  rw [h.mem, PF_succ]
  constructor
  · exact fun q => ⟨.inl q.1, q.2⟩
  · rintro ⟨q | q, q2⟩
    · exact ⟨q, q2⟩
    · rw [q] at q2; exact absurd hf q2⟩
theorem OutR.put {T : List Tr} {s : BfS} {i j : Nat} {R R' : List (Int × Int)} (h : OutR T s i j R) (hf : ukey T (3 * s.o.getD i 0 + j) ∉ facedN T s T.length) (hi : InsG ltE R (ukey T (3 * s.o.getD i 0 + j)) R') : OutR T s i (j + 1) R' := by
  obtain ⟨h1, h2⟩ := hi.edges h.st
  refine ⟨h1, fun e => ?_⟩
  rw [h2, h.mem, PF_succ]
  constructor
  · rintro (q | q)
    · exact ⟨.inr q, by rw [q]; exact hf⟩
    · exact ⟨.inl q.1, q.2⟩
  · rintro ⟨q | q, q2⟩
    · exact .inr ⟨q, q2⟩
    · exact .inl q
theorem OutR.fin {T : List Tr} {f : Nat} {s : BfS} (hI : BfI T f s) {R : List (Int × Int)} (h : OutR T s s.o.length 0 R) : R.Pairwise ltE ∧ ∀ e, e ∈ R ↔ restB T s e := by
  refine ⟨h.st, fun e => ?_⟩
  rw [h.mem, ← PD_all hI]
  unfold PD
  rw [facedN_mem]
/-- What gypsumref18.Rest comes to. -/
def RRestP (T : List Tr) (f : Nat) (w : World) (e : Ending) (w' : World) : Prop :=
  ∃ v R, e = .returned v ∧ RestAt w' v R ∧ R.Pairwise ltE ∧ (∀ a, a ∈ R ↔ restB T (bfs T f) a) ∧ Below w.heap.size w w'
theorem ukey_flat (T : List Tr) (c : Nat) : ukey T c = flatE (vt T (nxn c : Nat)) (vt T (pvn c : Nat)) := rfl
set_option maxRecDepth 100000 in
set_option maxHeartbeats 4000000 in
theorem rrest18 (N : Int) (ao : Option Addr) (cap : Nat) (T : List Tr) (f : Nat) (w : World) (hT : TrisAt w ao T) (hs : Surf N T) (hf : f < 3 * T.length) :
    Calls Tryz.prog 18 #[.agg #[.int .i64 N, .slice ao T.length cap], .int .i64 f] w (RRestP T f w) := by
  obtain ⟨i0, hi0, hz0, hz1, hz2⟩ := info_parts infoEdge
  have ht1 := hs.t1
  have hI := bfs_inv hs hf T.length
  obtain ⟨s, hse⟩ : ∃ s, s = bfs T f := ⟨_, rfl⟩
  have hI : BfI T f s := by rw [hse]; exact hI
  obtain ⟨F, hF⟩ : ∃ F, F = T.length := ⟨_, rfl⟩
  obtain ⟨B, hB⟩ : ∃ B, B = w.heap.size := ⟨_, rfl⟩
  rw [← hF] at ht1 hf ⊢
  obtain ⟨W0, hW0⟩ : ∃ W0, W0 = w.alloc (.cells #[.int .i64 N, .slice ao F cap] 24) := ⟨_, rfl⟩
  have hb0 : Below B w W0 := by rw [hW0, hB]; exact (Below.refl _ _).alloc (Nat.le_refl _) _
  have hr0 : RowIs W0 B 24 [.int .i64 N, .slice ao F cap] := by rw [hW0, hB]; exact RowIs.made w 24 [.int .i64 N, .slice ao F cap]
  have c0 := hr0.cell (i := 0) rfl
  have c1 := hr0.cell (i := 1) rfl
  have HRD := Lib.hid (rdual18 N ao cap T f W0 (hT.mono (B := B) (by rw [hB]; exact Nat.le_refl _) hb0) hs (by rw [← hF]; exact hf))
  rw [← hF] at HRD
  have HT := Lib.hid hT
  have HS := Lib.hid hs
  have HF := Lib.hid hF
  have HBB := Lib.hid hB
  have HW0 := Lib.hid hW0
  have HB0 := Lib.hid hb0
  have HR0 := Lib.hid hr0
  have HSE := Lib.hid hse
  have HI := Lib.hid hI
  have HRX := Lib.hid (show ∀ X, Below B w X → TrisAt X ao T from fun X hX => hT.mono (B := B) (by rw [hB]; exact Nat.le_refl _) hX)
  have HEC := Lib.hid (show ∀ (w' : World) (c : Nat), Below B w w' → c < 3 * F → Calls Tryz.prog 48 #[.agg #[.int .i64 N, .slice ao F cap], .int .i64 (c : Int)] w' fun e w'' => e = .returned (.agg #[.int .i64 (vt T (nxn c : Nat)), .int .i64 (vt T (pvn c : Nat))]) ∧ Below w'.heap.size w' w'' from fun w' c h hc => by
    have := edge10 N ao cap T c w' (hT.mono (B := B) (by rw [hB]; exact Nat.le_refl _) h) (by rw [← hF]; omega) (by rw [← hF]; exact hc)
    rw [← hF] at this
    exact this)
  clear hT hs hF hB hW0 hb0 hr0 hI hse
  go_enter Tryz.func18, Tryz.ntmps18
  go_upto_region 1 with fail
  simp only [← HBB.out]
  rw [← HW0.out]
  go_wp2_with fail
  refine HRD.out.mono ?_
  rintro e w1 ⟨al, cl, oa, oc, rfl, hal, hoa, hb1⟩
  rw [← HF.out, ← HSE.out] at hal ⊢
  rw [← HSE.out] at hoa
  obtain ⟨on, hon⟩ : ∃ n, n = s.o.length := ⟨_, rfl⟩
  have hof : on ≤ F := by rw [hon, HF.out]; exact HI.out.len
  rw [← hon]
  have hr1 := HR0.out.after hb1
  have hbw1 : Below B w w1 := below_more HB0.out hb1 (by have := HR0.out.lt; omega)
  obtain ⟨bf, hbf⟩ : ∃ b, b = w1.heap.size := ⟨_, rfl⟩
  obtain ⟨W2, hW2⟩ : ∃ W2, W2 = w1.alloc (.cells #[] 40) := ⟨_, rfl⟩
  have hb2 : Below w1.heap.size w1 W2 := by rw [hW2]; exact (Below.refl _ _).alloc (Nat.le_refl _) _
  have HO2 := Lib.hid (show W2.ownsRow bf 40 2 (.slice (some ⟨bf, 0, none⟩) 0 0) 0 (ecells (facedN T s 0)) from by
    rw [hW2, hbf]
    exact World.ownsRow_made w1 #[] 0 (Nat.le_refl _) (Nat.zero_le _) rfl)
  have HB2 := Lib.hid (show Below bf w1 W2 ∧ bf ≤ W2.heap.size from ⟨by rw [hbf]; exact hb2, by rw [hbf]; exact hb2.size⟩)
  have HBW1 := Lib.hid hbw1
  have HR1 := Lib.hid hr1
  have HAL := Lib.hid hal
  have HOA := Lib.hid hoa
  have HON := Lib.hid hon
  have HBF := Lib.hid hbf
  have HW2 := Lib.hid hW2
  have HRY := Lib.hid (show ∀ Y, Below bf w1 Y → RowIs Y B 24 [.int .i64 N, .slice ao F cap] ∧ IntsAt Y al ((List.range F).map s.l) ∧ IntsAt Y oa (s.o.map fun (x : Nat) => (x : Int)) ∧ Below B w Y from fun Y hY => by
    rw [hbf] at hY
    exact ⟨hr1.after hY, hal.mono (Nat.le_refl _) hY, hoa.mono (Nat.le_refl _) hY, below_more hbw1 hY (by have := hr1.lt; omega)⟩)
  clear hal hoa hb1 hr1 hbw1 hb2 hbf hW2 hon c0 c1 HRD
  go_wp2
  simp only [← HBF.out]
  rw [← HW2.out]
  go_loopw [7, 8] (fun fv iv' ws => ∃ (i m : Nat), i ≤ F ∧ iv' = .int .i64 i ∧ Hid (m = (facedN T s i).length) ∧ ws.ownsRow bf 40 2 fv m (ecells (facedN T s i)) ∧ Below bf w1 ws ∧ bf ≤ ws.heap.size) (fun _ iv' _ => F - (intOf iv').toNat)
  case atStart => exact ⟨0, 0, by omega, rfl, Lib.hid rfl, HO2.out, HB2.out.1, HB2.out.2⟩
  case round =>
  clear HO2 HB2
  obtain ⟨i, m, hi, rfl, HM, hown, hbY, hsz⟩ := hrel
  obtain ⟨Y, rfl⟩ : ∃ X : World, X = wr := ⟨_, rfl⟩
  obtain ⟨fa, fc, rfl⟩ := owns_slice hown
  have hmi : m ≤ i := by rw [HM.out]; exact facedN_le T s i
  obtain ⟨hrb, hla, hoa, hbw⟩ := HRY.out Y hbY
  have HOW := Lib.hid hown
  have HBY := Lib.hid hbY
  by_cases hlt : i < F
  case neg =>
    obtain rfl : F = i := by omega
    have hfe : EdgesAt Y fa (facedN T s F) := by
      have h2 := hown
      rw [HM.out] at h2
      obtain ⟨a2, c2, e2, h3⟩ := owns_edges h2
      simp only [Value.slice.injEq, true_and] at e2
      rw [e2.1]
      exact h3
    obtain ⟨b2, hb2⟩ : ∃ b, b = Y.heap.size := ⟨_, rfl⟩
    obtain ⟨Y1, hY1⟩ : ∃ Y1, Y1 = Y.alloc (.cells #[] 40) := ⟨_, rfl⟩
    have hbY1 : Below Y.heap.size Y Y1 := by rw [hY1]; exact (Below.refl _ _).alloc (Nat.le_refl _) _
    have HS0 := Lib.hid (show RestAt Y1 (.slice (some ⟨b2, 0, none⟩) 0 0) [] from ⟨b2, 0, 0, rfl, Nat.le_refl _, by rw [hb2, hY1]; simp, fun h => absurd rfl h⟩)
    have HCX := Lib.hid (show ∀ Z, Below Y1.heap.size Y1 Z → RowIs Z B 24 [.int .i64 N, .slice ao F cap] ∧ IntsAt Z oa (s.o.map fun (x : Nat) => (x : Int)) ∧ EdgesAt Z fa (facedN T s F) ∧ Below B w Z from fun Z hZ => by
      have h2 := below_more hbY1 hZ hbY1.size
      obtain ⟨k1, k2, k3, k4⟩ := HRY.out Z (below_more hbY h2 hsz)
      exact ⟨k1, k3, hfe.mono (Nat.le_refl _) h2, k4⟩)
    have HB2 := Lib.hid hb2
    have HY1 := Lib.hid hY1
    have HMF := Lib.hid (show m = (facedN T s F).length from HM.out)
    have HFL := Lib.hid (show (facedN T s F).length ≤ 100000 from by have := facedN_le T s F; omega)
    clear hown hbY hrb hla hoa hbw hfe hb2 hY1 hbY1 HOW HBY
    go_wp2
    simp only [← HB2.out]
    rw [← HY1.out]
    go_loopw [9, 10] (fun ov iv' ws => ∃ (i : Nat) (R : List (Int × Int)), i ≤ on ∧ iv' = .int .i64 i ∧ RestAt ws ov R ∧ Hid (OutR T s i 0 R ∧ R.length ≤ 3 * i) ∧ Below Y1.heap.size Y1 ws) (fun _ iv' _ => on - (intOf iv').toNat)
    case atStart => exact ⟨0, [], by omega, rfl, HS0.out, Lib.hid ⟨OutR.init T s, by simp⟩, Below.refl _ _⟩
    case round =>
    clear HS0
    obtain ⟨i, R, hi, rfl, hra, HOR, hbZ⟩ := hrel
    obtain ⟨Z, rfl⟩ : ∃ X : World, X = wr := ⟨_, rfl⟩
    obtain ⟨ov, rfl⟩ : ∃ v, v = u9 := ⟨_, rfl⟩
    have HRA := Lib.hid hra
    have HBZ := Lib.hid hbZ
    by_cases hlt : i < on
    case neg =>
      obtain rfl : on = i := by omega
      obtain ⟨rb, roff, rcap, rfl, -⟩ := hra
      have HP := Lib.hid (show RRestP T f w (.returned (.slice (some ⟨rb, roff, none⟩) R.length rcap)) Z from by
        obtain ⟨k1, k2, k3, k4⟩ := HCX.out Z hbZ
        have h1 := HOR.out.1
        rw [HON.out] at h1
        obtain ⟨q1, q2⟩ := h1.fin HI.out
        exact ⟨_, R, rfl, HRA.out, q1, fun a => by rw [q2, HSE.out], by rw [← HBB.out]; exact k4⟩)
      clear hbZ
      go_wp2
      exact bodyPost_ret (v := .slice (some ⟨rb, roff, none⟩) R.length rcap) (by simp [results, Tryz.results18, go_sem]) rfl HP.out
    case pos =>
    have hof : s.o.getD i 0 ∈ s.o := getD_mem18 (by rw [← HON.out]; exact hlt)
    obtain ⟨t, ht⟩ : ∃ t, t = s.o.getD i 0 := ⟨_, rfl⟩
    rw [← ht] at hof
    have htF : t < F := by rw [HF.out]; exact HI.out.lt t hof
    have HTI := Lib.hid ht
    obtain ⟨ob, ooff, rfl, -, -⟩ := (HCX.out Z hbZ).2.1 (by intro e; have h9 := HON.out; have := congrArg List.length e; simp at this; rw [this] at h9; simp at h9; omega)
    have hti : I! (s.o.map fun (x : Nat) => (x : Int)) i = (t : Int) := by
      rw [ht]
      simp only [I!, List.getD_eq_getElem?_getD, List.getElem?_map]
      rw [List.getElem?_eq_getElem (by rw [← HON.out]; exact hlt)]
      rfl
    have HOC := Lib.hid (show ∀ V, Below Y1.heap.size Y1 V → V.cell? ⟨ob, ooff + i, none⟩ = some (.int .i64 (t : Int)) from fun V h => by
      obtain ⟨ob', ooff', e, -, hoc⟩ := (HCX.out V h).2.1 (by intro e; have h9 := HON.out; have := congrArg List.length e; simp at this; rw [this] at h9; simp at h9; omega)
      cases e
      have := hoc i (by rw [List.length_map, ← HON.out]; exact hlt)
      rw [hti] at this
      exact this)
    clear hra hbZ hof hti ht
    go_wp2
    go_loopw [9, 11] (fun ov kv ws => ∃ (j : Nat) (R : List (Int × Int)), j ≤ 3 ∧ kv = .int .i64 j ∧ RestAt ws ov R ∧ Hid (OutR T s i j R ∧ R.length ≤ 3 * i + j) ∧ Below Y1.heap.size Y1 ws) (fun _ kv _ => 3 - (intOf kv).toNat)
    case atStart => exact ⟨0, R, by omega, rfl, HRA.out, HOR, HBZ.out⟩
    case round =>
    clear HRA HBZ HOR
    obtain ⟨j, R, hj, rfl, hra, HOR, hbV⟩ := hrel
    obtain ⟨V, rfl⟩ : ∃ X : World, X = wr := ⟨_, rfl⟩
    obtain ⟨ov, rfl⟩ : ∃ v, v = u9 := ⟨_, rfl⟩
    have HRA := Lib.hid hra
    have HBV := Lib.hid hbV
    by_cases hj3 : j < 3
    case neg =>
      obtain rfl : j = 3 := by omega
      have HNX := Lib.hid (show OutR T s (i + 1) 0 R ∧ R.length ≤ 3 * (i + 1) from ⟨HOR.out.1.next, by have := HOR.out.2; omega⟩)
      clear hra hbV
      go_wp2
      go_roundw
      case rel => exact ⟨i + 1, R, by omega, by go_num, HRA.out, HNX, HBV.out⟩
      case measure => simp [intOf]; omega
    case pos =>
    obtain ⟨c, hc⟩ : ∃ c, c = 3 * t + j := ⟨_, rfl⟩
    have hc3 : c < 3 * F := by omega
    have hw1 : IntKind.i64.wrap (3 * (t : Int)) = 3 * (t : Int) := IntWalk.i64_in _ (by omega)
    have hw2 : IntKind.i64.wrap (c : Int) = (c : Int) := IntWalk.i64_in _ (by omega)
    have hw3 : 3 * (t : Int) + (j : Int) = (c : Int) := by omega
    have HUK := Lib.hid (ukey_flat T c)
    obtain ⟨p, hp⟩ : ∃ p, p = vt T (nxn c : Nat) := ⟨_, rfl⟩
    obtain ⟨q, hq⟩ : ∃ p, p = vt T (pvn c : Nat) := ⟨_, rfl⟩
    have HEE := Lib.hid (show ∀ w', Hid (Below V.heap.size V w') → Calls Tryz.prog 48 #[.agg #[.int .i64 N, .slice ao F cap], .int .i64 (c : Int)] w' fun e w'' => e = .returned (.agg #[.int .i64 p, .int .i64 q]) ∧ Hid (Below V.heap.size V w'') ∧ Hid (Below w'.heap.size w' w'') from fun w' h => by
      rw [hp, hq]
      exact (HEC.out w' c (HCX.out w' (below_more hbV h.out hbV.size)).2.2.2 hc3).mono fun e w'' h2 => ⟨h2.1, below_more h.out h2.2 h.out.size, h2.2⟩)
    rw [← hp, ← hq] at HUK
    obtain ⟨⟨x, y⟩, hxy⟩ : ∃ e, e = flatE p q := ⟨_, rfl⟩
    rw [← hxy] at HUK
    have HFL2 := Lib.hid (show ∀ w', Hid (Below V.heap.size V w') → Calls Tryz.prog 25 #[.agg #[.int .i64 p, .int .i64 q]] w' fun e w'' => e = .returned (.agg #[.int .i64 x, .int .i64 y]) ∧ Hid (Below V.heap.size V w'') ∧ Hid (Below w'.heap.size w' w'') from fun w' h =>
      (flat18 p q w').mono fun e w'' h2 => ⟨by rw [h2.1, ← hxy], below_more h.out h2.2 h.out.size, h2.2⟩)
    have HK := Lib.hid (show ∀ w', Hid (Below V.heap.size V w') → w'.cell? ⟨B, 0, none⟩ = some (.int .i64 N) ∧ w'.cell? ⟨B, 1, none⟩ = some (.slice ao F cap) ∧ w'.cell? ⟨ob, ooff + i, none⟩ = some (.int .i64 (t : Int)) from fun w' h => by
      have h2 := below_more hbV h.out hbV.size
      have k1 := (HCX.out w' h2).1
      exact ⟨k1.cell (i := 0) rfl, k1.cell (i := 1) rfl, HOC.out w' h2⟩)
    have HRF := Lib.hid (Below.refl V.heap.size V)
    have HDR := Lib.hid (show Below V.heap.size V V.drew from ⟨rfl, rfl, rfl, Nat.le_refl _, fun _ _ => rfl⟩)
    have bi : (0 : Int) ≤ (i : Int) ∧ (i : Int) < (on : Int) := by omega
    have HCC := Lib.hid (show ukey T (3 * s.o.getD i 0 + j) = (x, y) from by rw [← HTI.out, ← hc]; exact HUK.out)
    clear hra hbV hc hp hq hxy
    go_upto_region 15 with fail
    go_cut [12] (fun s12 wc => ∃ eb, s12 = .pointer (some ⟨eb, 0, none⟩) ∧ RowIs wc eb 40 [.int .i64 x, .int .i64 y] ∧ Hid (Below V.heap.size V wc))
    case first =>
      refine wp_region_held_drew (S := (fun w' => w'.cell? ⟨B, 0, none⟩ = some (.int .i64 N) ∧ w'.cell? ⟨B, 1, none⟩ = some (.slice ao F cap) ∧ w'.cell? ⟨ob, ooff + i, none⟩ = some (.int .i64 (t : Int)))) (by kernel_rfl) ?_ (fun hHeld0 => ?_)
      · ((try dsimp only); first | exact HK.out _ (by assumption) | exact HK.out _ (Lib.hid ((hb5.out.setCell (p := ⟨_, 0, none⟩) hgb (.int .i64 x)).setCell (p := ⟨_, 1, none⟩) hgb (.int .i64 y))) | exact HK.out _ (Lib.hid (((hb5.out.alloc hb5.out.size _).setCell (p := ⟨_, 0, none⟩) hb5.out.size (.int .i64 x)).setCell (p := ⟨_, 1, none⟩) hb5.out.size (.int .i64 y))) | exact HK.out _ (Lib.hid (hb5.out.alloc hb5.out.size _)) | exact HK.out _ (Lib.hid (by repeat (first | exact Below.refl _ _ | (with_reducible exact (by assumption : Hid (Below V.heap.size V _)).out) | with_reducible apply below_drew | with_reducible apply below_alloc))))
      refine wpAnyH_take (i := 0) (v := ?_) rfl (by kernel_rfl) (by kernel_rfl) (by kernel_rfl) (fun _ _ _ h => h) (Or.inl ⟨by rfl, ?_⟩) (by assumption) ?_
      rotate_left
      · (intro w hSw; (try dsimp only at hSw); go_simp; try with_reducible rfl)
      try simp only [List.getElem_toArray, List.getElem_cons_succ, List.getElem_cons_zero, Act.put, List.setIfInBounds_toArray, List.set_cons_zero, List.set_cons_succ]
      refine wpAnyH_take (i := 1) (v := ?_) rfl (by kernel_rfl) (by kernel_rfl) (by kernel_rfl) (fun _ _ _ h => h) (Or.inl ⟨by rfl, ?_⟩) (by assumption) ?_
      rotate_left
      · (intro w hSw; (try dsimp only at hSw); go_simp; try with_reducible rfl)
      try simp only [List.getElem_toArray, List.getElem_cons_succ, List.getElem_cons_zero, Act.put, List.setIfInBounds_toArray, List.set_cons_zero, List.set_cons_succ]
      refine wpAnyH_take (i := 2) (v := ?_) rfl (by kernel_rfl) (by kernel_rfl) (by kernel_rfl) (fun _ _ _ h => h) (Or.inl ⟨by rfl, ?_⟩) (by assumption) ?_
      rotate_left
      · (intro w hSw; (try dsimp only at hSw); go_simp; try with_reducible rfl)
      try simp only [List.getElem_toArray, List.getElem_cons_succ, List.getElem_cons_zero, Act.put, List.setIfInBounds_toArray, List.set_cons_zero, List.set_cons_succ]
      refine wpAnyH_take (i := 3) (v := ?_) rfl (by kernel_rfl) (by kernel_rfl) (by kernel_rfl) (fun _ _ _ h => h) (Or.inl ⟨by rfl, ?_⟩) (by assumption) ?_
      rotate_left
      · (intro w hSw; (try dsimp only at hSw); go_simp; try with_reducible rfl)
      try simp only [List.getElem_toArray, List.getElem_cons_succ, List.getElem_cons_zero, Act.put, List.setIfInBounds_toArray, List.set_cons_zero, List.set_cons_succ]
      refine wpAnyH_take (i := 4) (v := ?_) rfl (by kernel_rfl) (by kernel_rfl) (by kernel_rfl) (fun _ _ _ h => h) (Or.inl ⟨by rfl, ?_⟩) (by assumption) ?_
      rotate_left
      · (intro w hSw; (try dsimp only at hSw); go_simp; try with_reducible rfl)
      try simp only [List.getElem_toArray, List.getElem_cons_succ, List.getElem_cons_zero, Act.put, List.setIfInBounds_toArray, List.set_cons_zero, List.set_cons_succ]
      refine wpAnyH_take (i := 5) (v := ?_) rfl (by kernel_rfl) (by kernel_rfl) (by kernel_rfl) (fun _ _ _ h => h) (Or.inl ⟨by rfl, ?_⟩) (by assumption) ?_
      rotate_left
      · (intro w hSw; (try dsimp only at hSw); go_simp; try with_reducible rfl)
      try simp only [List.getElem_toArray, List.getElem_cons_succ, List.getElem_cons_zero, Act.put, List.setIfInBounds_toArray, List.set_cons_zero, List.set_cons_succ]
      refine wpAnyH_take (i := 6) (v := ?_) rfl (by kernel_rfl) (by kernel_rfl) (by kernel_rfl) (fun _ _ _ h => h) (Or.inl ⟨by rfl, ?_⟩) (by assumption) ?_
      rotate_left
      · (intro w hSw; (try dsimp only at hSw); go_simp; try with_reducible rfl)
      try simp only [List.getElem_toArray, List.getElem_cons_succ, List.getElem_cons_zero, Act.put, List.setIfInBounds_toArray, List.set_cons_zero, List.set_cons_succ]
      refine wpAnyH_take (i := 7) (v := ?_) rfl (by kernel_rfl) (by kernel_rfl) (by kernel_rfl) (fun _ _ _ h => h) (Or.inl ⟨by rfl, ?_⟩) (by assumption) ?_
      rotate_left
      · (intro w hSw; (try dsimp only at hSw); go_simp; try with_reducible rfl)
      try simp only [List.getElem_toArray, List.getElem_cons_succ, List.getElem_cons_zero, Act.put, List.setIfInBounds_toArray, List.set_cons_zero, List.set_cons_succ]
      refine wpAnyH_ready (rs := [8, 10]) (by kernel_rfl) (by simp) ?_
      refine AllReadyH.cons rfl (fun K hK => ?_) (AllReadyH.cons rfl (fun K hK => ?_) AllReadyH.nil)
      · skip
        go_simp
        go_wp2_with ((go_at_call 48; (with_reducible refine (HEE.out _ (by first | assumption | exact Lib.hid (by repeat (first | exact Below.refl _ _ | with_reducible apply below_drew | with_reducible apply below_alloc)))).mono ?_); rintro e w4 ⟨rfl, hb4, hc4⟩))
        refine hK.out _ _ ?_ (fun hHeld1 => ?_)
        · ((try dsimp only); first | exact HK.out _ (by assumption) | exact HK.out _ (Lib.hid ((hb5.out.setCell (p := ⟨_, 0, none⟩) hgb (.int .i64 x)).setCell (p := ⟨_, 1, none⟩) hgb (.int .i64 y))) | exact HK.out _ (Lib.hid (((hb5.out.alloc hb5.out.size _).setCell (p := ⟨_, 0, none⟩) hb5.out.size (.int .i64 x)).setCell (p := ⟨_, 1, none⟩) hb5.out.size (.int .i64 y))) | exact HK.out _ (Lib.hid (hb5.out.alloc hb5.out.size _)) | exact HK.out _ (Lib.hid (by repeat (first | exact Below.refl _ _ | (with_reducible exact (by assumption : Hid (Below V.heap.size V _)).out) | with_reducible apply below_drew | with_reducible apply below_alloc))))
        clear hK K hHeld0
        refine wpAnyH_ready (rs := [9, 10]) (by kernel_rfl) (by simp) ?_
        refine AllReadyH.cons rfl (fun K hK => ?_) (AllReadyH.cons rfl (fun K hK => ?_) AllReadyH.nil)
        · skip
          go_simp
          go_wp2_with ((go_at_call 25; (with_reducible refine (HFL2.out _ (by first | assumption | exact Lib.hid (by repeat (first | (with_reducible exact hb4.out) | with_reducible apply below_drew | with_reducible apply below_alloc)))).mono ?_); rintro e w5 ⟨rfl, hb5, hc5⟩))
          refine hK.out _ _ ?_ (fun hHeld2 => ?_)
          · ((try dsimp only); first | exact HK.out _ (by assumption) | exact HK.out _ (Lib.hid ((hb5.out.setCell (p := ⟨_, 0, none⟩) hgb (.int .i64 x)).setCell (p := ⟨_, 1, none⟩) hgb (.int .i64 y))) | exact HK.out _ (Lib.hid (((hb5.out.alloc hb5.out.size _).setCell (p := ⟨_, 0, none⟩) hb5.out.size (.int .i64 x)).setCell (p := ⟨_, 1, none⟩) hb5.out.size (.int .i64 y))) | exact HK.out _ (Lib.hid (hb5.out.alloc hb5.out.size _)) | exact HK.out _ (Lib.hid (by repeat (first | exact Below.refl _ _ | (with_reducible exact (by assumption : Hid (Below V.heap.size V _)).out) | with_reducible apply below_drew | with_reducible apply below_alloc))))
          clear hK K hHeld1
          refine wpAnyH_ready (rs := [10]) (by kernel_rfl) (by simp) ?_
          refine AllReadyH.cons rfl (fun K hK => ?_) AllReadyH.nil
          go_simp
          refine hK.out _ _ ?_ (fun hHeld3 => ?_)
          · ((try dsimp only); first | exact HK.out _ (by assumption) | exact HK.out _ (Lib.hid ((hb5.out.setCell (p := ⟨_, 0, none⟩) hgb (.int .i64 x)).setCell (p := ⟨_, 1, none⟩) hgb (.int .i64 y))) | exact HK.out _ (Lib.hid (((hb5.out.alloc hb5.out.size _).setCell (p := ⟨_, 0, none⟩) hb5.out.size (.int .i64 x)).setCell (p := ⟨_, 1, none⟩) hb5.out.size (.int .i64 y))) | exact HK.out _ (Lib.hid (hb5.out.alloc hb5.out.size _)) | exact HK.out _ (Lib.hid (by repeat (first | exact Below.refl _ _ | (with_reducible exact (by assumption : Hid (Below V.heap.size V _)).out) | with_reducible apply below_drew | with_reducible apply below_alloc))))
          clear hK K hHeld2
          refine wpAnyH_ready (rs := [11]) (by kernel_rfl) (by simp) ?_
          refine AllReadyH.cons rfl (fun K hK => ?_) AllReadyH.nil
          go_simp
          refine hK.out _ _ ?_ (fun hHeld4 => ?_)
          · ((try dsimp only); first | exact HK.out _ (by assumption) | exact HK.out _ (Lib.hid ((hb5.out.setCell (p := ⟨_, 0, none⟩) hgb (.int .i64 x)).setCell (p := ⟨_, 1, none⟩) hgb (.int .i64 y))) | exact HK.out _ (Lib.hid (((hb5.out.alloc hb5.out.size _).setCell (p := ⟨_, 0, none⟩) hb5.out.size (.int .i64 x)).setCell (p := ⟨_, 1, none⟩) hb5.out.size (.int .i64 y))) | exact HK.out _ (Lib.hid (hb5.out.alloc hb5.out.size _)) | exact HK.out _ (Lib.hid (by repeat (first | exact Below.refl _ _ | (with_reducible exact (by assumption : Hid (Below V.heap.size V _)).out) | with_reducible apply below_drew | with_reducible apply below_alloc))))
          clear hK K hHeld3
          refine wpAnyH_done (by kernel_rfl) ?_ _
          clear hHeld4
          go_wp2
          go_meet
          first
          | exact ⟨_, rfl, (kr.set 0 (.int .i64 x)).set 1 (.int .i64 y), Lib.hid ((hb5.out.setCell (p := ⟨_, 0, none⟩) hgb (.int .i64 x)).setCell (p := ⟨_, 1, none⟩) hgb (.int .i64 y))⟩
          | exact ⟨_, rfl, RowIs.made w5 40 [.int .i64 x, .int .i64 y], Lib.hid (hb5.out.alloc hb5.out.size _)⟩
          | exact ⟨_, rfl, ((RowIs.made w5 40 [.int .i64 0, .int .i64 0]).set 0 (.int .i64 x)).set 1 (.int .i64 y), Lib.hid (((hb5.out.alloc hb5.out.size _).setCell (p := ⟨_, 0, none⟩) hb5.out.size (.int .i64 x)).setCell (p := ⟨_, 1, none⟩) hb5.out.size (.int .i64 y))⟩
        · skip
          go_simp
          refine hK.out _ _ ?_ (fun hHeld5 => ?_)
          · ((try dsimp only); first | exact HK.out _ (by assumption) | exact HK.out _ (Lib.hid ((hb5.out.setCell (p := ⟨_, 0, none⟩) hgb (.int .i64 x)).setCell (p := ⟨_, 1, none⟩) hgb (.int .i64 y))) | exact HK.out _ (Lib.hid (((hb5.out.alloc hb5.out.size _).setCell (p := ⟨_, 0, none⟩) hb5.out.size (.int .i64 x)).setCell (p := ⟨_, 1, none⟩) hb5.out.size (.int .i64 y))) | exact HK.out _ (Lib.hid (hb5.out.alloc hb5.out.size _)) | exact HK.out _ (Lib.hid (by repeat (first | exact Below.refl _ _ | (with_reducible exact (by assumption : Hid (Below V.heap.size V _)).out) | with_reducible apply below_drew | with_reducible apply below_alloc))))
          clear hK K hHeld1
          refine wpAnyH_ready (rs := [9]) (by kernel_rfl) (by simp) ?_
          refine AllReadyH.cons rfl (fun K hK => ?_) AllReadyH.nil
          go_simp
          go_wp2_with ((go_at_call 25; (with_reducible refine (HFL2.out _ (by first | assumption | exact Lib.hid (by repeat (first | (with_reducible exact hb4.out) | with_reducible apply below_drew | with_reducible apply below_alloc)))).mono ?_); rintro e w5 ⟨rfl, hb5, hc5⟩; have kr : RowIs w5 w4.heap.size 40 [.int .i64 0, .int .i64 0] := (by first | exact (RowIs.made w4 40 [.int .i64 0, .int .i64 0]).after hc5.out | exact (RowIs.made w4 40 [.int .i64 0, .int .i64 0]).drew1.after hc5.out); have r0 := kr.cell (i := 0) rfl; have r1 := kr.cell (i := 1) rfl; have f0 := kr.free 0; have f1 := kr.free 1; have hgb : V.heap.size ≤ w4.heap.size := hb4.out.size))
          refine hK.out _ _ ?_ (fun hHeld6 => ?_)
          · ((try dsimp only); first | exact HK.out _ (by assumption) | exact HK.out _ (Lib.hid ((hb5.out.setCell (p := ⟨_, 0, none⟩) hgb (.int .i64 x)).setCell (p := ⟨_, 1, none⟩) hgb (.int .i64 y))) | exact HK.out _ (Lib.hid (((hb5.out.alloc hb5.out.size _).setCell (p := ⟨_, 0, none⟩) hb5.out.size (.int .i64 x)).setCell (p := ⟨_, 1, none⟩) hb5.out.size (.int .i64 y))) | exact HK.out _ (Lib.hid (hb5.out.alloc hb5.out.size _)) | exact HK.out _ (Lib.hid (by repeat (first | exact Below.refl _ _ | (with_reducible exact (by assumption : Hid (Below V.heap.size V _)).out) | with_reducible apply below_drew | with_reducible apply below_alloc))))
          clear hK K hHeld5
          refine wpAnyH_ready (rs := [11]) (by kernel_rfl) (by simp) ?_
          refine AllReadyH.cons rfl (fun K hK => ?_) AllReadyH.nil
          go_simp
          refine hK.out _ _ ?_ (fun hHeld7 => ?_)
          · ((try dsimp only); first | exact HK.out _ (by assumption) | exact HK.out _ (Lib.hid ((hb5.out.setCell (p := ⟨_, 0, none⟩) hgb (.int .i64 x)).setCell (p := ⟨_, 1, none⟩) hgb (.int .i64 y))) | exact HK.out _ (Lib.hid (((hb5.out.alloc hb5.out.size _).setCell (p := ⟨_, 0, none⟩) hb5.out.size (.int .i64 x)).setCell (p := ⟨_, 1, none⟩) hb5.out.size (.int .i64 y))) | exact HK.out _ (Lib.hid (hb5.out.alloc hb5.out.size _)) | exact HK.out _ (Lib.hid (by repeat (first | exact Below.refl _ _ | (with_reducible exact (by assumption : Hid (Below V.heap.size V _)).out) | with_reducible apply below_drew | with_reducible apply below_alloc))))
          clear hK K hHeld6
          refine wpAnyH_done (by kernel_rfl) ?_ _
          clear hHeld7
          go_wp2
          go_meet
          first
          | exact ⟨_, rfl, (kr.set 0 (.int .i64 x)).set 1 (.int .i64 y), Lib.hid ((hb5.out.setCell (p := ⟨_, 0, none⟩) hgb (.int .i64 x)).setCell (p := ⟨_, 1, none⟩) hgb (.int .i64 y))⟩
          | exact ⟨_, rfl, RowIs.made w5 40 [.int .i64 x, .int .i64 y], Lib.hid (hb5.out.alloc hb5.out.size _)⟩
          | exact ⟨_, rfl, ((RowIs.made w5 40 [.int .i64 0, .int .i64 0]).set 0 (.int .i64 x)).set 1 (.int .i64 y), Lib.hid (((hb5.out.alloc hb5.out.size _).setCell (p := ⟨_, 0, none⟩) hb5.out.size (.int .i64 x)).setCell (p := ⟨_, 1, none⟩) hb5.out.size (.int .i64 y))⟩
      · skip
        go_simp
        refine hK.out _ _ ?_ (fun hHeld8 => ?_)
        · ((try dsimp only); first | exact HK.out _ (by assumption) | exact HK.out _ (Lib.hid ((hb5.out.setCell (p := ⟨_, 0, none⟩) hgb (.int .i64 x)).setCell (p := ⟨_, 1, none⟩) hgb (.int .i64 y))) | exact HK.out _ (Lib.hid (((hb5.out.alloc hb5.out.size _).setCell (p := ⟨_, 0, none⟩) hb5.out.size (.int .i64 x)).setCell (p := ⟨_, 1, none⟩) hb5.out.size (.int .i64 y))) | exact HK.out _ (Lib.hid (hb5.out.alloc hb5.out.size _)) | exact HK.out _ (Lib.hid (by repeat (first | exact Below.refl _ _ | (with_reducible exact (by assumption : Hid (Below V.heap.size V _)).out) | with_reducible apply below_drew | with_reducible apply below_alloc))))
        clear hK K hHeld0
        refine wpAnyH_ready (rs := [8]) (by kernel_rfl) (by simp) ?_
        refine AllReadyH.cons rfl (fun K hK => ?_) AllReadyH.nil
        go_simp
        go_wp2_with ((go_at_call 48; (with_reducible refine (HEE.out _ (by first | assumption | exact Lib.hid (by repeat (first | exact Below.refl _ _ | with_reducible apply below_drew | with_reducible apply below_alloc)))).mono ?_); rintro e w4 ⟨rfl, hb4, hc4⟩; have kr4 : RowIs w4 V.heap.size 40 [.int .i64 0, .int .i64 0] := (by first | exact (RowIs.made V 40 [.int .i64 0, .int .i64 0]).after hc4.out | exact (RowIs.made V 40 [.int .i64 0, .int .i64 0]).drew1.after hc4.out)))
        refine hK.out _ _ ?_ (fun hHeld9 => ?_)
        · ((try dsimp only); first | exact HK.out _ (by assumption) | exact HK.out _ (Lib.hid ((hb5.out.setCell (p := ⟨_, 0, none⟩) hgb (.int .i64 x)).setCell (p := ⟨_, 1, none⟩) hgb (.int .i64 y))) | exact HK.out _ (Lib.hid (((hb5.out.alloc hb5.out.size _).setCell (p := ⟨_, 0, none⟩) hb5.out.size (.int .i64 x)).setCell (p := ⟨_, 1, none⟩) hb5.out.size (.int .i64 y))) | exact HK.out _ (Lib.hid (hb5.out.alloc hb5.out.size _)) | exact HK.out _ (Lib.hid (by repeat (first | exact Below.refl _ _ | (with_reducible exact (by assumption : Hid (Below V.heap.size V _)).out) | with_reducible apply below_drew | with_reducible apply below_alloc))))
        clear hK K hHeld8
        refine wpAnyH_ready (rs := [9]) (by kernel_rfl) (by simp) ?_
        refine AllReadyH.cons rfl (fun K hK => ?_) AllReadyH.nil
        go_simp
        go_wp2_with ((go_at_call 25; (with_reducible refine (HFL2.out _ (by first | assumption | exact Lib.hid (by repeat (first | (with_reducible exact hb4.out) | with_reducible apply below_drew | with_reducible apply below_alloc)))).mono ?_); rintro e w5 ⟨rfl, hb5, hc5⟩; have kr := kr4.after hc5.out; have r0 := kr.cell (i := 0) rfl; have r1 := kr.cell (i := 1) rfl; have f0 := kr.free 0; have f1 := kr.free 1; have hgb : V.heap.size ≤ V.heap.size := Nat.le_refl _))
        refine hK.out _ _ ?_ (fun hHeld10 => ?_)
        · ((try dsimp only); first | exact HK.out _ (by assumption) | exact HK.out _ (Lib.hid ((hb5.out.setCell (p := ⟨_, 0, none⟩) hgb (.int .i64 x)).setCell (p := ⟨_, 1, none⟩) hgb (.int .i64 y))) | exact HK.out _ (Lib.hid (((hb5.out.alloc hb5.out.size _).setCell (p := ⟨_, 0, none⟩) hb5.out.size (.int .i64 x)).setCell (p := ⟨_, 1, none⟩) hb5.out.size (.int .i64 y))) | exact HK.out _ (Lib.hid (hb5.out.alloc hb5.out.size _)) | exact HK.out _ (Lib.hid (by repeat (first | exact Below.refl _ _ | (with_reducible exact (by assumption : Hid (Below V.heap.size V _)).out) | with_reducible apply below_drew | with_reducible apply below_alloc))))
        clear hK K hHeld9
        refine wpAnyH_ready (rs := [11]) (by kernel_rfl) (by simp) ?_
        refine AllReadyH.cons rfl (fun K hK => ?_) AllReadyH.nil
        go_simp
        refine hK.out _ _ ?_ (fun hHeld11 => ?_)
        · ((try dsimp only); first | exact HK.out _ (by assumption) | exact HK.out _ (Lib.hid ((hb5.out.setCell (p := ⟨_, 0, none⟩) hgb (.int .i64 x)).setCell (p := ⟨_, 1, none⟩) hgb (.int .i64 y))) | exact HK.out _ (Lib.hid (((hb5.out.alloc hb5.out.size _).setCell (p := ⟨_, 0, none⟩) hb5.out.size (.int .i64 x)).setCell (p := ⟨_, 1, none⟩) hb5.out.size (.int .i64 y))) | exact HK.out _ (Lib.hid (hb5.out.alloc hb5.out.size _)) | exact HK.out _ (Lib.hid (by repeat (first | exact Below.refl _ _ | (with_reducible exact (by assumption : Hid (Below V.heap.size V _)).out) | with_reducible apply below_drew | with_reducible apply below_alloc))))
        clear hK K hHeld10
        refine wpAnyH_done (by kernel_rfl) ?_ _
        clear hHeld11
        go_wp2
        go_meet
        first
        | exact ⟨_, rfl, (kr.set 0 (.int .i64 x)).set 1 (.int .i64 y), Lib.hid ((hb5.out.setCell (p := ⟨_, 0, none⟩) hgb (.int .i64 x)).setCell (p := ⟨_, 1, none⟩) hgb (.int .i64 y))⟩
        | exact ⟨_, rfl, RowIs.made w5 40 [.int .i64 x, .int .i64 y], Lib.hid (hb5.out.alloc hb5.out.size _)⟩
        | exact ⟨_, rfl, ((RowIs.made w5 40 [.int .i64 0, .int .i64 0]).set 0 (.int .i64 x)).set 1 (.int .i64 y), Lib.hid (((hb5.out.alloc hb5.out.size _).setCell (p := ⟨_, 0, none⟩) hb5.out.size (.int .i64 x)).setCell (p := ⟨_, 1, none⟩) hb5.out.size (.int .i64 y))⟩
    case rest =>
    obtain ⟨V1, rfl⟩ : ∃ X : World, X = wc := ⟨_, rfl⟩
    obtain ⟨eb, rfl, hre, hb1⟩ := hcut
    have d0 := hre.cell (i := 0) rfl
    have d1 := hre.cell (i := 1) rfl
    have HRE := Lib.hid hre
    have HBV1 := Lib.hid (below_more HBV.out hb1.out HBV.out.size)
    have HHAS := Lib.hid (has18 (facedN T s F) fa fc x y V1 (HCX.out V1 HBV1.out).2.2.1 HFL.out)
    rw [← HMF.out] at HHAS
    have HRA1 := Lib.hid (HRA.out.more hb1.out)
    clear hre hb1 HRA hw1 hw2 hw3
    go_wp2_with fail
    refine HHAS.out.mono ?_
    rintro e V2 ⟨r, rfl, hrr, hb2⟩
    have HBV2 := Lib.hid (below_more HBV1.out hb2 HBV1.out.size)
    have hre2 := HRE.out.after hb2
    have e0 := hre2.cell (i := 0) rfl
    have e1 := hre2.cell (i := 1) rfl
    have hra2 := HRA1.out.more hb2
    have HRA2 := Lib.hid hra2
    have HRR := Lib.hid hrr
    clear hrr hb2 hre2 d0 d1 HHAS HRA1
    cases r
    case' true =>
      have HNX := Lib.hid (show OutR T s i (j + 1) R ∧ R.length ≤ 3 * i + (j + 1) from ⟨HOR.out.1.skip (by rw [HCC.out, ← HF.out]; exact HRR.out.1 rfl), by have := HOR.out.2; omega⟩)
      clear hra2
      go_wp2
      go_roundw
      case rel => exact ⟨j + 1, R, by omega, by go_num, HRA2.out, HNX, HBV2.out⟩
      case measure => simp [intOf]; omega
    case' false =>
      obtain ⟨rb, roff, rcap, rfl, hrc, hrl, hrE⟩ := hra2
      have HINS := Lib.hid (insert18 R rb roff rcap x y V2 hrE hrc (by have := HOR.out.2; omega) hrl)
      have HNF := Lib.hid (show ukey T (3 * s.o.getD i 0 + j) ∉ facedN T s T.length from by
        rw [HCC.out, ← HF.out]
        exact fun h => by have := HRR.out.2 h; cases this)
      clear hrc hrl hrE
      go_wp2_with fail
      refine HINS.out.mono ?_
      rintro e V3 ⟨v3, R3, rfl, hra3, hi3, hb3⟩
      have HNX := Lib.hid (show OutR T s i (j + 1) R3 ∧ R3.length ≤ 3 * i + (j + 1) from ⟨HOR.out.1.put HNF.out (by rw [HCC.out]; exact hi3), by have := hi3.len; have := HOR.out.2; omega⟩)
      have HRA3 := Lib.hid hra3
      have HBV3 := Lib.hid (below_more HBV2.out hb3 HBV2.out.size)
      clear hra3 hi3 hb3 HINS HRA2
      go_wp2
      go_roundw
      case rel => exact ⟨j + 1, R3, by omega, by go_num, HRA3.out, HNX, HBV3.out⟩
      case measure => simp [intOf]; omega
  case pos =>
  obtain ⟨ab, aoff, rfl, -, hac⟩ := hla (by intro e; have := congrArg List.length e; simp at this; omega)
  have cl' := hac i (by simpa using hlt)
  have hil : I! ((List.range F).map s.l) i = s.l i := by simp [I!, hlt]
  rw [hil] at cl'
  have bi : (0 : Int) ≤ (i : Int) ∧ (i : Int) < (F : Int) := by omega
  by_cases hl0 : s.l i < 0
  case pos =>
    obtain ⟨lv, hlv⟩ : ∃ l, l = s.l i := ⟨_, rfl⟩
    rw [← hlv] at cl' hl0
    have g1 : decide (lv ≥ 0) = false := by simp; omega
    have HN := Lib.hid (show facedN T s (i + 1) = facedN T s i from facedN_no (by rw [← hlv]; exact hl0))
    clear hrb hla hoa hbw hac hil hl0 hlv hown hbY
    go_wp2
    go_roundw
    case rel => exact ⟨i + 1, m, by omega, by go_num, Lib.hid (by rw [HN.out]; exact HM.out), by rw [HN.out]; exact HOW.out, HBY.out, hsz⟩
    case measure => simp [intOf]; omega
  case neg =>
  obtain ⟨c, hcl⟩ := Int.eq_ofNat_of_zero_le (show 0 ≤ s.l i by omega)
  have hc3 : c < 3 * F := by
    by_cases hm9 : i ∈ s.o
    · by_cases hr9 : i = f / 3
      · have := HI.out.rt; rw [← hr9] at this; omega
      · obtain ⟨c', e1, e2, -⟩ := HI.out.lk i hm9 hr9
        rw [HF.out]; omega
    · have := HI.out.no i hm9; omega
  rw [hcl] at cl'
  have g1 : decide ((c : Int) ≥ 0) = true := by simp
  have HN := Lib.hid (show facedN T s (i + 1) = facedN T s i ++ [ukey T c] from facedN_yes hcl)
  have HUK := Lib.hid (ukey_flat T c)
  have HEE := Lib.hid (show ∀ w', Hid (Below Y.heap.size Y w') → Calls Tryz.prog 48 #[.agg #[.int .i64 N, .slice ao F cap], .int .i64 (c : Int)] w' fun e w'' => e = .returned (.agg #[.int .i64 (vt T (nxn c : Nat)), .int .i64 (vt T (pvn c : Nat))]) ∧ Hid (Below Y.heap.size Y w'') from fun w' h =>
    (HEC.out w' c (below_more hbw h.out (by have := hrb.lt; omega)) hc3).mono fun e w'' h2 => ⟨h2.1, below_more h.out h2.2 h.out.size⟩)
  obtain ⟨p, hp⟩ : ∃ p, p = vt T (nxn c : Nat) := ⟨_, rfl⟩
  obtain ⟨q, hq⟩ : ∃ p, p = vt T (pvn c : Nat) := ⟨_, rfl⟩
  rw [← hp, ← hq] at HEE HUK
  obtain ⟨⟨x, y⟩, hxy⟩ : ∃ e, e = flatE p q := ⟨_, rfl⟩
  rw [← hxy] at HUK
  have HFL := Lib.hid (show ∀ w', Hid (Below Y.heap.size Y w') → Calls Tryz.prog 25 #[.agg #[.int .i64 p, .int .i64 q]] w' fun e w'' => e = .returned (.agg #[.int .i64 x, .int .i64 y]) ∧ Hid (Below Y.heap.size Y w'') from fun w' h =>
    (flat18 p q w').mono fun e w'' h2 => ⟨by rw [h2.1, ← hxy], below_more h.out h2.2 h.out.size⟩)
  have HK := Lib.hid (show ∀ w', Hid (Below Y.heap.size Y w') → w'.cell? ⟨B, 0, none⟩ = some (.int .i64 N) ∧ w'.cell? ⟨B, 1, none⟩ = some (.slice ao F cap) ∧ w'.cell? ⟨ab, aoff + i, none⟩ = some (.int .i64 (c : Int)) from fun w' h => by
    obtain ⟨k1, k2, k3, k4⟩ := HRY.out w' (below_more hbY h.out hsz)
    obtain ⟨ab', aoff', e, -, hac'⟩ := k2 (by intro e; have := congrArg List.length e; simp at this; omega)
    cases e
    have := hac' i (by simpa using hlt)
    rw [hil, hcl] at this
    exact ⟨k1.cell (i := 0) rfl, k1.cell (i := 1) rfl, this⟩)
  have HKZ0 := Lib.hid (show ∀ Z, Below bf w1 Z → Z.cell? ⟨B, 0, none⟩ = some (.int .i64 N) ∧ Z.cell? ⟨B, 1, none⟩ = some (.slice ao F cap) ∧ Z.cell? ⟨ab, aoff + i, none⟩ = some (.int .i64 (c : Int)) from fun Z h => by
    obtain ⟨k1, k2, k3, k4⟩ := HRY.out Z h
    obtain ⟨ab', aoff', e, -, hac'⟩ := k2 (by intro e; have := congrArg List.length e; simp at this; omega)
    cases e
    have := hac' i (by simpa using hlt)
    rw [hil, hcl] at this
    exact ⟨k1.cell (i := 0) rfl, k1.cell (i := 1) rfl, this⟩)
  have HRF := Lib.hid (Below.refl Y.heap.size Y)
  have HDR := Lib.hid (show Below Y.heap.size Y Y.drew from ⟨rfl, rfl, rfl, Nat.le_refl _, fun _ _ => rfl⟩)
  have HGO := Lib.hid (show ∀ (w5 : World) (g cp : Nat) (Z : World), Below Y.heap.size Y w5 → Z.ownsRow bf 40 2 (.slice (some ⟨g, 0, none⟩) (m + 1) cp) (m + 1) (ecells (facedN T s i) ++ [.int .i64 x, .int .i64 y]) → w5.grownBy Z (Value.slice fa m fc).ownBlock → Z.ownsRow bf 40 2 (.slice (some ⟨g, 0, none⟩) (m + 1) cp) (m + 1) (ecells (facedN T s (i + 1))) ∧ Below bf w1 Z ∧ bf ≤ Z.heap.size from fun w5 g cp Z h5 ho hg => by
    have hb5 : Below bf w1 w5 := below_more hbY h5 hsz
    have hs5 := h5.size
    refine ⟨?_, hb5.grown hg (by omega) (fun q hq => (hown.lt q hq).1), by have := hg.size; omega⟩
    rw [HN.out, HUK.out, ecells_snoc]
    exact ho)
  have HOB := Lib.hid (show ∀ w5, Below Y.heap.size Y w5 → w5.ownsRow bf 40 2 (.slice fa m fc) m (ecells (facedN T s i)) from fun w5 h => owns_below hown h)
  have HQ1 := Lib.hid (show m + 1 ≤ maxLen by unfold maxLen; omega)
  have HQ2 := Lib.hid (show (m + 1) * 16 ≤ 140737488355328 by omega)
  clear hrb hla hoa hbw hac hil hl0 hown hbY hcl hc3 hp hq hxy
  go_upto_region 7 with fail
  have HKZ' := Lib.hid (show ∀ Z, Below bf w1 Z → Z.cell? ⟨B, 0, none⟩ = some (.int .i64 N) ∧ Z.cell? ⟨B, 1, none⟩ = some (.slice ao F cap) ∧ Z.cell? ⟨ab, aoff + i, none⟩ = some (.int .i64 (c : Int)) from HKZ0.out)
  refine wp_region_held_drew (S := (fun w' => w'.cell? ⟨B, 0, none⟩ = some (.int .i64 N) ∧ w'.cell? ⟨B, 1, none⟩ = some (.slice ao F cap) ∧ w'.cell? ⟨ab, aoff + i, none⟩ = some (.int .i64 (c : Int)))) (by kernel_rfl) ?_ (fun hHeld0 => ?_)
  · ((try dsimp only); first | exact HK.out _ (by assumption) | exact HK.out _ (Lib.hid ((by assumption : Hid (Below Y.heap.size Y w5)).out.alloc (by exact ((by assumption : Hid (Below Y.heap.size Y w5)).out.size)) _)) | exact HKZ)
  refine wpAnyH_take (i := 0) (v := ?_) rfl (by kernel_rfl) (by kernel_rfl) (by kernel_rfl) (fun _ _ _ h => h) (Or.inl ⟨by rfl, ?_⟩) (by assumption) ?_
  rotate_left
  · (intro w hSw; (try dsimp only at hSw); go_simp; try with_reducible rfl)
  try simp only [List.getElem_toArray, List.getElem_cons_succ, List.getElem_cons_zero, Act.put, List.setIfInBounds_toArray, List.set_cons_zero, List.set_cons_succ]
  refine wpAnyH_take (i := 1) (v := ?_) rfl (by kernel_rfl) (by kernel_rfl) (by kernel_rfl) (fun _ _ _ h => h) (Or.inl ⟨by rfl, ?_⟩) (by assumption) ?_
  rotate_left
  · (intro w hSw; (try dsimp only at hSw); go_simp; try with_reducible rfl)
  try simp only [List.getElem_toArray, List.getElem_cons_succ, List.getElem_cons_zero, Act.put, List.setIfInBounds_toArray, List.set_cons_zero, List.set_cons_succ]
  refine wpAnyH_take (i := 2) (v := ?_) rfl (by kernel_rfl) (by kernel_rfl) (by kernel_rfl) (fun _ _ _ h => h) (Or.inl ⟨by rfl, ?_⟩) (by assumption) ?_
  rotate_left
  · (intro w hSw; (try dsimp only at hSw); go_simp; try with_reducible rfl)
  try simp only [List.getElem_toArray, List.getElem_cons_succ, List.getElem_cons_zero, Act.put, List.setIfInBounds_toArray, List.set_cons_zero, List.set_cons_succ]
  refine wpAnyH_take (i := 3) (v := ?_) rfl (by kernel_rfl) (by kernel_rfl) (by kernel_rfl) (fun _ _ _ h => h) (Or.inl ⟨by rfl, ?_⟩) (by assumption) ?_
  rotate_left
  · (intro w hSw; (try dsimp only at hSw); go_simp; try with_reducible rfl)
  try simp only [List.getElem_toArray, List.getElem_cons_succ, List.getElem_cons_zero, Act.put, List.setIfInBounds_toArray, List.set_cons_zero, List.set_cons_succ]
  refine wpAnyH_take (i := 4) (v := ?_) rfl (by kernel_rfl) (by kernel_rfl) (by kernel_rfl) (fun _ _ _ h => h) (Or.inl ⟨by rfl, ?_⟩) (by assumption) ?_
  rotate_left
  · (intro w hSw; (try dsimp only at hSw); go_simp; try with_reducible rfl)
  try simp only [List.getElem_toArray, List.getElem_cons_succ, List.getElem_cons_zero, Act.put, List.setIfInBounds_toArray, List.set_cons_zero, List.set_cons_succ]
  refine wpAnyH_take (i := 5) (v := ?_) rfl (by kernel_rfl) (by kernel_rfl) (by kernel_rfl) (fun _ _ _ h => h) (Or.inl ⟨by rfl, ?_⟩) (by assumption) ?_
  rotate_left
  · (intro w hSw; (try dsimp only at hSw); go_simp; try with_reducible rfl)
  try simp only [List.getElem_toArray, List.getElem_cons_succ, List.getElem_cons_zero, Act.put, List.setIfInBounds_toArray, List.set_cons_zero, List.set_cons_succ]
  refine wpAnyH_ready (rs := [6]) (by kernel_rfl) (by simp) ?_
  refine AllReadyH.cons rfl (fun K hK => ?_) AllReadyH.nil
  go_simp
  go_wp2_with ((go_at_call 48; (with_reducible refine (HEE.out _ (by assumption)).mono ?_); rintro e w4 ⟨rfl, hb4⟩))
  refine hK.out _ _ ?_ (fun hHeld1 => ?_)
  · ((try dsimp only); first | exact HK.out _ (by assumption) | exact HK.out _ (Lib.hid ((by assumption : Hid (Below Y.heap.size Y w5)).out.alloc (by exact ((by assumption : Hid (Below Y.heap.size Y w5)).out.size)) _)) | exact HKZ)
  clear hK K hHeld0
  refine wpAnyH_ready (rs := [7]) (by kernel_rfl) (by simp) ?_
  refine AllReadyH.cons rfl (fun K hK => ?_) AllReadyH.nil
  go_simp
  go_wp2_with ((go_at_call 25; (with_reducible refine (HFL.out _ (by assumption)).mono ?_); rintro e w5 ⟨rfl, hb5⟩; have hb6 : Hid (Below Y.heap.size Y (w5.alloc (.cells #[.int .i64 x, .int .i64 y] 40))) := Lib.hid (hb5.out.alloc hb5.out.size _)))
  refine hK.out _ _ ?_ (fun hHeld2 => ?_)
  · ((try dsimp only); first | exact HK.out _ (by assumption) | exact HK.out _ (Lib.hid ((by assumption : Hid (Below Y.heap.size Y w5)).out.alloc (by exact ((by assumption : Hid (Below Y.heap.size Y w5)).out.size)) _)) | exact HKZ)
  clear hK K hHeld1
  refine wpAnyH_ready (rs := [8]) (by kernel_rfl) (by simp) ?_
  refine AllReadyH.cons rfl (fun K hK => ?_) AllReadyH.nil
  go_simp
  refine hK.out _ _ ?_ (fun hHeld3 => ?_)
  · ((try dsimp only); first | exact HK.out _ (by assumption) | exact HK.out _ (Lib.hid ((by assumption : Hid (Below Y.heap.size Y w5)).out.alloc (by exact ((by assumption : Hid (Below Y.heap.size Y w5)).out.size)) _)) | exact HKZ)
  clear hK K hHeld2
  refine wpAnyH_ready (rs := [9]) (by kernel_rfl) (by simp) ?_
  refine AllReadyH.cons rfl (fun K hK => ?_) AllReadyH.nil
  refine step_append_lies _ (by rfl) _ _ _ (by rfl) bf 40 i0 (.agg #[.int .i64 0, .int .i64 0]) 2 16 (by kernel_rfl) hi0 hz0 hz1 hz2 rfl (by decide) (.slice fa m fc) m (ecells (facedN T s i)) (by rfl) (HOB.out _ hb6.out) ⟨w5.heap.size, 0, none⟩ 1 1 [.int .i64 x, .int .i64 y] (by rfl) rfl (World.news_of_block (heap_alloc_new _ _)) (by intro u hu; simp at hu; rcases hu with rfl | rfl <;> rfl) (by decide) HQ1.out HQ2.out (Nat.le_trans hsz hb6.out.size) (w5.heap.size + 1) (by simp) ?_
  intro g2 cap2 Z hown2 hgr2 hat2 hlt2
  have HZ := Lib.hid (HGO.out _ g2 cap2 Z hb6.out hown2 hgr2)
  obtain ⟨kz1, kz2, kz3, kz4⟩ := HRY.out Z HZ.out.2.1
  have HKZ : Z.cell? ⟨B, 0, none⟩ = some (.int .i64 N) ∧ Z.cell? ⟨B, 1, none⟩ = some (.slice ao F cap) ∧ Z.cell? ⟨ab, aoff + i, none⟩ = some (.int .i64 (c : Int)) := HKZ'.out Z HZ.out.2.1
  refine hK.out _ _ ?_ (fun hHeld4 => ?_)
  · ((try dsimp only); first | exact HK.out _ (by assumption) | exact HK.out _ (Lib.hid ((by assumption : Hid (Below Y.heap.size Y w5)).out.alloc (by exact ((by assumption : Hid (Below Y.heap.size Y w5)).out.size)) _)) | exact HKZ)
  clear hK K hHeld3
  refine wpAnyH_ready (rs := [10]) (by kernel_rfl) (by simp) ?_
  refine AllReadyH.cons rfl (fun K hK => ?_) AllReadyH.nil
  go_simp
  refine hK.out _ _ ?_ (fun hHeld5 => ?_)
  · ((try dsimp only); first | exact HK.out _ (by assumption) | exact HK.out _ (Lib.hid ((by assumption : Hid (Below Y.heap.size Y w5)).out.alloc (by exact ((by assumption : Hid (Below Y.heap.size Y w5)).out.size)) _)) | exact HKZ)
  clear hK K hHeld4
  refine wpAnyH_done (by kernel_rfl) ?_ _
  clear hHeld5
  clear hown2 hgr2 hat2 hlt2 kz1 kz2 kz3 kz4 hb6 hb5 hb4 HKZ HKZ'
  go_wp2
  go_roundw
  case rel => exact ⟨i + 1, m + 1, by omega, by go_num, Lib.hid (by rw [HN.out, List.length_append, ← HM.out]; rfl), HZ.out.1, HZ.out.2.1, HZ.out.2.2⟩
  case measure => simp [intOf]; omega
end Go.Proofs.YtkjamheoihlekaaGreat

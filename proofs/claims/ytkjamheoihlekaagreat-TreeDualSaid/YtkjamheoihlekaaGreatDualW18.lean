/- gypsumlaw18.TreeDual: the walk. -/
import Derived.Test.YtkjamheoihlekaaGreatAwake18
import Derived.Test.YtkjamheoihlekaaGreatRefRest18
namespace Go.Proofs.YtkjamheoihlekaaGreat
set_option linter.unusedVariables false
set_option linter.unusedSimpArgs false
open Go.RowKit
set_option maxRecDepth 100000 in
set_option maxHeartbeats 2000000 in
theorem rdual_out (N : Int) (ao : Option Addr) (cap len : Nat) (c : Int) (w : World) (hl : len ≤ 10000) (hc : c < 0 ∨ 3 * (len : Int) ≤ c) :
    Calls Tryz.prog 13 #[.agg #[.int .i64 N, .slice ao len cap], .int .i64 c] w fun e w' => e = .returned (.tuple #[.slice none 0 0, .slice none 0 0]) ∧ Below w.heap.size w w' := by
  obtain ⟨W0, hW0⟩ : ∃ W0, W0 = w.alloc (.cells #[.int .i64 N, .slice ao len cap] 24) := ⟨_, rfl⟩
  have hb0 : Below w.heap.size w W0 := by rw [hW0]; exact (Below.refl _ _).alloc (Nat.le_refl _) _
  have hr0 : RowIs W0 w.heap.size 24 [.int .i64 N, .slice ao len cap] := by rw [hW0]; exact RowIs.made w 24 [.int .i64 N, .slice ao len cap]
  have c0 := hr0.cell (i := 0) rfl
  have c1 := hr0.cell (i := 1) rfl
  have HIS := Lib.hid (is10_out N ao cap len c W0 hl hc)
  have HB0 := Lib.hid hb0
  have HW0 := Lib.hid hW0
  clear hb0 hr0 hW0 hc
  go_enter Tryz.func13, Tryz.ntmps13
  go_upto_region 1 with fail
  rw [← HW0.out]
  go_wp2_with fail
  refine HIS.out.mono ?_
  rintro e w1 ⟨rfl, hb1⟩
  have HB := Lib.hid (below_more HB0.out hb1 HB0.out.size)
  clear hb1 c0 c1
  go_wp2
  exact bodyPost_ret (v := .tuple #[.slice none 0 0, .slice none 0 0]) (by simp [results, Tryz.results13, go_sem]) rfl ⟨rfl, HB.out⟩
set_option maxRecDepth 100000 in
set_option maxHeartbeats 2000000 in
theorem rrest_out (N : Int) (ao : Option Addr) (cap len : Nat) (c : Int) (w : World) (hl : len ≤ 10000) (hc : c < 0 ∨ 3 * (len : Int) ≤ c) :
    Calls Tryz.prog 18 #[.agg #[.int .i64 N, .slice ao len cap], .int .i64 c] w fun e w' => ∃ a c, e = .returned (.slice a 0 c) ∧ Below w.heap.size w w' := by
  obtain ⟨W0, hW0⟩ : ∃ W0, W0 = w.alloc (.cells #[.int .i64 N, .slice ao len cap] 24) := ⟨_, rfl⟩
  have hb0 : Below w.heap.size w W0 := by rw [hW0]; exact (Below.refl _ _).alloc (Nat.le_refl _) _
  have hr0 : RowIs W0 w.heap.size 24 [.int .i64 N, .slice ao len cap] := by rw [hW0]; exact RowIs.made w 24 [.int .i64 N, .slice ao len cap]
  have c0 := hr0.cell (i := 0) rfl
  have c1 := hr0.cell (i := 1) rfl
  have HIS := Lib.hid (rdual_out N ao cap len c W0 hl hc)
  have HB0 := Lib.hid hb0
  have HW0 := Lib.hid hW0
  clear hb0 hr0 hW0 hc
  go_enter Tryz.func18, Tryz.ntmps18
  go_upto_region 1 with fail
  rw [← HW0.out]
  go_wp2_with fail
  refine HIS.out.mono ?_
  rintro e w1 ⟨rfl, hb1⟩
  have HB := Lib.hid (below_more HB0.out hb1 HB0.out.size)
  obtain ⟨W2, hW2⟩ : ∃ W2, W2 = w1.alloc (.cells #[] 40) := ⟨_, rfl⟩
  have HW2 := Lib.hid hW2
  have HB2 := Lib.hid (show Below w.heap.size w W2 from by rw [hW2]; exact HB.out.alloc HB.out.size _)
  obtain ⟨W3, hW3⟩ : ∃ W3, W3 = W2.alloc (.cells #[] 40) := ⟨_, rfl⟩
  have HW3 := Lib.hid hW3
  have HB3 := Lib.hid (show Below w.heap.size w W3 from by rw [hW3]; exact HB2.out.alloc HB2.out.size _)
  clear hb1 c0 c1 hW2 hW3
  go_wp2
  rw [← HW2.out]
  go_loopw [7, 8] (fun fv iv' ws => (∃ a c, fv = .slice a 0 c) ∧ iv' = .int .i64 0 ∧ Hid (W2 = ws)) (fun _ _ _ => 0)
  case atStart => exact ⟨⟨_, _, rfl⟩, rfl, Lib.hid rfl⟩
  case round =>
  obtain ⟨⟨fa, fc, rfl⟩, rfl, HWS⟩ := hrel
  obtain rfl : W2 = wr := HWS.out
  go_wp2
  rw [← HW3.out]
  go_loopw [9, 10] (fun ov iv' ws => (∃ a c, ov = .slice a 0 c) ∧ iv' = .int .i64 0 ∧ Hid (W3 = ws)) (fun _ _ _ => 0)
  case atStart => exact ⟨⟨_, _, rfl⟩, rfl, Lib.hid rfl⟩
  case round =>
  obtain ⟨⟨oa, oc, rfl⟩, rfl, HWS⟩ := hrel
  obtain rfl : W3 = wr := HWS.out
  go_wp2
  exact bodyPost_ret (v := .slice oa 0 oc) (by simp [results, Tryz.results18, go_sem]) rfl ⟨⟨oa, oc, rfl⟩, HB3.out⟩
theorem nodup_of {α : Type} : ∀ L : List α, ∃ D : List α, D.Nodup ∧ ∀ a, a ∈ D ↔ a ∈ L
  | [] => ⟨[], List.nodup_nil, fun a => Iff.rfl⟩
  | x :: L => by
    obtain ⟨D, h1, h2⟩ := nodup_of L
    by_cases h : x ∈ D
    · refine ⟨D, h1, fun a => ?_⟩
      rw [h2, List.mem_cons]
      exact ⟨.inr, fun q => q.elim (fun e => by rw [e]; exact (h2 x).1 h) id⟩
    · refine ⟨x :: D, List.nodup_cons.2 ⟨h, h1⟩, fun a => ?_⟩
      rw [List.mem_cons, List.mem_cons, h2]
theorem rest_few {T : List Tr} {f : Nat} {D : List (Int × Int)} (hn : D.Nodup) (h : ∀ a, a ∈ D ↔ restB T (bfs T f) a) : D.length ≤ 3 * T.length := by
  have := hn.length_le_of_subset (l₂ := (List.range (3 * T.length)).map (ukey T)) fun a ha => by
    obtain ⟨⟨c, hc, -, rfl⟩, -⟩ := (h a).1 ha
    exact List.mem_map.2 ⟨c, List.mem_range.2 hc, rfl⟩
  simpa using this
/-- The program's links and edges, and the document's, from any corner. -/
structure TreeAny (n p : Nat) (ao : Option Addr) (cap : Nat) (T : List Tr) (c : Int) (A : List Int) (R : List (Int × Int)) : Prop where
  la : A.length ≤ 100000
  lr : R.length ≤ 100000
  td : ∀ w, Tab w p n T → Calls Tryz.prog 15 #[.pointer (some ⟨p, 0, none⟩), .int .i64 c] w fun e w' => ∃ a k, e = .returned (.slice a A.length k) ∧ IntsAt w' a A ∧ Below w.heap.size w w'
  rd : ∀ w, TrisAt w ao T → Calls Tryz.prog 13 #[.agg #[.int .i64 n, .slice ao T.length cap], .int .i64 c] w fun e w' => ∃ a k a2 l2 k2, e = .returned (.tuple #[.slice a A.length k, .slice a2 l2 k2]) ∧ IntsAt w' a A ∧ Below w.heap.size w w'
  tr : ∀ w, Tab w p n T → Calls Tryz.prog 17 #[.pointer (some ⟨p, 0, none⟩), .int .i64 c] w fun e w' => ∃ a k, e = .returned (.slice a R.length k) ∧ EdgesAt w' a R ∧ Below w.heap.size w w'
  rr : ∀ w, TrisAt w ao T → Calls Tryz.prog 18 #[.agg #[.int .i64 n, .slice ao T.length cap], .int .i64 c] w fun e w' => ∃ a k, e = .returned (.slice a R.length k) ∧ EdgesAt w' a R ∧ Below w.heap.size w w'
theorem edgesAt_nil (w : World) (ao : Option Addr) : EdgesAt w ao [] := fun h => absurd rfl h
theorem intsAt_nil18 (w : World) (ao : Option Addr) : IntsAt w ao [] := fun h => absurd rfl h
theorem tree_any18 (n p : Nat) (ao : Option Addr) (cap : Nat) (T : List Tr) (c : Int) (hs : Surf n T) : ∃ A R, TreeAny n p ao cap T c A R := by
  have hl : T.length ≤ 10000 := by have := hs.t1; omega
  by_cases hc : 0 ≤ c ∧ c < 3 * (T.length : Int)
  · obtain ⟨f, rfl⟩ := Int.eq_ofNat_of_zero_le hc.1
    have hf : f < 3 * T.length := by omega
    obtain ⟨D0, hD0n, hD0⟩ : ∃ D : List (Int × Int), D.Nodup ∧ ∀ a, a ∈ D ↔ restB T (bfs T f) a := by
      classical
      obtain ⟨D, h1, h2⟩ := nodup_of (((List.range (3 * T.length)).map (ukey T)).filter fun a => decide (restB T (bfs T f) a))
      refine ⟨D, h1, fun a => ?_⟩
      · rw [h2, List.mem_filter]
        simp only [decide_eq_true_eq, List.mem_map, List.mem_range]
        constructor
        · exact fun h => h.2
        · intro h
          obtain ⟨⟨d, hd, -, e⟩, -⟩ := id h
          exact ⟨⟨d, hd, e.symm⟩, h⟩
    have hone : ∀ {D}, D.Nodup → (∀ a, a ∈ D ↔ restB T (bfs T f) a) → sortP D = sortP D0 := fun {D} h1 h2 => by
      refine sortP_one hD0n (sortP_strict h1) fun e => ?_
      rw [sortP_mem, h2, hD0]
    have hlen : ∀ D, (sortP D).length = D.length := fun D => (sortP_perm D).length_eq
    have hfew := rest_few hD0n hD0
    refine ⟨(List.range T.length).map (bfs T f).l, sortP D0, ⟨by simp; omega, by rw [hlen]; omega, fun w h => ?_, fun w h => ?_, fun w h => ?_, fun w h => ?_⟩⟩
    · refine (dual_ok p n T f w h hs hf).mono ?_
      rintro e w' ⟨gl, rfl, hr, hb⟩
      exact ⟨_, T.length, by simp, rowis_ints hr, hb⟩
    · refine (rdual18 n ao cap T f w h hs hf).mono ?_
      rintro e w' ⟨al, cl, a2, c2, rfl, h1, -, hb⟩
      exact ⟨al, cl, a2, (bfs T f).o.length, c2, by simp, h1, hb⟩
    · refine (rest_ok p n T f w h hs hf).mono ?_
      rintro e w' ⟨a, k, D, ⟨h1, h2⟩, rfl, hE, hb⟩
      rw [hone h1 h2] at hE
      exact ⟨a, k, by rw [← hone h1 h2, hlen], hE, hb⟩
    · refine (rrest18 n ao cap T f w h hs hf).mono ?_
      rintro e w' ⟨v, R, rfl, ⟨b, off, k, rfl, -, -, hE⟩, hp, hm, hb⟩
      have e : R = sortP D0 := sortP_one hD0n hp fun x => by rw [hm, hD0]
      subst e
      exact ⟨_, k, rfl, hE, hb⟩
  · have hc' : c < 0 ∨ 3 * (T.length : Int) ≤ c := by omega
    refine ⟨[], [], ⟨by simp, by simp, fun w h => ?_, fun w h => ?_, fun w h => ?_, fun w h => ?_⟩⟩
    · refine (dual_out (some ⟨p, 0, none⟩) c w (vertex_out c w p n T h hc')).mono ?_
      rintro e w' ⟨rfl, rfl⟩
      exact ⟨none, 0, rfl, intsAt_nil18 _ _, Below.refl _ _⟩
    · refine (rdual_out n ao cap T.length c w hl hc').mono ?_
      rintro e w' ⟨rfl, hb⟩
      exact ⟨none, 0, none, 0, 0, rfl, intsAt_nil18 _ _, hb⟩
    · refine (rest_out (some ⟨p, 0, none⟩) c w (vertex_out c w p n T h hc')).mono ?_
      rintro e w' ⟨rfl, rfl⟩
      exact ⟨none, 0, rfl, edgesAt_nil _ _, Below.refl _ _⟩
    · refine (rrest_out n ao cap T.length c w hl hc').mono ?_
      rintro e w' ⟨a, k, rfl, hb⟩
      exact ⟨a, k, rfl, edgesAt_nil _ _, hb⟩
set_option maxRecDepth 100000 in
set_option maxHeartbeats 4000000 in
theorem treedual_any (N : Int) (ao : Option Addr) (cap : Nat) (T : List Tr) (c : Int) (w : World) (hT : TrisAt w ao T) (hm : T.length ≤ 9223372036854775807) :
    Calls Tryz.prog 3 #[.agg #[.int .i64 N, .slice ao T.length cap], .int .i64 c] w fun e w' => e = .returned (.bool true) ∧ Below w.heap.size w w' := by
  obtain ⟨xb, hxb⟩ : ∃ b, b = w.heap.size := ⟨_, rfl⟩
  obtain ⟨W0, hW0⟩ : ∃ W0, W0 = w.alloc (.cells #[.int .i64 N, .slice ao T.length cap] 24) := ⟨_, rfl⟩
  have hb0 : Below w.heap.size w W0 := by rw [hW0]; exact (Below.refl _ _).alloc (Nat.le_refl _) _
  have hr0 : RowIs W0 xb 24 [.int .i64 N, .slice ao T.length cap] := by rw [hW0, hxb]; exact RowIs.made w 24 [.int .i64 N, .slice ao T.length cap]
  have HAW := Lib.hid (awake18 W0)
  have HT := Lib.hid (hT.mono (Nat.le_refl _) hb0)
  have HR := Lib.hid hr0
  have HB0 := Lib.hid hb0
  have HW0 := Lib.hid hW0
  have HXB := Lib.hid hxb
  clear hb0 hr0 hW0 hT hxb
  go_enter Tryz.func3, Tryz.ntmps3
  go_upto_region 1 with fail
  simp only [← HXB.out]
  rw [← HW0.out]
  go_wp2_with fail
  refine HAW.out.mono ?_
  rintro e w1 ⟨rfl, hb1⟩
  have hr1 := HR.out.after hb1
  have x0 := hr1.cell (i := 0) rfl
  have x1 := hr1.cell (i := 1) rfl
  have HB1 := Lib.hid hb1
  have HL := Lib.hid (laid_any N ao cap T w1 (HT.out.mono (Nat.le_refl _) hb1) hm)
  clear hb1 hr1 HAW
  go_wp2_with fail
  refine HL.out.mono ?_
  intro e w2 hpost
  rcases hpost with ⟨n, p, hN, rfl, hp, htab, -, hsurf, ht40, hn60, hb2⟩ | ⟨rfl, -, hb2⟩
  case inr =>
    have HF := Lib.hid (below_more HB0.out (below_more HB1.out hb2 HB1.out.size) HB0.out.size)
    clear hb2 x0 x1
    go_wp2
    exact bodyPost_ret (v := .bool true) (by simp [results, Tryz.results3, go_sem]) rfl ⟨rfl, HF.out⟩
  case inl =>
  subst hN
  have HB2 := Lib.hid (below_more HB1.out hb2 HB1.out.size)
  have hr2 := HR.out.after HB2.out
  have y0 := hr2.cell (i := 0) rfl
  have y1 := hr2.cell (i := 1) rfl
  obtain ⟨A, R, hany⟩ := tree_any18 n p ao cap T c hsurf
  obtain ⟨al, hal⟩ : ∃ l, l = A.length := ⟨_, rfl⟩
  obtain ⟨rl, hrl⟩ : ∃ l, l = R.length := ⟨_, rfl⟩
  have HANY := Lib.hid hany
  have HALE := Lib.hid hal
  have HRLE := Lib.hid hrl
  have HTAB := Lib.hid htab
  have HRD := Lib.hid (hany.rd w2 (HT.out.mono (Nat.le_refl _) HB2.out))
  rw [← hal] at HRD
  clear hb2 x0 x1 hr2 hany hal hrl htab hsurf HL
  go_wp2_with fail
  refine HRD.out.mono ?_
  rintro e w3 ⟨aL, cL, a2, l2, c2, rfl, hiL, hb3⟩
  have HB3 := Lib.hid (below_more HB2.out hb3 HB2.out.size)
  have HTX := Lib.hid (show ∀ w', Hid (Below w3.heap.size w3 w') → Tab w' p n T ∧ TrisAt w' ao T ∧ RowIs w' xb 24 [.int .i64 (n : Int), .slice ao T.length cap] ∧ IntsAt w' aL A from fun w' h => by
    have h1 := below_more hb3 h.out hb3.size
    have h2 := below_more HB3.out h.out HB3.out.size
    exact ⟨HTAB.out.mono (Nat.le_refl _) h1, HT.out.mono (Nat.le_refl _) h2, HR.out.after h2, hiL.mono (Nat.le_refl _) h.out⟩)
  have HK := Lib.hid (show ∀ w', Hid (Below w3.heap.size w3 w') → w'.cell? ⟨xb, 0, none⟩ = some (.int .i64 (n : Int)) ∧ w'.cell? ⟨xb, 1, none⟩ = some (.slice ao T.length cap) from fun w' h => ⟨(HTX.out w' h).2.2.1.cell (i := 0) rfl, (HTX.out w' h).2.2.1.cell (i := 1) rfl⟩)
  have HRF := Lib.hid (Below.refl w3.heap.size w3)
  have HDR := Lib.hid (show Below w3.heap.size w3 w3.drew from ⟨rfl, rfl, rfl, Nat.le_refl _, fun _ _ => rfl⟩)
  have HTD := Lib.hid (show ∀ w', Hid (Below w3.heap.size w3 w') → Calls Tryz.prog 15 #[.pointer (some ⟨p, 0, none⟩), .int .i64 c] w' fun e w'' => ∃ a k, e = .returned (.slice a al k) ∧ Hid (IntsAt w'' a A) ∧ Hid (Below w3.heap.size w3 w'') from fun w' h => by
    rw [HALE.out]
    refine (HANY.out.td w' (HTX.out w' h).1).mono ?_
    rintro e w'' ⟨a, k, h1, h2, h3⟩
    exact ⟨a, k, h1, h2, below_more h.out h3 h.out.size⟩)
  have HRW := Lib.hid (show ∀ w' a k, Hid (IntsAt w' a A) → Hid (Below w3.heap.size w3 w') → Calls Tryz.prog 14 #[.slice a al k, .slice aL al cL] w' fun e w'' => e = .returned (.bool true) ∧ Hid (Below w3.heap.size w3 w'') from fun w' a k h1 h => by
    rw [HALE.out]
    refine (rows18 A A a aL k cL w' h1.out (HTX.out w' h).2.2.2 (by have := HANY.out.la; omega) (by have := HANY.out.la; omega)).mono ?_
    rintro e w'' ⟨r, rfl, h2, h3⟩
    rw [h2.2 rfl]
    exact ⟨rfl, below_more h.out h3 h.out.size⟩)
  have HTR := Lib.hid (show ∀ w', Hid (Below w3.heap.size w3 w') → Calls Tryz.prog 17 #[.pointer (some ⟨p, 0, none⟩), .int .i64 c] w' fun e w'' => ∃ a k, e = .returned (.slice a rl k) ∧ Hid (EdgesAt w'' a R) ∧ Hid (Below w3.heap.size w3 w'') from fun w' h => by
    rw [HRLE.out]
    refine (HANY.out.tr w' (HTX.out w' h).1).mono ?_
    rintro e w'' ⟨a, k, h1, h2, h3⟩
    exact ⟨a, k, h1, h2, below_more h.out h3 h.out.size⟩)
  have HRR := Lib.hid (show ∀ w', Hid (Below w3.heap.size w3 w') → Calls Tryz.prog 18 #[.agg #[.int .i64 (n : Int), .slice ao T.length cap], .int .i64 c] w' fun e w'' => ∃ a k, e = .returned (.slice a rl k) ∧ Hid (EdgesAt w'' a R) ∧ Hid (Below w'.heap.size w' w'') ∧ Hid (Below w3.heap.size w3 w'') from fun w' h => by
    rw [HRLE.out]
    refine (HANY.out.rr w' (HTX.out w' h).2.1).mono ?_
    rintro e w'' ⟨a, k, h1, h2, h3⟩
    exact ⟨a, k, h1, h2, h3, below_more h.out h3 h.out.size⟩)
  have HED := Lib.hid (show ∀ w' a k a' k', Hid (EdgesAt w' a R) → Hid (EdgesAt w' a' R) → Hid (Below w3.heap.size w3 w') → Calls Tryz.prog 16 #[.slice a rl k, .slice a' rl k'] w' fun e w'' => e = .returned (.bool true) ∧ Hid (Below w3.heap.size w3 w'') from fun w' a k a' k' h1 h1' h => by
    rw [HRLE.out]
    refine (edges18 R R a a' k k' w' h1.out h1'.out (by have := HANY.out.lr; omega) (by have := HANY.out.lr; omega)).mono ?_
    rintro e w'' ⟨r, rfl, h2, h3⟩
    rw [h2.2 rfl]
    exact ⟨rfl, below_more h.out h3 h.out.size⟩)
  have HDN := Lib.hid (show ∀ w', Calls Tryz.prog 15 #[.pointer none, .int .i64 c] w' fun e w'' => e = .returned (.slice none 0 0) ∧ w' = w'' from fun w' => dual_out none c w' (vertex_nil c w'))
  have HRN := Lib.hid (show ∀ w', Calls Tryz.prog 17 #[.pointer none, .int .i64 c] w' fun e w'' => e = .returned (.slice none 0 0) ∧ w' = w'' from fun w' => rest_out none c w' (vertex_nil c w'))
  have HFW := Lib.hid (show ∀ w', Hid (Below w3.heap.size w3 w') → Below w.heap.size w w' from fun w' h => below_more HB0.out (below_more HB3.out h.out HB3.out.size) HB0.out.size)
  clear hiL hb3 y0 y1 HRD HB0 HB1 HB2 HB3
  go_upto_region 7 with fail
  go_region_held3 (fun w' => w'.cell? ⟨xb, 0, none⟩ = some (.int .i64 (n : Int)) ∧ w'.cell? ⟨xb, 1, none⟩ = some (.slice ao T.length cap))
    (exact HK.out _ (by assumption))
    (first
      | (go_at_call 15; (with_reducible refine (HTD.out _ (by assumption)).mono ?_); rintro e wA ⟨aA, cA, rfl, hA, hbA⟩)
      | (go_at_call 14; (with_reducible refine (HRW.out _ _ _ hA (by assumption)).mono ?_); rintro e wB ⟨rfl, hbB⟩)
      | (go_at_call 17; (with_reducible refine (HTR.out _ (by assumption)).mono ?_); rintro e wC ⟨aC, cC, rfl, hC, hbC⟩)
      | (go_at_call 18; (with_reducible refine (HRR.out _ (by assumption)).mono ?_); rintro e wD ⟨aD, cD, rfl, hD, hCD, hbD⟩; have hC2 := Lib.hid (hC.out.mono (Nat.le_refl _) hCD.out))
      | (go_at_call 16; (with_reducible refine (HED.out _ _ _ _ _ hC2 hD (by assumption)).mono ?_); rintro e wE ⟨rfl, hbE⟩)
      | (go_at_call 15; (with_reducible refine (HDN.out _).mono ?_); rintro e wF ⟨rfl, rfl⟩)
      | (go_at_call 17; (with_reducible refine (HRN.out _).mono ?_); rintro e wG ⟨rfl, rfl⟩))
  have HF := Lib.hid (HFW.out _ hbE)
  clear hA hbA hbB hC hbC hD hbD hC2 hbE hCD
  go_wp2
  exact bodyPost_ret (v := .bool true) (by simp [results, Tryz.results3, go_sem]) rfl ⟨rfl, HF.out⟩
end Go.Proofs.YtkjamheoihlekaaGreat

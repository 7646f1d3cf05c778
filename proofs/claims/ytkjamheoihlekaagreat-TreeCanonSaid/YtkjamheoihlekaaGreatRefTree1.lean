/- gypsumref18: Flat, Has, Degree, Less. gypsumlaw18: rows, edges: are two rows one? -/
import Derived.Test.YtkjamheoihlekaaGreatRef10a
import Derived.Test.YtkjamheoihlekaaGreatPathLaw
import Derived.Test.YtkjamheoihlekaaGreatInsLaw
import Derived.Test.YtkjamheoihlekaaGreatBordEdge
import Derived.Test.YtkjamheoihlekaaGreatTreePrune1
import Derived.Test.YtkjamheoihlekaaGreatRowl
namespace Go.Proofs.YtkjamheoihlekaaGreat
set_option linter.unusedVariables false
set_option linter.unusedSimpArgs false
open Go.RowKit
set_option maxRecDepth 100000 in
set_option maxHeartbeats 2000000 in
theorem flat18 (x y : Int) (w : World) :
    Calls Tryz.prog 25 #[.agg #[.int .i64 x, .int .i64 y]] w fun e w' => e = .returned (.agg #[.int .i64 (flatE x y).1, .int .i64 (flatE x y).2]) ∧ Below w.heap.size w w' := by
  by_cases h : x > y
  · have e : flatE x y = (y, x) := by unfold flatE; rw [Int.min_eq_right (by omega), Int.max_eq_left (by omega)]
    rw [e]
    have g1 : decide (x > y) = true := by simpa using h
    clear e h
    go_enter Tryz.func25, Tryz.ntmps25
    go_wp2
    have hr : RowIs ((w.alloc (.cells #[.int .i64 x, .int .i64 y] 40)).alloc (.cells #[.int .i64 y, .int .i64 x] 40)) (w.heap.size + 1) 40 [.int .i64 y, .int .i64 x] := RowIs.made' _ _ [.int .i64 y, .int .i64 x] _ (by simp)
    have e0 := hr.cell (i := 0) rfl
    have e1 := hr.cell (i := 1) rfl
    exact bodyPost_ret (v := .agg #[.int .i64 y, .int .i64 x]) (by simp [results, Tryz.results25, go_sem, e0, e1]) rfl ⟨rfl, ((Below.refl _ _).alloc (Nat.le_refl _) _).alloc (by simp) _⟩
  · have e : flatE x y = (x, y) := by unfold flatE; rw [Int.min_eq_left (by omega), Int.max_eq_right (by omega)]
    rw [e]
    have g1 : decide (x > y) = false := by simpa using h
    clear e h
    go_enter Tryz.func25, Tryz.ntmps25
    go_wp2
    have hr : RowIs ((w.alloc (.cells #[.int .i64 x, .int .i64 y] 40)).alloc (.cells #[.int .i64 x, .int .i64 y] 40)) (w.heap.size + 1) 40 [.int .i64 x, .int .i64 y] := RowIs.made' _ _ [.int .i64 x, .int .i64 y] _ (by simp)
    have e0 := hr.cell (i := 0) rfl
    have e1 := hr.cell (i := 1) rfl
    exact bodyPost_ret (v := .agg #[.int .i64 x, .int .i64 y]) (by simp [results, Tryz.results25, go_sem, e0, e1]) rfl ⟨rfl, ((Below.refl _ _).alloc (Nat.le_refl _) _).alloc (by simp) _⟩
set_option maxRecDepth 100000 in
set_option maxHeartbeats 2000000 in
theorem degree18 (E : List (Int × Int)) (ao : Option Addr) (cap : Nat) (v : Int) (w : World) (hE : EdgesAt w ao E) (hl : E.length ≤ 100000) :
    Calls Tryz.prog 22 #[.slice ao E.length cap, .int .i64 v] w fun e w' => e = .returned (.int .i64 (degE E v : Nat)) ∧ w = w' := by
  obtain ⟨n, hn⟩ : ∃ n, n = E.length := ⟨_, rfl⟩
  have HE := Lib.hid hE
  have HN := Lib.hid hn
  rw [← hn] at hl ⊢
  clear hE hn
  go_enter Tryz.func22, Tryz.ntmps22
  go_wp2
  go_loopw [5, 6] (fun d i ws => ∃ k : Nat, k ≤ n ∧ i = .int .i64 k ∧ d = .int .i64 (degE (E.take k) v : Nat) ∧ Hid (w = ws)) (fun _ i _ => n - (intOf i).toNat)
  case atStart => exact ⟨0, by omega, rfl, by simp [degE], Lib.hid rfl⟩
  case round =>
  obtain ⟨k, hk, rfl, rfl, HW⟩ := hrel
  obtain rfl : w = wr := HW.out
  by_cases hlt : k < n
  case neg =>
    obtain rfl : k = n := by omega
    have HD := Lib.hid (show degE (E.take k) v = degE E v from by rw [HN.out, List.take_length])
    go_wp2
    go_ret
    exact ⟨by rw [HD.out]; rfl, rfl⟩
  case pos =>
  obtain ⟨eb, off, rfl, hlt', hc⟩ := HE.out (by intro e; have := HN.out; rw [e] at this; simp at this; omega)
  obtain ⟨c1, c2⟩ := hc k (by rw [← HN.out]; exact hlt)
  have hdt := degE_take (E := E) (k := k) (by rw [← HN.out]; exact hlt) v
  have hle := degE_le (E.take k) v
  have htl : (E.take k).length ≤ 100000 := by rw [List.length_take]; omega
  obtain ⟨⟨a, b⟩, hab⟩ : ∃ e, e = E! E k := ⟨_, rfl⟩
  rw [← hab] at c1 c2 hdt
  simp only at c1 c2 hdt
  obtain ⟨d, hd⟩ : ∃ d, d = degE (E.take k) v := ⟨_, rfl⟩
  rw [← hd] at hdt hle ⊢
  have bk : (0 : Int) ≤ (k : Int) ∧ (k : Int) < (n : Int) := by omega
  have HDT := Lib.hid hdt
  clear hc hdt hab hd hlt'
  by_cases h1 : a = v <;> by_cases h2 : b = v
  · have g1 : (a == v) = true := by simpa using h1
    have g2 : (b == v) = true := by simpa using h2
    have HF := Lib.hid (show degE (E.take (k + 1)) v = d + 1 + 1 from by rw [HDT.out, if_pos h1.symm, if_pos h2.symm])
    clear h1 h2
    go_wp2
    go_roundw
    case rel => exact ⟨k + 1, by omega, by go_num, by rw [HF.out]; go_num, by first | exact Lib.hid rfl | trivial⟩
    case measure => simp [intOf]; omega
  · have g1 : (a == v) = true := by simpa using h1
    have g2 : (b == v) = false := by simpa using h2
    have HF := Lib.hid (show degE (E.take (k + 1)) v = d + 1 from by rw [HDT.out, if_pos h1.symm, if_neg (fun q => h2 q.symm)])
    clear h1 h2
    go_wp2
    go_roundw
    case rel => exact ⟨k + 1, by omega, by go_num, by rw [HF.out]; go_num, by first | exact Lib.hid rfl | trivial⟩
    case measure => simp [intOf]; omega
  · have g1 : (a == v) = false := by simpa using h1
    have g2 : (b == v) = true := by simpa using h2
    have HF := Lib.hid (show degE (E.take (k + 1)) v = d + 1 from by rw [HDT.out, if_neg (fun q => h1 q.symm), if_pos h2.symm])
    clear h1 h2
    go_wp2
    go_roundw
    case rel => exact ⟨k + 1, by omega, by go_num, by rw [HF.out]; go_num, by first | exact Lib.hid rfl | trivial⟩
    case measure => simp [intOf]; omega
  · have g1 : (a == v) = false := by simpa using h1
    have g2 : (b == v) = false := by simpa using h2
    have HF := Lib.hid (show degE (E.take (k + 1)) v = d from by rw [HDT.out, if_neg (fun q => h1 q.symm), if_neg (fun q => h2 q.symm)]; rfl)
    clear h1 h2
    go_wp2
    go_roundw
    case rel => exact ⟨k + 1, by omega, by go_num, by rw [HF.out], by first | exact Lib.hid rfl | trivial⟩
    case measure => simp [intOf]; omega
set_option maxRecDepth 100000 in
set_option maxHeartbeats 4000000 in
theorem has18 (E : List (Int × Int)) (ao : Option Addr) (cap : Nat) (x y : Int) (w : World) (hE : EdgesAt w ao E) (hl : E.length ≤ 100000) :
    Calls Tryz.prog 21 #[.slice ao E.length cap, .agg #[.int .i64 x, .int .i64 y]] w fun e w' => ∃ r : Bool, e = .returned (.bool r) ∧ (r = true ↔ (x, y) ∈ E) ∧ Below w.heap.size w w' := by
  obtain ⟨n, hn⟩ : ∃ n, n = E.length := ⟨_, rfl⟩
  obtain ⟨xb, hxb⟩ : ∃ b, b = w.heap.size := ⟨_, rfl⟩
  obtain ⟨W0, hW0⟩ : ∃ W0, W0 = w.alloc (.cells #[.int .i64 x, .int .i64 y] 40) := ⟨_, rfl⟩
  have hb0 : Below xb w W0 := by rw [hW0, hxb]; exact (Below.refl _ _).alloc (Nat.le_refl _) _
  have hr0 : RowIs W0 xb 40 [.int .i64 x, .int .i64 y] := by rw [hW0, hxb]; exact RowIs.made w 40 [.int .i64 x, .int .i64 y]
  have HE := Lib.hid (hE.mono (B := xb) (by rw [hxb]; exact Nat.le_refl _) hb0)
  have HN := Lib.hid hn
  have HXB := Lib.hid hxb
  have HW0 := Lib.hid hW0
  have HR0 := Lib.hid hr0
  have HB0 := Lib.hid hb0
  rw [← hn] at hl ⊢
  clear hE hn hxb hW0 hr0 hb0
  go_enter Tryz.func21, Tryz.ntmps21
  go_upto_region 1 with fail
  simp only [← HXB.out]
  rw [← HW0.out]
  go_wp2
  go_loopw [5] (fun i ws => ∃ k : Nat, k ≤ n ∧ i = .int .i64 k ∧ Hid (∀ j, j < k → E! E j ≠ (x, y)) ∧ Below W0.heap.size W0 ws) (fun i _ => n - (intOf i).toNat)
  case atStart => exact ⟨0, by omega, rfl, Lib.hid fun j hj => by omega, Below.refl _ _⟩
  case round =>
  obtain ⟨k, hk, rfl, HNO, hb⟩ := hrel
  obtain ⟨X, rfl⟩ : ∃ X : World, X = wr := ⟨_, rfl⟩
  have HBF := Lib.hid (show Below xb w X from HB0.out.trans (hb.mono (by have := HR0.out.lt; omega)))
  by_cases hlt : k < n
  case neg =>
    obtain rfl : k = n := by omega
    have HF := Lib.hid (show (x, y) ∉ E from fun hm => by
      obtain ⟨j, hj, he⟩ := List.mem_iff_getElem.1 hm
      exact HNO.out j (by rw [HN.out]; exact hj) (by unfold E!; rw [List.getD_eq_getElem?_getD, List.getElem?_eq_getElem hj, he]; rfl))
    clear hb
    go_wp2
    exact bodyPost_ret (v := .bool false) (by simp [results, Tryz.results21, go_sem]) rfl ⟨false, rfl, ⟨fun h => (by cases h), fun h => absurd h HF.out⟩, by rw [← HXB.out]; exact HBF.out⟩
  case pos =>
  obtain ⟨eb, off, rfl, hlt', hc⟩ := (HE.out.mono (Nat.le_refl _) hb) (by intro e; have := HN.out; rw [e] at this; simp at this; omega)
  obtain ⟨c1, c2⟩ := hc k (by rw [← HN.out]; exact hlt)
  have hr := HR0.out.after hb
  have d1 := hr.cell (i := 0) rfl
  have d2 := hr.cell (i := 1) rfl
  obtain ⟨⟨a, b⟩, hab⟩ : ∃ e, e = E! E k := ⟨_, rfl⟩
  rw [← hab] at c1 c2
  obtain ⟨t, ht⟩ : ∃ t, t = (a == x && b == y) := ⟨_, rfl⟩
  have hte : ∀ w, (Op.equalIn 10000 40 (.agg #[.int .i64 a, .int .i64 b]) (.agg #[.int .i64 x, .int .i64 y])).run Tryz.prog w = .ok t w := fun w => by rw [ht]; exact edge_equal a b x y w
  have bk : (0 : Int) ≤ (k : Int) ∧ (k : Int) < (n : Int) := by omega
  have HTT := Lib.hid (show t = true ↔ E! E k = (x, y) from by
    rw [ht, ← hab]
    simp [Prod.ext_iff])
  have HMM := Lib.hid (show E! E k ∈ E from E!_mem (by rw [← HN.out]; exact hlt))
  have HQN := Lib.hid (show ∀ q, Below W0.heap.size W0 (X.drewN q) ∧ Below xb w (X.drewN q) from fun q => ⟨below_drewN hb q, below_drewN HBF.out q⟩)
  clear hc hab hlt' hr ht hb
  cases t
  case false =>
    have HNX := Lib.hid (show ∀ j, j < k + 1 → E! E j ≠ (x, y) from fun j hj => by
      by_cases e : j = k
      · subst e; exact fun h => by have := HTT.out.2 h; cases this
      · exact HNO.out j (by omega))
    go_wp2
    go_quiet (fail)
    rename_i nq
    have HQ := Lib.hid (HQN.out nq).1
    go_wp2
    go_roundw
    case rel => exact ⟨k + 1, by omega, by go_num, HNX, HQ.out⟩
    case measure => simp [intOf]; omega
  case true =>
    have HIN := Lib.hid (show (x, y) ∈ E from (HTT.out.1 rfl) ▸ HMM.out)
    go_wp2
    go_quiet (fail)
    rename_i nq
    have HQ := Lib.hid (HQN.out nq).2
    go_wp2
    exact bodyPost_ret (v := .bool true) (by simp [results, Tryz.results21, go_sem]) rfl ⟨true, rfl, ⟨fun _ => HIN.out, fun _ => rfl⟩, by rw [← HXB.out]; exact HQ.out⟩
theorem I!_ext {A B : List Int} (hl : A.length = B.length) (h : ∀ i, i < A.length → I! A i = I! B i) : A = B := by
  apply List.ext_getElem hl
  intro i h1 h2
  have := h i h1
  simpa [I!, h1, h2] using this
theorem E!_ext {A B : List (Int × Int)} (hl : A.length = B.length) (h : ∀ i, i < A.length → E! A i = E! B i) : A = B := by
  apply List.ext_getElem hl
  intro i h1 h2
  have := h i h1
  simpa [E!, h1, h2] using this
set_option maxRecDepth 100000 in
set_option maxHeartbeats 4000000 in
theorem rows18 (A B : List Int) (ao bo : Option Addr) (ac bc : Nat) (w : World) (hA : IntsAt w ao A) (hB : IntsAt w bo B) (la : A.length ≤ 1000000) (lb : B.length ≤ 1000000) :
    Calls Tryz.prog 14 #[.slice ao A.length ac, .slice bo B.length bc] w fun e w' => ∃ r : Bool, e = .returned (.bool r) ∧ (r = true ↔ A = B) ∧ Below w.heap.size w w' := by
  obtain ⟨n, hn⟩ : ∃ n, n = A.length := ⟨_, rfl⟩
  obtain ⟨m, hm⟩ : ∃ n, n = B.length := ⟨_, rfl⟩
  have HA := Lib.hid hA
  have HB := Lib.hid hB
  have HN := Lib.hid hn
  have HM := Lib.hid hm
  rw [← hn] at la ⊢
  rw [← hm] at lb ⊢
  clear hA hB hn hm
  by_cases hl : n = m
  case neg =>
    have g1 : ((n : Int) != (m : Int)) = true := by simp; omega
    have HNE := Lib.hid (show A ≠ B from fun e => hl (by rw [HN.out, HM.out, e]))
    clear hl
    go_enter Tryz.func14, Tryz.ntmps14
    go_wp2
    exact bodyPost_ret (v := .bool false) (by simp [results, Tryz.results14, go_sem]) rfl ⟨false, rfl, ⟨fun h => (by cases h), fun h => absurd h HNE.out⟩, Below.refl _ _⟩
  case pos =>
  subst hl
  go_enter Tryz.func14, Tryz.ntmps14
  go_wp2
  go_loopw [13] (fun v ws => ∃ i : Nat, i ≤ n ∧ v = .int .i64 i ∧ Hid (∀ j, j < i → I! A j = I! B j) ∧ Below w.heap.size w ws) (fun v _ => n - (intOf v).toNat)
  case atStart => exact ⟨0, by omega, rfl, Lib.hid fun j hj => by omega, Below.refl _ _⟩
  case round =>
  obtain ⟨i, hi, rfl, HE, hb⟩ := hrel
  obtain ⟨X, rfl⟩ : ∃ X : World, X = wr := ⟨_, rfl⟩
  have HBF := Lib.hid hb
  by_cases hlt : i < n
  case neg =>
    obtain rfl : i = n := by omega
    have HF := Lib.hid (show A = B from I!_ext (by rw [← HN.out, ← HM.out]) fun j hj => HE.out j (by rw [HN.out]; exact hj))
    clear hb
    go_wp2
    exact bodyPost_ret (v := .bool true) (by simp [results, Tryz.results14, go_sem]) rfl ⟨true, rfl, ⟨fun _ => HF.out, fun _ => rfl⟩, HBF.out⟩
  case pos =>
  obtain ⟨ab, aoff, rfl, -, hac⟩ := (HA.out.mono (Nat.le_refl _) hb) (by intro e; have := HN.out; rw [e] at this; simp at this; omega)
  obtain ⟨bb, boff, rfl, -, hbc⟩ := (HB.out.mono (Nat.le_refl _) hb) (by intro e; have := HM.out; rw [e] at this; simp at this; omega)
  have c1 := hac i (by rw [← HN.out]; exact hlt)
  have c2 := hbc i (by rw [← HM.out]; exact hlt)
  obtain ⟨x, hx⟩ : ∃ x, x = I! A i := ⟨_, rfl⟩
  obtain ⟨y, hy⟩ : ∃ x, x = I! B i := ⟨_, rfl⟩
  rw [← hx] at c1
  rw [← hy] at c2
  have bi : (0 : Int) ≤ (i : Int) ∧ (i : Int) < (n : Int) := by omega
  have HXY := Lib.hid (show x = I! A i ∧ y = I! B i from ⟨hx, hy⟩)
  have HQN := Lib.hid (show ∀ q, Below w.heap.size w (X.drewN q) from fun q => below_drewN hb q)
  clear hac hbc hx hy hb
  by_cases hxy : x = y
  · have g1 : (x != y) = false := by simp [hxy]
    have HNX := Lib.hid (show ∀ j, j < i + 1 → I! A j = I! B j from fun j hj => by
      by_cases e : j = i
      · subst e; rw [← HXY.out.1, ← HXY.out.2]; exact hxy
      · exact HE.out j (by omega))
    clear hxy
    go_wp2
    go_quiet (fail)
    rename_i nq
    have HQ := Lib.hid (HQN.out nq)
    go_wp2
    go_roundw
    case rel => exact ⟨i + 1, by omega, by go_num, HNX, HQ.out⟩
    case measure => simp [intOf]; omega
  · have g1 : (x != y) = true := by simpa using hxy
    have HNE := Lib.hid (show A ≠ B from fun e => hxy (by rw [HXY.out.1, HXY.out.2, e]))
    clear hxy
    go_wp2
    go_quiet (fail)
    rename_i nq
    have HQ := Lib.hid (HQN.out nq)
    go_wp2
    exact bodyPost_ret (v := .bool false) (by simp [results, Tryz.results14, go_sem]) rfl ⟨false, rfl, ⟨fun h => (by cases h), fun h => absurd h HNE.out⟩, HQ.out⟩
set_option maxRecDepth 100000 in
set_option maxHeartbeats 4000000 in
theorem edges18 (A B : List (Int × Int)) (ao bo : Option Addr) (ac bc : Nat) (w : World) (hA : EdgesAt w ao A) (hB : EdgesAt w bo B) (la : A.length ≤ 1000000) (lb : B.length ≤ 1000000) :
    Calls Tryz.prog 16 #[.slice ao A.length ac, .slice bo B.length bc] w fun e w' => ∃ r : Bool, e = .returned (.bool r) ∧ (r = true ↔ A = B) ∧ Below w.heap.size w w' := by
  obtain ⟨n, hn⟩ : ∃ n, n = A.length := ⟨_, rfl⟩
  obtain ⟨m, hm⟩ : ∃ n, n = B.length := ⟨_, rfl⟩
  have HA := Lib.hid hA
  have HB := Lib.hid hB
  have HN := Lib.hid hn
  have HM := Lib.hid hm
  rw [← hn] at la ⊢
  rw [← hm] at lb ⊢
  clear hA hB hn hm
  by_cases hl : n = m
  case neg =>
    have g1 : ((n : Int) != (m : Int)) = true := by simp; omega
    have HNE := Lib.hid (show A ≠ B from fun e => hl (by rw [HN.out, HM.out, e]))
    clear hl
    go_enter Tryz.func16, Tryz.ntmps16
    go_wp2
    exact bodyPost_ret (v := .bool false) (by simp [results, Tryz.results16, go_sem]) rfl ⟨false, rfl, ⟨fun h => (by cases h), fun h => absurd h HNE.out⟩, Below.refl _ _⟩
  case pos =>
  subst hl
  go_enter Tryz.func16, Tryz.ntmps16
  go_wp2
  go_loopw [13] (fun v ws => ∃ i : Nat, i ≤ n ∧ v = .int .i64 i ∧ Hid (∀ j, j < i → E! A j = E! B j) ∧ Below w.heap.size w ws) (fun v _ => n - (intOf v).toNat)
  case atStart => exact ⟨0, by omega, rfl, Lib.hid fun j hj => by omega, Below.refl _ _⟩
  case round =>
  obtain ⟨i, hi, rfl, HE, hb⟩ := hrel
  obtain ⟨X, rfl⟩ : ∃ X : World, X = wr := ⟨_, rfl⟩
  have HBF := Lib.hid hb
  by_cases hlt : i < n
  case neg =>
    obtain rfl : i = n := by omega
    have HF := Lib.hid (show A = B from E!_ext (by rw [← HN.out, ← HM.out]) fun j hj => HE.out j (by rw [HN.out]; exact hj))
    clear hb
    go_wp2
    exact bodyPost_ret (v := .bool true) (by simp [results, Tryz.results16, go_sem]) rfl ⟨true, rfl, ⟨fun _ => HF.out, fun _ => rfl⟩, HBF.out⟩
  case pos =>
  obtain ⟨ab, aoff, rfl, -, hac⟩ := (HA.out.mono (Nat.le_refl _) hb) (by intro e; have := HN.out; rw [e] at this; simp at this; omega)
  obtain ⟨bb, boff, rfl, -, hbc⟩ := (HB.out.mono (Nat.le_refl _) hb) (by intro e; have := HM.out; rw [e] at this; simp at this; omega)
  obtain ⟨c1, c2⟩ := hac i (by rw [← HN.out]; exact hlt)
  obtain ⟨c3, c4⟩ := hbc i (by rw [← HM.out]; exact hlt)
  obtain ⟨⟨x, y⟩, hx⟩ : ∃ x, x = E! A i := ⟨_, rfl⟩
  obtain ⟨⟨u, v⟩, hy⟩ : ∃ x, x = E! B i := ⟨_, rfl⟩
  rw [← hx] at c1 c2
  rw [← hy] at c3 c4
  have bi : (0 : Int) ≤ (i : Int) ∧ (i : Int) < (n : Int) := by omega
  obtain ⟨t, ht⟩ : ∃ t, t = (x == u && y == v) := ⟨_, rfl⟩
  have hte : ∀ w, (Op.equalIn 10000 40 (.agg #[.int .i64 x, .int .i64 y]) (.agg #[.int .i64 u, .int .i64 v])).run Tryz.prog w = .ok t w := fun w => by rw [ht]; exact edge_equal x y u v w
  have HTT := Lib.hid (show t = true ↔ E! A i = E! B i from by
    rw [ht, ← hx, ← hy]
    simp [Prod.ext_iff])
  have HQN := Lib.hid (show ∀ q, Below w.heap.size w (X.drewN q) from fun q => below_drewN hb q)
  clear hac hbc hx hy hb ht
  cases t
  case true =>
    have HNX := Lib.hid (show ∀ j, j < i + 1 → E! A j = E! B j from fun j hj => by
      by_cases e : j = i
      · subst e; exact HTT.out.1 rfl
      · exact HE.out j (by omega))
    go_wp2
    go_quiet (fail)
    rename_i nq
    have HQ := Lib.hid (HQN.out nq)
    go_wp2
    go_roundw
    case rel => exact ⟨i + 1, by omega, by go_num, HNX, HQ.out⟩
    case measure => simp [intOf]; omega
  case false =>
    have HNE := Lib.hid (show A ≠ B from fun e => by
      have := HTT.out.2 (by rw [e])
      cases this)
    go_wp2
    go_quiet (fail)
    rename_i nq
    have HQ := Lib.hid (HQN.out nq)
    go_wp2
    exact bodyPost_ret (v := .bool false) (by simp [results, Tryz.results16, go_sem]) rfl ⟨false, rfl, ⟨fun h => (by cases h), fun h => absurd h HNE.out⟩, HQ.out⟩
end Go.Proofs.YtkjamheoihlekaaGreat

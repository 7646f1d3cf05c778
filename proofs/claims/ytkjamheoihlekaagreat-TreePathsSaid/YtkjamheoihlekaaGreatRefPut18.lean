/- gypsumref18.Row, turned, in, put: contracts. -/
import Derived.Test.YtkjamheoihlekaaGreatRefDual18
import Derived.Test.YtkjamheoihlekaaGreatTreeOrder
import Derived.Test.YtkjamheoihlekaaGreatTreeNear
namespace Go.Proofs.YtkjamheoihlekaaGreat
set_option linter.unusedVariables false
set_option linter.unusedSimpArgs false
open Go.RowKit
theorem row_go {A B : List Int} {i : Nat} (ha : i < A.length) (hb : i < B.length) (e : I! A i = I! B i) (h : cmpR A B = cmpR (A.drop i) (B.drop i)) : cmpR A B = cmpR (A.drop (i + 1)) (B.drop (i + 1)) := by
  rw [h, cmpR_step ha hb, if_neg (by omega), if_neg (by omega)]
theorem row_at {A B : List Int} {i : Nat} (ha : i < A.length) (hb : i < B.length) (e : I! A i ≠ I! B i) (h : cmpR A B = cmpR (A.drop i) (B.drop i)) : ltR A B ↔ I! A i < I! B i := by
  unfold ltR
  rw [h, cmpR_step ha hb]
  by_cases q : I! A i < I! B i
  · simp [q]
  · rw [if_neg q, if_pos (by omega)]
    constructor
    · intro h; omega
    · intro h; exact absurd h q
theorem row_end {A B : List Int} {i : Nat} (hia : i ≤ A.length) (hib : i ≤ B.length) (he : A.length = i ∨ B.length = i) (h : cmpR A B = cmpR (A.drop i) (B.drop i)) : ltR A B ↔ A.length < B.length := by
  unfold ltR
  rw [h]
  by_cases q : A.length = i
  · rw [cmpR_end q hib]
    split
    · exact ⟨fun _ => by assumption, fun _ => by omega⟩
    · exact ⟨fun h => by omega, fun h => by omega⟩
  · rw [cmpR_over (by omega) (by omega)]
    constructor
    · intro h; omega
    · intro h; omega
set_option maxRecDepth 100000 in
set_option maxHeartbeats 4000000 in
theorem row18 (A B : List Int) (ao bo : Option Addr) (ac bc : Nat) (w : World) (hA : IntsAt w ao A) (hB : IntsAt w bo B) (la : A.length ≤ 1000000) (lb : B.length ≤ 1000000) :
    Calls Tryz.prog 98 #[.slice ao A.length ac, .slice bo B.length bc] w fun e w' => ∃ r : Bool, e = .returned (.bool r) ∧ (r = true ↔ ltR A B) ∧ Below w.heap.size w w' := by
  obtain ⟨n, hn⟩ : ∃ n, n = A.length := ⟨_, rfl⟩
  obtain ⟨m, hm⟩ : ∃ n, n = B.length := ⟨_, rfl⟩
  have HA := Lib.hid hA
  have HB := Lib.hid hB
  have HN := Lib.hid hn
  have HM := Lib.hid hm
  rw [← hn] at la ⊢
  rw [← hm] at lb ⊢
  clear hA hB hn hm
  go_enter Tryz.func98, Tryz.ntmps98
  go_wp2
  go_loopw [5] (fun v ws => ∃ i : Nat, i ≤ n ∧ i ≤ m ∧ v = .int .i64 i ∧ Hid (cmpR A B = cmpR (A.drop i) (B.drop i)) ∧ Below w.heap.size w ws) (fun v _ => n - (intOf v).toNat)
  case atStart => exact ⟨0, by omega, by omega, rfl, Lib.hid (by simp), Below.refl _ _⟩
  case round =>
  obtain ⟨i, hin, him, rfl, HC, hb⟩ := hrel
  obtain ⟨X, rfl⟩ : ∃ X : World, X = wr := ⟨_, rfl⟩
  have HBF := Lib.hid hb
  obtain ⟨lt, hlt⟩ : ∃ b, b = decide ((n : Int) < (m : Int)) := ⟨_, rfl⟩
  have g0 : decide ((n : Int) < (m : Int)) = lt := hlt.symm
  have g0' : decide (n < m) = lt := by rw [hlt]; simp
  by_cases h1 : i < n ∧ i < m
  case neg =>
    have HF := Lib.hid (show lt = true ↔ ltR A B from by
      have := row_end (A := A) (B := B) (i := i) (by rw [← HN.out]; exact hin) (by rw [← HM.out]; exact him) (by rw [← HN.out, ← HM.out]; omega) HC.out
      rw [this, hlt, ← HN.out, ← HM.out]
      simp)
    by_cases h2 : i < n
    · have a1 : decide ((i : Int) < (n : Int)) = true := by simp; omega
      have a2 : decide ((i : Int) < (m : Int)) = false := by simp; omega
      have a3 : decide (i < m) = false := by simp; omega
      clear h1 hb hlt
      go_wp2
      exact bodyPost_ret (v := .bool lt) (by simp [results, Tryz.results98, go_sem, g0, g0']) rfl ⟨lt, rfl, HF.out, HBF.out⟩
    · have a1 : decide ((i : Int) < (n : Int)) = false := by simp; omega
      clear h1 hb hlt
      go_wp2
      exact bodyPost_ret (v := .bool lt) (by simp [results, Tryz.results98, go_sem, g0, g0']) rfl ⟨lt, rfl, HF.out, HBF.out⟩
  case pos =>
  have a1 : decide ((i : Int) < (n : Int)) = true := by simp; omega
  have a2 : decide ((i : Int) < (m : Int)) = true := by simp; omega
  obtain ⟨ab, aoff, rfl, -, hac⟩ := (HA.out.mono (Nat.le_refl _) hb) (by intro e; have := HN.out; rw [e] at this; simp at this; omega)
  obtain ⟨bb, boff, rfl, -, hbc⟩ := (HB.out.mono (Nat.le_refl _) hb) (by intro e; have := HM.out; rw [e] at this; simp at this; omega)
  have c1 := hac i (by rw [← HN.out]; exact h1.1)
  have c2 := hbc i (by rw [← HM.out]; exact h1.2)
  obtain ⟨x, hx⟩ : ∃ x, x = I! A i := ⟨_, rfl⟩
  obtain ⟨y, hy⟩ : ∃ x, x = I! B i := ⟨_, rfl⟩
  rw [← hx] at c1
  rw [← hy] at c2
  have bi : (0 : Int) ≤ (i : Int) ∧ (i : Int) < (n : Int) := by omega
  have bj : (0 : Int) ≤ (i : Int) ∧ (i : Int) < (m : Int) := by omega
  have HXY := Lib.hid (show x = I! A i ∧ y = I! B i from ⟨hx, hy⟩)
  have HLL := Lib.hid (show i < A.length ∧ i < B.length from ⟨by rw [← HN.out]; exact h1.1, by rw [← HM.out]; exact h1.2⟩)
  have HQN := Lib.hid (show ∀ q, Below w.heap.size w (X.drewN q) from fun q => below_drewN hb q)
  clear hac hbc hx hy hb g0 g0' hlt lt
  by_cases hxy : x = y
  · have g1 : (x != y) = false := by simp [hxy]
    have HNX := Lib.hid (row_go HLL.out.1 HLL.out.2 (by rw [← HXY.out.1, ← HXY.out.2]; exact hxy) HC.out)
    clear hxy
    go_wp2
    go_quiet (fail)
    rename_i nq
    have HQ := Lib.hid (HQN.out nq)
    go_wp2
    go_roundw
    case rel => exact ⟨i + 1, by omega, by omega, by go_num, HNX, HQ.out⟩
    case measure => simp [intOf]; omega
  · have g1 : (x != y) = true := by simpa using hxy
    obtain ⟨lt, hlt⟩ : ∃ b, b = decide (x < y) := ⟨_, rfl⟩
    have g2 : decide (x < y) = lt := hlt.symm
    have HF := Lib.hid (show lt = true ↔ ltR A B from by
      rw [row_at HLL.out.1 HLL.out.2 (by rw [← HXY.out.1, ← HXY.out.2]; exact hxy) HC.out, hlt, HXY.out.1, HXY.out.2]
      simp)
    clear hxy hlt
    go_wp2
    go_quiet (fail)
    rename_i nq
    have hV0b := HQN.out nq
    have d1 : (X.drewN nq).cell? ⟨ab, aoff + i, none⟩ = some (.int .i64 x) := c1
    have d2 : (X.drewN nq).cell? ⟨bb, boff + i, none⟩ = some (.int .i64 y) := c2
    obtain ⟨V0, hV0⟩ : ∃ V, V = X.drewN nq := ⟨_, rfl⟩
    rw [← hV0] at hV0b d1 d2 ⊢
    have HQV := Lib.hid (show ∀ q, Below w.heap.size w (V0.drewN q) from fun q => below_drewN hV0b q)
    clear hV0b hV0 c1 c2
    go_wp2
    go_quiet (fail)
    have HQ := Lib.hid (HQV.out nq)
    go_wp2
    exact bodyPost_ret (v := .bool lt) (by simp [results, Tryz.results98, go_sem]) rfl ⟨lt, rfl, HF.out, HQ.out⟩
theorem ic_one (xs : List Int) : ∀ u ∈ ic xs, u.oneCell' = true := by
  intro u hu
  obtain ⟨x, -, rfl⟩ := List.mem_map.1 hu
  rfl
/-- Not the block g; a block of B or later. -/
def RowNot (g : Nat) (a : Option Addr) (n : Nat) : Prop := 0 < n → ∀ b off o, a = some ⟨b, off, o⟩ → b ≠ g
def NewIf (B : Nat) (a : Option Addr) (n : Nat) : Prop := 0 < n → ∀ b off o, a = some ⟨b, off, o⟩ → B ≤ b
theorem NewIf.not {B g n : Nat} {a : Option Addr} (h : NewIf B a n) (hg : g < B) : RowNot g a n := fun h0 b off o e => by have := h h0 b off o e; omega
theorem owns_new {w : World} {base e n size c : Nat} {a : Option Addr} {xs : List Value} (h : w.ownsRow base e size (.slice a n c) n xs) : NewIf base a n := fun h0 b off o e => by
  obtain ⟨g, cap, q, q2, -⟩ := owns_block h h0
  subst e
  cases q
  exact q2
set_option maxRecDepth 100000 in
set_option maxHeartbeats 4000000 in
theorem turned18 (A : List Int) (ao : Option Addr) (ac : Nat) (w : World) (hA : IntsAt w ao A) (la : A.length ≤ 1000000) :
    Calls Tryz.prog 99 #[.slice ao A.length ac] w fun e w' => ∃ b c, e = .returned (.slice b A.length c) ∧ IntsAt w' b A.reverse ∧ NewIf w.heap.size b A.length ∧ Below w.heap.size w w' := by
  obtain ⟨i0, hi0, hz0, hz1, hz2⟩ := info_parts info3
  obtain ⟨n, hn⟩ : ∃ n, n = A.length := ⟨_, rfl⟩
  obtain ⟨bl, hbl⟩ : ∃ b, b = w.heap.size := ⟨_, rfl⟩
  obtain ⟨W0, hW0⟩ : ∃ W0, W0 = w.alloc (.cells #[] 3) := ⟨_, rfl⟩
  have hb0 : Below bl w W0 := by rw [hW0, hbl]; exact (Below.refl _ _).alloc (Nat.le_refl _) _
  have HO := Lib.hid (show W0.ownsRow bl 3 1 (.slice (some ⟨bl, 0, none⟩) 0 0) 0 (ic (A.reverse.take 0)) from by
    rw [hW0, hbl]
    exact World.ownsRow_made w #[] 0 (Nat.le_refl _) (Nat.zero_le _) rfl)
  have HA := Lib.hid hA
  have HN := Lib.hid hn
  have HBL := Lib.hid hbl
  have HW0 := Lib.hid hW0
  have HB0 := Lib.hid (show Below bl w W0 ∧ bl ≤ W0.heap.size from ⟨hb0, by rw [hW0, hbl]; simp⟩)
  rw [← hn] at la ⊢
  clear hA hn hbl hW0 hb0
  go_enter Tryz.func99, Tryz.ntmps99
  go_upto_region 2 with fail
  simp only [← HBL.out]
  rw [← HW0.out]
  go_wp2
  go_loopw [3, 4] (fun ov v ws => ∃ k : Nat, k ≤ n ∧ v = .int .i64 ((n : Int) - 1 - (k : Int)) ∧ ws.ownsRow bl 3 1 ov k (ic (A.reverse.take k)) ∧ Below bl w ws ∧ bl ≤ ws.heap.size) (fun _ v _ => (intOf v + 1).toNat)
  case atStart => exact ⟨0, by omega, by go_num, HO.out, HB0.out.1, HB0.out.2⟩
  case round =>
  clear HO HB0
  obtain ⟨k, hk, rfl, hown, hb, hsz⟩ := hrel
  obtain ⟨X, rfl⟩ : ∃ X : World, X = wr := ⟨_, rfl⟩
  obtain ⟨oa, oc, rfl⟩ := owns_slice hown
  have HOW := Lib.hid hown
  have HB := Lib.hid hb
  by_cases hlt : k < n
  case neg =>
    obtain rfl : n = k := by omega
    have g1 : decide ((n : Int) - 1 - (n : Int) ≥ 0) = false := by simp; omega
    have HF := Lib.hid (show IntsAt X oa A.reverse from by
      obtain ⟨a, c, e, hI⟩ := owns_ic hown (by simp [← HN.out])
      cases e
      rw [show A.reverse.take n = A.reverse from by rw [List.take_of_length_le]; simp [HN.out]] at hI
      exact hI)
    have HNW := Lib.hid (show NewIf w.heap.size oa n from by have := owns_new hown; rw [HBL.out] at this; exact this)
    clear hown hb
    go_wp2
    exact bodyPost_ret (v := .slice oa n oc) (by simp [results, Tryz.results99, go_sem]) rfl ⟨oa, oc, rfl, HF.out, HNW.out, by rw [← HBL.out]; exact HB.out⟩
  case pos =>
  have g1 : decide ((n : Int) - 1 - (k : Int) ≥ 0) = true := by simp; omega
  obtain ⟨j, hj⟩ : ∃ j : Nat, j = n - 1 - k := ⟨_, rfl⟩
  have hjn : j < n := by omega
  have hjc : (n : Int) - 1 - (k : Int) = (j : Int) := by omega
  obtain ⟨ab, aoff, rfl, -, hac⟩ := (HA.out.mono (B := bl) (by rw [HBL.out]; exact Nat.le_refl _) hb) (by intro e; have := HN.out; rw [e] at this; simp at this; omega)
  have c1 := hac j (by rw [← HN.out]; exact hjn)
  obtain ⟨x, hx⟩ : ∃ x, x = I! A j := ⟨_, rfl⟩
  rw [← hx] at c1
  have bj : (0 : Int) ≤ (j : Int) ∧ (j : Int) < (n : Int) := by omega
  have HNX := Lib.hid (show ic (A.reverse.take (k + 1)) = ic (A.reverse.take k) ++ [.int .i64 x] from by
    have hk' : k < A.reverse.length := by rw [List.length_reverse, ← HN.out]; exact hlt
    rw [List.take_add_one, List.getElem?_eq_getElem hk', ← ic_snoc]
    congr 1
    simp only [Option.toList_some]
    rw [List.getElem_reverse, hx]
    have hj' : j < A.length := by rw [← HN.out]; exact hjn
    have e : A.length - 1 - k = j := by rw [← HN.out]; omega
    simp [I!, hj', e])
  have HAL := Lib.hid (hown.alloc (.cells #[.int .i64 x] 3))
  have HQ1 := Lib.hid (show k + 1 ≤ maxLen by unfold maxLen; omega)
  have HQ2 := Lib.hid (show (k + 1) * 8 ≤ 140737488355328 by omega)
  have HQ3 := Lib.hid (show bl ≤ (X.alloc (.cells #[.int .i64 x] 3)).heap.size by simp; omega)
  have g1' : decide ((j : Int) ≥ 0) = true := by simp
  have hw1 : IntKind.i64.wrap ((j : Int) - 1) = (n : Int) - 1 - ((k + 1 : Nat) : Int) := by rw [IntWalk.i64_in _ (by omega)]; omega
  have HJN := Lib.hid (show j + 1 + k = n by omega)
  rw [hjc]
  clear hac hx hown hb hj hjc
  go_wp2_with (at_builtin; refine wpList_append_lies _ rfl _ _ 28 rfl bl 3 i0 (.int .i64 0) 1 8 (by kernel_rfl) hi0 hz0 hz1 hz2 rfl (by decide) _ _ _ rfl HAL.out ⟨X.heap.size, 0, none⟩ 1 1 [.int .i64 x] rfl rfl (World.news_of_block (heap_alloc_new X _)) (by intro u hu; simp at hu; subst hu; rfl) (by decide) HQ1.out HQ2.out HQ3.out _ rfl ?_)
  intro g2 cap2 X2 hown2 hgr2 hat2 hlt2
  have HN2 := Lib.hid (show X2.ownsRow bl 3 1 (.slice (some ⟨g2, 0, none⟩) (k + 1) cap2) (k + 1) (ic (A.reverse.take (k + 1))) from by rw [HNX.out]; exact hown2)
  have HB2 := Lib.hid (show Below bl w X2 ∧ bl ≤ X2.heap.size from ⟨(HB.out.alloc hsz _).grown hgr2 (by simp; omega) (fun q hq => (HAL.out.lt q hq).1), by have := hgr2.size; simp at this; omega⟩)
  clear hown2 hgr2 hat2 hlt2 HAL
  go_wp2
  go_roundw
  case rel => exact ⟨k + 1, by omega, by rfl, HN2.out, HB2.out.1, HB2.out.2⟩
  case measure => simp [intOf]; have := HJN.out; omega
set_option maxRecDepth 100000 in
set_option maxHeartbeats 4000000 in
theorem in18 (A : List Int) (ao : Option Addr) (ac : Nat) (x : Int) (w : World) (hA : IntsAt w ao A) (la : A.length ≤ 1000000) :
    Calls Tryz.prog 61 #[.slice ao A.length ac, .int .i64 x] w fun e w' => ∃ r : Bool, e = .returned (.bool r) ∧ (r = true ↔ x ∈ A) ∧ w = w' := by
  obtain ⟨n, hn⟩ : ∃ n, n = A.length := ⟨_, rfl⟩
  have HA := Lib.hid hA
  have HN := Lib.hid hn
  rw [← hn] at la ⊢
  clear hA hn
  go_enter Tryz.func61, Tryz.ntmps61
  go_wp2
  go_loopw [5] (fun v ws => ∃ i : Nat, i ≤ n ∧ v = .int .i64 i ∧ Hid (∀ j, j < i → I! A j ≠ x) ∧ Hid (w = ws)) (fun v _ => n - (intOf v).toNat)
  case atStart => exact ⟨0, by omega, rfl, Lib.hid fun j hj => by omega, Lib.hid rfl⟩
  case round =>
  obtain ⟨i, hi, rfl, HNO, HW⟩ := hrel
  obtain rfl : w = wr := HW.out
  by_cases hlt : i < n
  case neg =>
    obtain rfl : n = i := by omega
    have HF := Lib.hid (show x ∉ A from fun hm => by
      obtain ⟨j, hj, he⟩ := List.mem_iff_getElem.1 hm
      exact HNO.out j (by rw [HN.out]; exact hj) (by simp [I!, hj, he]))
    go_wp2
    exact bodyPost_ret (v := .bool false) (by simp [results, Tryz.results61, go_sem]) rfl (.inl ⟨rfl, HF.out, rfl⟩)
  case pos =>
  obtain ⟨ab, aoff, rfl, -, hac⟩ := HA.out (by intro e; have := HN.out; rw [e] at this; simp at this; omega)
  have hil : i < A.length := by rw [← HN.out]; exact hlt
  have c1 := hac i hil
  have hmem : I! A i ∈ A := List.mem_of_getElem? (I!_get hil)
  obtain ⟨y, hy⟩ : ∃ x, x = I! A i := ⟨_, rfl⟩
  rw [← hy] at c1 hmem
  have bi : (0 : Int) ≤ (i : Int) ∧ (i : Int) < (n : Int) := by omega
  have HY := Lib.hid hy
  have HMEM := Lib.hid hmem
  clear hac hy hil hmem
  by_cases hxy : y = x
  · have g1 : (y == x) = true := by simpa using hxy
    have HF := Lib.hid (show x ∈ A from hxy ▸ HMEM.out)
    clear hxy
    go_wp2
    exact bodyPost_ret (v := .bool true) (by simp [results, Tryz.results61, go_sem]) rfl (.inr ⟨rfl, HF.out, rfl⟩)
  · have g1 : (y == x) = false := by simpa using hxy
    have HNX := Lib.hid (show ∀ j, j < i + 1 → I! A j ≠ x from fun j hj => by
      by_cases e : j = i
      · subst e; rw [← HY.out]; exact hxy
      · exact HNO.out j (by omega))
    clear hxy
    go_wp2
    go_roundw
    case rel => exact ⟨i + 1, by omega, by go_num, HNX, by first | exact Lib.hid rfl | trivial⟩
    case measure => simp [intOf]; omega
theorem rsliceAt_hi (b off len cap h : Nat) (hh : h ≤ cap) (w : World) : (Instr.sliceAt 44 (.slice (some ⟨b, off, none⟩) len cap) none (some (.int .i64 (h : Int))) none).run Tryz.prog w = .ok (.slice (some ⟨b, off, none⟩) h cap) w := by
  have hu : Tryz.prog.underlying 44 = some (.slice 28) := by kernel_rfl
  obtain ⟨i0, hi, -, hz1, -⟩ := info_parts infoInts18
  unfold Instr.sliceAt
  simp only [Sem.run_bind, run_underlying hu, Result.andThen_ok]
  unfold Instr.slice Instr.sliceBounds Instr.sliceBound
  simp only [Sem.run_bind, run_underlying hu, Result.andThen_ok, run_sizeOf w hi, Sem.run_pure]
  simp [go_sem, hh, hz1]
theorem rsliceAt_lo (b off len cap l : Nat) (hl : l ≤ len) (w : World) : (Instr.sliceAt 44 (.slice (some ⟨b, off, none⟩) len cap) (some (.int .i64 (l : Int))) none none).run Tryz.prog w = .ok (.slice (some (if cap = l then ⟨b, off, none⟩ else ⟨b, off + l, none⟩)) (len - l) (cap - l)) w := by
  have hu : Tryz.prog.underlying 44 = some (.slice 28) := by kernel_rfl
  obtain ⟨i0, hi, -, hz1, -⟩ := info_parts infoInts18
  unfold Instr.sliceAt
  simp only [Sem.run_bind, run_underlying hu, Result.andThen_ok]
  unfold Instr.slice Instr.sliceBounds Instr.sliceBound
  simp only [Sem.run_bind, run_underlying hu, Result.andThen_ok, run_sizeOf w hi, Sem.run_pure]
  by_cases e : cap = l <;> simp [go_sem, hl, hz1, e]
/-- Rows of numbers, and room behind them. -/
def RowsV (gg : Nat) (w : World) (v : Value) (S : List (List Int)) : Prop :=
  ∃ (b off cap : Nat) (ds : List Value), v = .slice (some ⟨b, off, none⟩) S.length cap ∧ S.length ≤ cap ∧ (b < w.heap.size ∧ b ≠ gg) ∧ ds.length = S.length ∧ (∀ j u, ds[j]? = some u → w.cell? ⟨b, off + j, none⟩ = some u) ∧ (∀ u ∈ ds, u.oneCell' = true) ∧
    ∀ (i : Nat) (p : List Int) (d : Value), S[i]? = some p → ds[i]? = some d → ∃ a c, d = .slice a p.length c ∧ p.length ≤ 1000000 ∧ IntsAt w a p ∧ RowNot gg a p.length
theorem RowsV.more {gg : Nat} {w w' : World} {v : Value} {S : List (List Int)} (h : RowsV gg w v S) (hb : Below w.heap.size w w') : RowsV gg w' v S := by
  obtain ⟨b, off, cap, ds, h1, h2, h3, h4, h5, h6, h7⟩ := h
  refine ⟨b, off, cap, ds, h1, h2, ⟨by have := hb.size; omega, h3.2⟩, h4, fun j u hj => (hb.cell (p := ⟨b, off + j, none⟩) h3.1).trans (h5 j u hj), h6, fun i p d hp hd => ?_⟩
  obtain ⟨a, c, q1, q2, q3, q4⟩ := h7 i p d hp hd
  exact ⟨a, c, q1, q2, q3.mono (Nat.le_refl _) hb, q4⟩
/-- A row that is not of the block g is as it was. -/
theorem ints_grown {gg : Nat} {w w' : World} {a : Option Addr} {p : List Int} (h : IntsAt w a p) (hn : RowNot gg a p.length) (hg : w.grownBy w' (some gg)) : IntsAt w' a p := by
  intro hp
  obtain ⟨b, off, rfl, hlt, hc⟩ := h hp
  have hne := hn (List.length_pos_iff.2 hp) b off none rfl
  have hbk := hg.block b hlt (by intro e; cases e; exact hne rfl)
  exact ⟨b, off, rfl, by have := hg.size; omega, fun i hi => by have := hc i hi; unfold World.cell? at *; rw [hbk]; exact this⟩
theorem RowsV.grown {gg g2 : Nat} {w w' : World} {v : Value} {S : List (List Int)} (h : RowsV gg w v S) (hg : w.grownBy w' (some gg)) (h2 : g2 = gg ∨ w.heap.size ≤ g2) : RowsV g2 w' v S := by
  obtain ⟨b, off, cap, ds, h1, hc, h3, h4, h5, h6, h7⟩ := h
  have hbk := hg.block b h3.1 (by intro e; cases e; exact h3.2 rfl)
  refine ⟨b, off, cap, ds, h1, hc, ⟨by have := hg.size; omega, by rcases h2 with rfl | h2; exact h3.2; omega⟩, h4, fun j u hj => by have := h5 j u hj; unfold World.cell? at *; rw [hbk]; exact this, h6, fun i p d hp hd => ?_⟩
  obtain ⟨a, c, q1, q2, q3, q4⟩ := h7 i p d hp hd
  refine ⟨a, c, q1, q2, ints_grown q3 q4 hg, ?_⟩
  intro hl b' off' o e
  rcases h2 with rfl | h2
  · exact q4 hl b' off' o e
  · obtain ⟨b3, off3, e3, hlt, -⟩ := q3 (List.length_pos_iff.1 hl)
    rw [e3] at e
    cases e
    omega
theorem both_put {α β : Type} {Q : α → β → Prop} {S : List α} {ds : List β} (hl : ds.length = S.length) (h : ∀ (i : Nat) (p : α) (d : β), S[i]? = some p → ds[i]? = some d → Q p d) {C : α} {D : β} (hC : Q C D) (k : Nat) (hk : k ≤ S.length) : ∀ (i : Nat) (p : α) (d : β), (S.take k ++ C :: S.drop k)[i]? = some p → (ds.take k ++ [D] ++ ds.drop k)[i]? = some d → Q p d := by
  intro i p d hp hd
  have e1 : (S.take k).length = k := by rw [List.length_take]; omega
  have e2 : (ds.take k).length = k := by rw [List.length_take]; omega
  rw [List.append_assoc] at hd
  by_cases h1 : i < k
  · rw [List.getElem?_append_left (by omega), List.getElem?_take, if_pos h1] at hp
    rw [List.getElem?_append_left (by omega), List.getElem?_take, if_pos h1] at hd
    exact h i p d hp hd
  · rw [List.getElem?_append_right (by omega), e1] at hp
    rw [List.getElem?_append_right (by omega), e2] at hd
    obtain ⟨m, rfl⟩ : ∃ m, i = k + m := ⟨i - k, by omega⟩
    rw [show k + m - k = m by omega] at hp hd
    cases m with
    | zero =>
      simp at hp hd
      rw [← hp, ← hd]
      exact hC
    | succ m =>
      simp only [List.getElem?_cons_succ, List.cons_append, List.nil_append, List.getElem?_drop] at hp hd
      exact h _ p d hp hd
/-- What gypsumref18.put comes to. -/
def PutP (gg : Nat) (S : List (List Int)) (C : List Int) (w : World) (e : Ending) (w' : World) : Prop :=
  ∃ v R, e = .returned v ∧ RowsV gg w' v R ∧ InsG ltR S C R ∧ Below w.heap.size w w'
theorem putP_new {gg : Nat} {S : List (List Int)} {C : List Int} {w V W' : World} {base k n l2 : Nat} {v : Value} {xs ds : List Value} {ca : Option Addr} {cc : Nat} (ho : W'.ownsRow base 28 1 v (k + 1 + l2) xs) (hx : xs = ds.take k ++ [.slice ca C.length cc] ++ ds.drop k) (hn : n = S.length) (hk : k ≤ n) (hl : l2 = n - k) (hds : ds.length = S.length) (hone : ∀ u ∈ ds, u.oneCell' = true)
    (hrow : ∀ (i : Nat) (p : List Int) (d : Value), S[i]? = some p → ds[i]? = some d → ∃ a c, d = .slice a p.length c ∧ p.length ≤ 1000000 ∧ IntsAt V a p ∧ RowNot gg a p.length) (hC : IntsAt V ca C) (hCg : RowNot gg ca C.length) (hgb : gg < base) (hCl : C.length ≤ 1000000) (h1 : ∀ i e, i < k → S[i]? = some e → ltR e C) (h2 : ∀ e, S[k]? = some e → ¬ ltR e C ∧ e ≠ C) (hVW : Below V.heap.size V W') (hb : Below w.heap.size w W') : PutP gg S C w (.returned v) W' := by
  obtain ⟨hi, hlen⟩ := insG_new hn hk hl h1 h2
  obtain ⟨g, cap, rfl, hgg, hg, hc, -, hcell, -⟩ := owns_block ho (by omega)
  refine ⟨_, _, rfl, ⟨g, 0, cap, xs, by rw [← hlen], by rw [← hlen]; exact hc, ⟨hg, by omega⟩, ?_, ?_, ?_, ?_⟩, hi, hb⟩
  · rw [← hlen, hx]
    simp only [List.length_append, List.length_take, List.length_cons, List.length_nil, List.length_drop]
    omega
  · intro j u hj
    rw [Nat.zero_add]
    exact hcell j u hj
  · intro u hu
    rw [hx] at hu
    simp only [List.mem_append, List.mem_singleton] at hu
    rcases hu with (hu | rfl) | hu
    · exact hone u (List.mem_of_mem_take hu)
    · rfl
    · exact hone u (List.mem_of_mem_drop hu)
  · intro i p d hp hd
    rw [hx] at hd
    obtain ⟨a, c, q1, q2, q3, q4⟩ := both_put (Q := fun (p : List Int) (d : Value) => ∃ a c, d = .slice a p.length c ∧ p.length ≤ 1000000 ∧ IntsAt V a p ∧ RowNot gg a p.length) hds hrow ⟨ca, cc, rfl, hCl, hC, hCg⟩ k (by omega) i p d hp hd
    exact ⟨a, c, q1, q2, q3.mono (Nat.le_refl _) hVW, q4⟩
theorem canonR_ok {A : List Int} {r : Bool} (h : r = true ↔ ltR A.reverse A) : canonR A = if r then A.reverse else A := by
  unfold canonR
  unfold ltR at h
  cases r with
  | false => rw [if_neg (fun q => by have := h.2 q; cases this)]; rfl
  | true => rw [if_pos (h.1 rfl)]; rfl
theorem ltR_eq {a b : List Int} (h1 : ¬ ltR a b) (h2 : ¬ ltR b a) : a = b := by
  unfold ltR at *
  have := cmpR_anti a b
  exact cmpR_eq (by omega)
set_option maxRecDepth 100000 in
set_option maxHeartbeats 8000000 in
theorem put18 (gg : Nat) (S : List (List Int)) (v : Value) (A : List Int) (aa : Option Addr) (ac : Nat) (w : World) (hS : RowsV gg w v S) (hgg : gg < w.heap.size) (hA : IntsAt w aa A) (hAg : RowNot gg aa A.length) (hl : S.length ≤ 100000) (la : A.length ≤ 1000000) :
    Calls Tryz.prog 60 #[v, .slice aa A.length ac] w (PutP gg S (canonR A) w) := by
  obtain ⟨i0, hi0, hz0, hz1, hz2⟩ := info_parts infoInts18
  obtain ⟨lb, off, cap, ds, rfl, hc, hlb, hdl, hcell, hone, hrow⟩ := hS
  obtain ⟨n, hn⟩ : ∃ n, n = S.length := ⟨_, rfl⟩
  obtain ⟨an, han⟩ : ∃ n, n = A.length := ⟨_, rfl⟩
  have hTU := turned18 A aa ac w hA la
  rw [← han] at hTU
  have HTU := Lib.hid hTU
  have HA := Lib.hid hA
  have HN := Lib.hid hn
  have HAN := Lib.hid han
  have HDL := Lib.hid hdl
  have HONE := Lib.hid hone
  obtain ⟨hlb, hlbg⟩ := hlb
  have HLBG := Lib.hid hlbg
  have HGG := Lib.hid hgg
  have HAG := Lib.hid hAg
  have HSX := Lib.hid (show ∀ X, Below w.heap.size w X → lb < X.heap.size ∧ (∀ j u, ds[j]? = some u → X.cell? ⟨lb, off + j, none⟩ = some u) ∧ ∀ (i : Nat) (p : List Int) (d : Value), S[i]? = some p → ds[i]? = some d → ∃ a c, d = .slice a p.length c ∧ p.length ≤ 1000000 ∧ IntsAt X a p ∧ RowNot gg a p.length from fun X h => by
    refine ⟨by have := h.size; omega, fun j u hj => (h.cell (p := ⟨lb, off + j, none⟩) hlb).trans (hcell j u hj), fun i p d hp hd => ?_⟩
    obtain ⟨a, c, q1, q2, q3, q4⟩ := hrow i p d hp hd
    exact ⟨a, c, q1, q2, q3.mono (Nat.le_refl _) h, q4⟩)
  rw [← hn] at hl hc ⊢
  rw [← han] at la ⊢
  clear hA hn han hdl hcell hone hrow hlb hTU hlbg hgg hAg
  go_enter Tryz.func60, Tryz.ntmps60
  go_wp2_with fail
  refine HTU.out.mono ?_
  rintro e w1 ⟨ta, tc, rfl, hta, -, hb1⟩
  have hRO := row18 A.reverse A ta aa tc ac w1 hta (HA.out.mono (Nat.le_refl _) hb1) (by rw [List.length_reverse, ← HAN.out]; exact la) (by rw [← HAN.out]; exact la)
  rw [List.length_reverse, ← HAN.out] at hRO
  have HRO := Lib.hid hRO
  have HB1 := Lib.hid hb1
  clear hta hb1 hRO
  go_wp2_with fail
  refine HRO.out.mono ?_
  rintro e w2 ⟨γ, rfl, hr, hb2⟩
  have HCN := Lib.hid (canonR_ok hr)
  have HB2 := Lib.hid (below_more HB1.out hb2 HB1.out.size)
  clear hr hb2 HRO
  have HLN := Lib.hid (show (canonR A).length = an from by rw [canonR_len, ← HAN.out])
  go_upto_if 9 with fail
  go_cut [1, 10, 11] (fun s1 _ _ wc => ∃ a c, s1 = .slice a an c ∧ Hid (IntsAt wc a (canonR A) ∧ RowNot gg a an) ∧ Hid (Below w.heap.size w wc))
  case first =>
    cases γ
    case false =>
      go_wp2
      go_meet
      exact ⟨aa, ac, rfl, Lib.hid ⟨by rw [HCN.out]; exact HA.out.mono (Nat.le_refl _) HB2.out, HAN.out ▸ HAG.out⟩, HB2⟩
    case true =>
      have hT2 := turned18 A aa ac w2 (HA.out.mono (Nat.le_refl _) HB2.out) (by rw [← HAN.out]; exact la)
      rw [← HAN.out] at hT2
      have HT2 := Lib.hid hT2
      clear hT2
      go_wp2_with fail
      refine HT2.out.mono ?_
      rintro e w3 ⟨ta2, tc2, rfl, hta, hnw, hb3⟩
      have HTA := Lib.hid hta
      have HNW := Lib.hid (hnw.not (show gg < w2.heap.size by have := HGG.out; have := HB2.out.size; omega))
      have HB3 := Lib.hid (below_more HB2.out hb3 HB2.out.size)
      clear hta hb3 hnw
      go_wp2
      go_meet
      exact ⟨ta2, tc2, rfl, Lib.hid ⟨by rw [HCN.out]; exact HTA.out, HNW.out⟩, HB3⟩
  case rest =>
  obtain ⟨W0, rfl⟩ : ∃ X : World, X = wc := ⟨_, rfl⟩
  obtain ⟨ca, cc, rfl, HCA0, HBW0⟩ := hcut
  obtain ⟨C, hC⟩ : ∃ C, C = canonR A := ⟨_, rfl⟩
  rw [← hC] at HCA0 HLN
  have HCE := Lib.hid hC
  have HCG := Lib.hid HCA0.out.2
  have HCX := Lib.hid (show ∀ X, Below W0.heap.size W0 X → IntsAt X ca C ∧ Below w.heap.size w X from fun X h => ⟨HCA0.out.1.mono (Nat.le_refl _) h, below_more HBW0.out h HBW0.out.size⟩)
  clear hC HCN HB1 HB2 HTU HA
  go_wp2
  go_loopw [5] (fun i ws => ∃ k : Nat, k ≤ n ∧ i = .int .i64 k ∧ Hid (∀ i e, i < k → S[i]? = some e → ltR e C) ∧ Below W0.heap.size W0 ws) (fun i _ => n - (intOf i).toNat)
  case atStart => exact ⟨0, by omega, rfl, Lib.hid fun j e hj => by omega, Below.refl _ _⟩
  case round =>
  obtain ⟨k, hk, rfl, HLT, hb⟩ := hrel
  obtain ⟨X, rfl⟩ : ∃ X : World, X = wr := ⟨_, rfl⟩
  have HBX := Lib.hid hb
  by_cases hlt : k < n
  case neg =>
    obtain rfl : n = k := by omega
    have HGE := Lib.hid (show ∀ e, S[n]? = some e → ¬ ltR e C ∧ e ≠ C from fun e h => by
      have := (List.getElem?_eq_some_iff.1 h).1
      have := HN.out
      omega)
    obtain ⟨V, rfl⟩ : ∃ V : World, V = X := ⟨_, rfl⟩
    have hVb := hb
    have hV : V = V := rfl
    clear hb
    go_wp2
    have HVB := Lib.hid (HCX.out V hVb).2
    have HVC := Lib.hid (HCX.out V hVb).1
    have HC1 := Lib.hid (show ∀ X, Below V.heap.size V X → ∀ j u, (ds.take n)[j]? = some u → X.cell? ((⟨lb, off, none⟩ : Addr).add j) = some u from fun X h j u hj => by
      rw [Addr.add_lit]
      rw [List.getElem?_take] at hj
      split at hj
      · exact (HSX.out X (below_more HVB.out h HVB.out.size)).2.1 j u hj
      · cases hj)
    have HL1 := Lib.hid (show (ds.take n).length = n * 1 from by rw [List.length_take, Nat.mul_one]; have := HN.out; have := HDL.out; omega)
    obtain ⟨l2, hl2⟩ : ∃ l2, l2 = n - n := ⟨_, rfl⟩
    have HL2 := Lib.hid hl2
    have HL3 := Lib.hid (show (ds.drop n).length = l2 * 1 from by rw [List.length_drop, Nat.mul_one]; have := HN.out; have := HDL.out; omega)
    obtain ⟨AD, hAD⟩ : ∃ AD : Addr, AD = if cap = n then ⟨lb, off, none⟩ else ⟨lb, off + n, none⟩ := ⟨_, rfl⟩
    have HCA := Lib.hid (show ∀ X, Below V.heap.size V X → ∀ j u, (ds.drop n)[j]? = some u → X.cell? (AD.add j) = some u from fun X h j u hj => by
      rw [hAD]
      by_cases e : cap = n
      · have h1 := (List.getElem?_eq_some_iff.1 hj).1
        rw [HL3.out] at h1
        omega
      · rw [if_neg e, Addr.add_lit, Nat.add_assoc]
        rw [List.getElem?_drop] at hj
        exact (HSX.out X (below_more HVB.out h HVB.out.size)).2.1 _ u hj)
    have hs1 : ∀ w, (Instr.sliceAt 44 (.slice (some ⟨lb, off, none⟩) n cap) none (some (.int .i64 (n : Int))) none).run Tryz.prog w = .ok (.slice (some ⟨lb, off, none⟩) n cap) w := fun w => rsliceAt_hi lb off n cap n (by omega) w
    have hs2 : ∀ w, (Instr.sliceAt 44 (.slice (some ⟨lb, off, none⟩) n cap) (some (.int .i64 (n : Int))) none none).run Tryz.prog w = .ok (.slice (some AD) l2 (cap - n)) w := fun w => by
      rw [rsliceAt_lo lb off n cap n (by omega) w, ← hl2, hAD]
    have HO1 := Lib.hid (show ∀ u ∈ ds.take n, u.oneCell' = true from fun u hu => HONE.out u (List.mem_of_mem_take hu))
    have HO2 := Lib.hid (show ∀ u ∈ [Value.slice ca an cc], u.oneCell' = true from by intro u hu; simp at hu; subst hu; rfl)
    have HO3 := Lib.hid (show ∀ u ∈ ds.drop n, u.oneCell' = true from fun u hu => HONE.out u (List.mem_of_mem_drop hu))
    have HM1 := Lib.hid (show n ≤ maxLen by unfold maxLen; omega)
    have HM2 := Lib.hid (show n * 24 ≤ 140737488355328 by omega)
    have HM3 := Lib.hid (show n + 1 ≤ maxLen by unfold maxLen; omega)
    have HM4 := Lib.hid (show (n + 1) * 24 ≤ 140737488355328 by omega)
    have HM5 := Lib.hid (show n + 1 + l2 ≤ maxLen by unfold maxLen; omega)
    have HM6 := Lib.hid (show (n + 1 + l2) * 24 ≤ 140737488355328 by omega)
    have HFN := Lib.hid (show ∀ (W' : World) (v : Value) (xs : List Value), W'.ownsRow V.heap.size 28 1 v (n + 1 + l2) xs → xs = ds.take n ++ [.slice ca an cc] ++ ds.drop n → Below V.heap.size V W' → PutP gg S (canonR A) w (.returned v) W' from fun W' v xs ho hx hb' => HCE.out ▸ putP_new (V := V) (cc := cc) ho (by rw [hx, HLN.out]) HN.out (by omega) HL2.out HDL.out HONE.out (HSX.out V HVB.out).2.2 HVC.out (by rw [HLN.out]; exact HCG.out) (by have := HGG.out; have := HVB.out.size; omega) (by rw [HLN.out]; exact la) HLT.out HGE.out hb' (below_more HVB.out hb' HVB.out.size))
    clear hV hVb hl2 hAD
    go_upto_region 8 with fail
    refine wp_region_held_drew (S := (fun _ => True)) (by kernel_rfl) ?_ (fun hHeld0 => ?_)
    · ((try dsimp only); all_goals exact trivial)
    refine wpAnyH_take (i := 1) (v := ?_) rfl (by kernel_rfl) (by kernel_rfl) (by kernel_rfl) (fun _ _ _ h => h) (Or.inl ⟨by rfl, ?_⟩) (by assumption) ?_
    rotate_left
    · (intro w hSw; (try dsimp only at hSw); go_simp; try with_reducible rfl)
    try simp only [List.getElem_toArray, List.getElem_cons_succ, List.getElem_cons_zero, Act.put, List.setIfInBounds_toArray, List.set_cons_zero, List.set_cons_succ]
    refine wpAnyH_take (i := 2) (v := ?_) rfl (by kernel_rfl) (by kernel_rfl) (by kernel_rfl) (fun _ _ _ h => h) (Or.inl ⟨by rfl, ?_⟩) (by assumption) ?_
    rotate_left
    · (intro w hSw; (try dsimp only at hSw); go_simp; try with_reducible rfl)
    try simp only [List.getElem_toArray, List.getElem_cons_succ, List.getElem_cons_zero, Act.put, List.setIfInBounds_toArray, List.set_cons_zero, List.set_cons_succ]
    refine wpAnyH_take (i := 3) (v := (.slice (some ⟨lb, off, none⟩) n cap)) rfl (by kernel_rfl) (by kernel_rfl) (by kernel_rfl) (fun _ _ _ h => h) (Or.inl ⟨by rfl, ?_⟩) (by assumption) ?_
    · (intro w hSw; (try dsimp only at hSw); go_simp; try with_reducible rfl)
    try simp only [List.getElem_toArray, List.getElem_cons_succ, List.getElem_cons_zero, Act.put, List.setIfInBounds_toArray, List.set_cons_zero, List.set_cons_succ]
    refine wpAnyH_take (i := 5) (v := ?_) rfl (by kernel_rfl) (by kernel_rfl) (by kernel_rfl) (fun _ _ _ h => h) (Or.inl ⟨by rfl, ?_⟩) (by assumption) ?_
    rotate_left
    · (intro w hSw; (try dsimp only at hSw); go_simp; try with_reducible rfl)
    try simp only [List.getElem_toArray, List.getElem_cons_succ, List.getElem_cons_zero, Act.put, List.setIfInBounds_toArray, List.set_cons_zero, List.set_cons_succ]
    refine wpAnyH_take (i := 8) (v := ?_) rfl (by kernel_rfl) (by kernel_rfl) (by kernel_rfl) (fun _ _ _ h => h) (Or.inl ⟨by rfl, ?_⟩) (by assumption) ?_
    rotate_left
    · (intro w hSw; (try dsimp only at hSw); go_simp; try with_reducible rfl)
    try simp only [List.getElem_toArray, List.getElem_cons_succ, List.getElem_cons_zero, Act.put, List.setIfInBounds_toArray, List.set_cons_zero, List.set_cons_succ]
    refine wpAnyH_take (i := 9) (v := ?_) rfl (by kernel_rfl) (by kernel_rfl) (by kernel_rfl) (fun _ _ _ h => h) (Or.inl ⟨by rfl, ?_⟩) (by assumption) ?_
    rotate_left
    · (intro w hSw; (try dsimp only at hSw); go_simp; try with_reducible rfl)
    try simp only [List.getElem_toArray, List.getElem_cons_succ, List.getElem_cons_zero, Act.put, List.setIfInBounds_toArray, List.set_cons_zero, List.set_cons_succ]
    refine wpAnyH_take (i := 10) (v := (.slice (some AD) l2 (cap - n))) rfl (by kernel_rfl) (by kernel_rfl) (by kernel_rfl) (fun _ _ _ h => h) (Or.inl ⟨by rfl, ?_⟩) (by assumption) ?_
    · (intro w hSw; (try dsimp only at hSw); go_simp; try with_reducible rfl)
    try simp only [List.getElem_toArray, List.getElem_cons_succ, List.getElem_cons_zero, Act.put, List.setIfInBounds_toArray, List.set_cons_zero, List.set_cons_succ]
    refine wpAnyH_ready (rs := [0, 6]) (by kernel_rfl) (by simp) ?_
    refine AllReadyH.cons rfl (fun K hK => ?_) (AllReadyH.cons rfl (fun K hK => ?_) AllReadyH.nil)
    · skip
      go_simp
      refine hK.out _ _ ?_ (fun hHeld1 => ?_)
      · ((try dsimp only); all_goals exact trivial)
      clear hK K hHeld0
      refine wpAnyH_ready (rs := [4, 6]) (by kernel_rfl) (by simp) ?_
      refine AllReadyH.cons rfl (fun K hK => ?_) (AllReadyH.cons rfl (fun K hK => ?_) AllReadyH.nil)
      · skip
        refine step_append_first (by rfl) _ _ _ (by rfl) V.heap.size 28 i0 (.slice none 0 0) 1 24 (by kernel_rfl) hi0 hz0 hz1 hz2 rfl (by decide) (.slice (some ⟨V.heap.size, 0, none⟩) 0 0) (by rfl) (by first | exact (World.ownsRow_made V #[] 0 (Nat.le_refl _) (Nat.zero_le _) rfl) | exact (World.ownsRow_made V #[] 0 (Nat.le_refl _) (Nat.zero_le _) rfl).drew | exact (World.ownsRow_made V #[] 0 (Nat.le_refl _) (Nat.zero_le _) rfl).alloc _ | exact ((World.ownsRow_made V #[] 0 (Nat.le_refl _) (Nat.zero_le _) rfl).alloc _).drew) ⟨lb, off, none⟩ n _ (ds.take n) (by rfl) HL1.out (HC1.out _ (by repeat (first | assumption | with_reducible exact Below.refl _ _ | with_reducible apply below_drew | with_reducible apply below_alloc))) HO1.out HM1.out HM2.out (by first | exact Nat.le_refl _ | (simp; done) | (simp; omega)) ?_
        intro a1 c1 Y1 hown4 hbel4 hgr4
        have hb4 := hbel4 V.heap.size V (Nat.le_refl _) (by repeat (first | assumption | with_reducible exact Below.refl _ _ | with_reducible apply below_drew | with_reducible apply below_alloc))
        refine hK.out _ _ ?_ (fun hHeld2 => ?_)
        · ((try dsimp only); all_goals exact trivial)
        clear hK K hHeld1
        refine wpAnyH_ready (rs := [6]) (by kernel_rfl) (by simp) ?_
        refine AllReadyH.cons rfl (fun K hK => ?_) AllReadyH.nil
        go_simp
        refine hK.out _ _ ?_ (fun hHeld3 => ?_)
        · ((try dsimp only); all_goals exact trivial)
        clear hK K hHeld2
        refine wpAnyH_ready (rs := [7]) (by kernel_rfl) (by simp) ?_
        refine AllReadyH.cons rfl (fun K hK => ?_) AllReadyH.nil
        refine step_append_any (by rfl) _ _ _ (by rfl) V.heap.size 28 i0 (.slice none 0 0) 1 24 (by kernel_rfl) hi0 hz0 hz1 hz2 rfl (by decide) _ _ _ (by rfl) (by first | exact hown4 | exact hown4.alloc _ | exact hown4.drew | exact (hown4.alloc _).drew) ⟨Y1.heap.size, 0, none⟩ 1 1 [.slice ca an cc] (by rfl) rfl (by first | exact news18 (RowIs.made Y1 28 [.slice ca an cc]) | exact news18 (RowIs.made Y1 28 [.slice ca an cc]).drew1) HO2.out HM3.out HM4.out (by first | exact hb4.size | exact (below_alloc hb4 _).size) ?_
        intro a2 c2 Y2 hown7 hbel7 hgr7
        have hb7 := hbel7 V.heap.size V (Nat.le_refl _) (by repeat (first | assumption | with_reducible exact Below.refl _ _ | with_reducible apply below_drew | with_reducible apply below_alloc))
        refine hK.out _ _ ?_ (fun hHeld4 => ?_)
        · ((try dsimp only); all_goals exact trivial)
        clear hK K hHeld3
        refine wpAnyH_ready (rs := [11]) (by kernel_rfl) (by simp) ?_
        refine AllReadyH.cons rfl (fun K hK => ?_) AllReadyH.nil
        refine step_append_any (by rfl) _ _ _ (by rfl) V.heap.size 28 i0 (.slice none 0 0) 1 24 (by kernel_rfl) hi0 hz0 hz1 hz2 rfl (by decide) _ _ _ (by rfl) hown7 AD l2 _ (ds.drop n) (by rfl) HL3.out (HCA.out _ hb7) HO3.out HM5.out HM6.out hb7.size ?_
        intro a3 c3 Y3 hown11 hbel11 hgr11
        have hb11 := hbel11 V.heap.size V (Nat.le_refl _) (by repeat (first | assumption | with_reducible exact Below.refl _ _ | with_reducible apply below_drew | with_reducible apply below_alloc))
        refine hK.out _ _ ?_ (fun hHeld5 => ?_)
        · ((try dsimp only); all_goals exact trivial)
        clear hK K hHeld4
        refine wpAnyH_ready (rs := [12]) (by kernel_rfl) (by simp) ?_
        refine AllReadyH.cons rfl (fun K hK => ?_) AllReadyH.nil
        go_simp
        refine hK.out _ _ ?_ (fun hHeld6 => ?_)
        · ((try dsimp only); all_goals exact trivial)
        clear hK K hHeld5
        refine wpAnyH_done (by kernel_rfl) ?_ _
        clear hHeld6
        have HR := Lib.hid (HFN.out _ _ _ hown11 rfl hb11)
        clear hown4 hbel4 hgr4 hown7 hbel7 hgr7 hown11 hbel11 hgr11 hb4 hb7 hb11
        go_wp2
        exact bodyPost_ret (v := .slice a3 (n + 1 + l2) c3) (by simp [results, Tryz.results60, go_sem]) rfl HR.out
      · skip
        go_simp
        refine hK.out _ _ ?_ (fun hHeld7 => ?_)
        · ((try dsimp only); all_goals exact trivial)
        clear hK K hHeld1
        refine wpAnyH_ready (rs := [4]) (by kernel_rfl) (by simp) ?_
        refine AllReadyH.cons rfl (fun K hK => ?_) AllReadyH.nil
        refine step_append_first (by rfl) _ _ _ (by rfl) V.heap.size 28 i0 (.slice none 0 0) 1 24 (by kernel_rfl) hi0 hz0 hz1 hz2 rfl (by decide) (.slice (some ⟨V.heap.size, 0, none⟩) 0 0) (by rfl) (by first | exact (World.ownsRow_made V #[] 0 (Nat.le_refl _) (Nat.zero_le _) rfl) | exact (World.ownsRow_made V #[] 0 (Nat.le_refl _) (Nat.zero_le _) rfl).drew | exact (World.ownsRow_made V #[] 0 (Nat.le_refl _) (Nat.zero_le _) rfl).alloc _ | exact ((World.ownsRow_made V #[] 0 (Nat.le_refl _) (Nat.zero_le _) rfl).alloc _).drew) ⟨lb, off, none⟩ n _ (ds.take n) (by rfl) HL1.out (HC1.out _ (by repeat (first | assumption | with_reducible exact Below.refl _ _ | with_reducible apply below_drew | with_reducible apply below_alloc))) HO1.out HM1.out HM2.out (by first | exact Nat.le_refl _ | (simp; done) | (simp; omega)) ?_
        intro a1 c1 Y1 hown4 hbel4 hgr4
        have hb4 := hbel4 V.heap.size V (Nat.le_refl _) (by repeat (first | assumption | with_reducible exact Below.refl _ _ | with_reducible apply below_drew | with_reducible apply below_alloc))
        refine hK.out _ _ ?_ (fun hHeld8 => ?_)
        · ((try dsimp only); all_goals exact trivial)
        clear hK K hHeld7
        refine wpAnyH_ready (rs := [7]) (by kernel_rfl) (by simp) ?_
        refine AllReadyH.cons rfl (fun K hK => ?_) AllReadyH.nil
        refine step_append_any (by rfl) _ _ _ (by rfl) V.heap.size 28 i0 (.slice none 0 0) 1 24 (by kernel_rfl) hi0 hz0 hz1 hz2 rfl (by decide) _ _ _ (by rfl) (by first | exact hown4 | exact hown4.alloc _ | exact hown4.drew | exact (hown4.alloc _).drew) ⟨V.heap.size + 1, 0, none⟩ 1 1 [.slice ca an cc] (by rfl) rfl (by first | exact news18 ((RowIs.made' (V.alloc (.cells #[] 28)) 28 [.slice ca an cc] (V.heap.size + 1) (by simp)).grown hgr4 (by simp [Value.ownBlock])) | exact news18 ((RowIs.made' (V.alloc (.cells #[] 28)) 28 [.slice ca an cc] (V.heap.size + 1) (by simp)).drew1.grown hgr4 (by simp [Value.ownBlock]))) HO2.out HM3.out HM4.out (by first | exact hb4.size | exact (below_alloc hb4 _).size) ?_
        intro a2 c2 Y2 hown7 hbel7 hgr7
        have hb7 := hbel7 V.heap.size V (Nat.le_refl _) (by repeat (first | assumption | with_reducible exact Below.refl _ _ | with_reducible apply below_drew | with_reducible apply below_alloc))
        refine hK.out _ _ ?_ (fun hHeld9 => ?_)
        · ((try dsimp only); all_goals exact trivial)
        clear hK K hHeld8
        refine wpAnyH_ready (rs := [11]) (by kernel_rfl) (by simp) ?_
        refine AllReadyH.cons rfl (fun K hK => ?_) AllReadyH.nil
        refine step_append_any (by rfl) _ _ _ (by rfl) V.heap.size 28 i0 (.slice none 0 0) 1 24 (by kernel_rfl) hi0 hz0 hz1 hz2 rfl (by decide) _ _ _ (by rfl) hown7 AD l2 _ (ds.drop n) (by rfl) HL3.out (HCA.out _ hb7) HO3.out HM5.out HM6.out hb7.size ?_
        intro a3 c3 Y3 hown11 hbel11 hgr11
        have hb11 := hbel11 V.heap.size V (Nat.le_refl _) (by repeat (first | assumption | with_reducible exact Below.refl _ _ | with_reducible apply below_drew | with_reducible apply below_alloc))
        refine hK.out _ _ ?_ (fun hHeld10 => ?_)
        · ((try dsimp only); all_goals exact trivial)
        clear hK K hHeld9
        refine wpAnyH_ready (rs := [12]) (by kernel_rfl) (by simp) ?_
        refine AllReadyH.cons rfl (fun K hK => ?_) AllReadyH.nil
        go_simp
        refine hK.out _ _ ?_ (fun hHeld11 => ?_)
        · ((try dsimp only); all_goals exact trivial)
        clear hK K hHeld10
        refine wpAnyH_done (by kernel_rfl) ?_ _
        clear hHeld11
        have HR := Lib.hid (HFN.out _ _ _ hown11 rfl hb11)
        clear hown4 hbel4 hgr4 hown7 hbel7 hgr7 hown11 hbel11 hgr11 hb4 hb7 hb11
        go_wp2
        exact bodyPost_ret (v := .slice a3 (n + 1 + l2) c3) (by simp [results, Tryz.results60, go_sem]) rfl HR.out
    · skip
      go_simp
      refine hK.out _ _ ?_ (fun hHeld12 => ?_)
      · ((try dsimp only); all_goals exact trivial)
      clear hK K hHeld0
      refine wpAnyH_ready (rs := [0]) (by kernel_rfl) (by simp) ?_
      refine AllReadyH.cons rfl (fun K hK => ?_) AllReadyH.nil
      go_simp
      refine hK.out _ _ ?_ (fun hHeld13 => ?_)
      · ((try dsimp only); all_goals exact trivial)
      clear hK K hHeld12
      refine wpAnyH_ready (rs := [4]) (by kernel_rfl) (by simp) ?_
      refine AllReadyH.cons rfl (fun K hK => ?_) AllReadyH.nil
      refine step_append_first (by rfl) _ _ _ (by rfl) V.heap.size 28 i0 (.slice none 0 0) 1 24 (by kernel_rfl) hi0 hz0 hz1 hz2 rfl (by decide) (.slice (some ⟨V.heap.size + 1, 0, none⟩) 0 0) (by rfl) (by have h := World.ownsRow_made (V.alloc (.cells #[.slice ca an cc] 28)) #[] 0 (e := 28) (size := 1) (Nat.le_refl _) (Nat.zero_le _) rfl; simp only [World.size_alloc] at h; first | exact owns_base h (by omega) | exact (owns_base h (by omega)).drew) ⟨lb, off, none⟩ n _ (ds.take n) (by rfl) HL1.out (HC1.out _ (by repeat (first | assumption | with_reducible exact Below.refl _ _ | with_reducible apply below_drew | with_reducible apply below_alloc))) HO1.out HM1.out HM2.out (by first | exact Nat.le_refl _ | (simp; done) | (simp; omega)) ?_
      intro a1 c1 Y1 hown4 hbel4 hgr4
      have hb4 := hbel4 V.heap.size V (Nat.le_refl _) (by repeat (first | assumption | with_reducible exact Below.refl _ _ | with_reducible apply below_drew | with_reducible apply below_alloc))
      refine hK.out _ _ ?_ (fun hHeld14 => ?_)
      · ((try dsimp only); all_goals exact trivial)
      clear hK K hHeld13
      refine wpAnyH_ready (rs := [7]) (by kernel_rfl) (by simp) ?_
      refine AllReadyH.cons rfl (fun K hK => ?_) AllReadyH.nil
      refine step_append_any (by rfl) _ _ _ (by rfl) V.heap.size 28 i0 (.slice none 0 0) 1 24 (by kernel_rfl) hi0 hz0 hz1 hz2 rfl (by decide) _ _ _ (by rfl) (by first | exact hown4 | exact hown4.alloc _ | exact hown4.drew | exact (hown4.alloc _).drew) ⟨V.heap.size, 0, none⟩ 1 1 [.slice ca an cc] (by rfl) rfl (by first | exact news18 (((RowIs.made V 28 [.slice ca an cc]).alloc (.cells #[] 28)).grown hgr4 (by simp [Value.ownBlock])) | exact news18 (((RowIs.made V 28 [.slice ca an cc]).alloc (.cells #[] 28)).drew1.grown hgr4 (by simp [Value.ownBlock]))) HO2.out HM3.out HM4.out (by first | exact hb4.size | exact (below_alloc hb4 _).size) ?_
      intro a2 c2 Y2 hown7 hbel7 hgr7
      have hb7 := hbel7 V.heap.size V (Nat.le_refl _) (by repeat (first | assumption | with_reducible exact Below.refl _ _ | with_reducible apply below_drew | with_reducible apply below_alloc))
      refine hK.out _ _ ?_ (fun hHeld15 => ?_)
      · ((try dsimp only); all_goals exact trivial)
      clear hK K hHeld14
      refine wpAnyH_ready (rs := [11]) (by kernel_rfl) (by simp) ?_
      refine AllReadyH.cons rfl (fun K hK => ?_) AllReadyH.nil
      refine step_append_any (by rfl) _ _ _ (by rfl) V.heap.size 28 i0 (.slice none 0 0) 1 24 (by kernel_rfl) hi0 hz0 hz1 hz2 rfl (by decide) _ _ _ (by rfl) hown7 AD l2 _ (ds.drop n) (by rfl) HL3.out (HCA.out _ hb7) HO3.out HM5.out HM6.out hb7.size ?_
      intro a3 c3 Y3 hown11 hbel11 hgr11
      have hb11 := hbel11 V.heap.size V (Nat.le_refl _) (by repeat (first | assumption | with_reducible exact Below.refl _ _ | with_reducible apply below_drew | with_reducible apply below_alloc))
      refine hK.out _ _ ?_ (fun hHeld16 => ?_)
      · ((try dsimp only); all_goals exact trivial)
      clear hK K hHeld15
      refine wpAnyH_ready (rs := [12]) (by kernel_rfl) (by simp) ?_
      refine AllReadyH.cons rfl (fun K hK => ?_) AllReadyH.nil
      go_simp
      refine hK.out _ _ ?_ (fun hHeld17 => ?_)
      · ((try dsimp only); all_goals exact trivial)
      clear hK K hHeld16
      refine wpAnyH_done (by kernel_rfl) ?_ _
      clear hHeld17
      have HR := Lib.hid (HFN.out _ _ _ hown11 rfl hb11)
      clear hown4 hbel4 hgr4 hown7 hbel7 hgr7 hown11 hbel11 hgr11 hb4 hb7 hb11
      go_wp2
      exact bodyPost_ret (v := .slice a3 (n + 1 + l2) c3) (by simp [results, Tryz.results60, go_sem]) rfl HR.out
  case pos =>
  have hks : k < S.length := by rw [← HN.out]; exact hlt
  have hkd : k < ds.length := by rw [HDL.out]; exact hks
  have hbx := (HCX.out X hb).2
  obtain ⟨hlbX, hcX, hrX⟩ := HSX.out X hbx
  obtain ⟨pa, pc, hd1, hpl, hpI, -⟩ := hrX k S[k] ds[k] (List.getElem?_eq_getElem hks) (List.getElem?_eq_getElem hkd)
  have c1 := hcX k _ (List.getElem?_eq_getElem hkd)
  rw [hd1] at c1
  obtain ⟨pr, hpr⟩ : ∃ p, p = S[k] := ⟨_, rfl⟩
  have hSk : S[k]? = some pr := by rw [List.getElem?_eq_getElem hks, hpr]
  rw [← hpr] at c1 hpl hpI
  obtain ⟨pn, hpn⟩ : ∃ n, n = pr.length := ⟨_, rfl⟩
  have hRW := row18 pr C pa ca pc cc X hpI (HCX.out X hb).1 hpl (by rw [HLN.out]; exact la)
  rw [← hpn, HLN.out] at hRW
  rw [← hpn] at c1 hpl
  have HRW := Lib.hid hRW
  have HSK := Lib.hid hSk
  have HPI := Lib.hid hpI
  have HPN := Lib.hid hpn
  have bk : (0 : Int) ≤ (k : Int) ∧ (k : Int) < (n : Int) := by omega
  clear hks hkd hbx hlbX hcX hrX hd1 hpI hpr hSk hpn hRW hb
  go_wp2_with fail
  refine HRW.out.mono ?_
  rintro e w2 ⟨lt, rfl, hlt', hb2⟩
  have HLTB := Lib.hid hlt'
  have HB2 := Lib.hid (below_more HBX.out hb2 HBX.out.size)
  have hPI2 := HPI.out.mono (Nat.le_refl _) hb2
  clear hlt' c1 HRW
  cases lt
  case' true =>
    have HNX := Lib.hid (show ∀ i e, i < k + 1 → S[i]? = some e → ltR e C from fun i e hi he => by
      by_cases q : i = k
      · subst q
        rw [HSK.out] at he
        cases he
        exact HLTB.out.1 rfl
      · exact HLT.out i e (by omega) he)
    clear hb2 hPI2
    go_wp2
    go_roundw
    case rel => exact ⟨k + 1, by omega, by go_num, HNX, HB2.out⟩
    case measure => simp [intOf]; omega
  case' false =>
  have HNL := Lib.hid (show ¬ ltR pr C from fun h => by have := HLTB.out.2 h; cases this)
  have hbx := (HCX.out w2 HB2.out).2
  have hks : k < S.length := by rw [← HN.out]; exact hlt
  have hkd : k < ds.length := by rw [HDL.out]; exact hks
  obtain ⟨hlbX, hcX, hrX⟩ := HSX.out w2 hbx
  obtain ⟨pa2, pc2, hd2, hpl2, hpI2, -⟩ := hrX k pr ds[k] HSK.out (List.getElem?_eq_getElem hkd)
  have c1 := hcX k _ (List.getElem?_eq_getElem hkd)
  rw [hd2, ← HPN.out] at c1
  have hRW := row18 C pr ca pa2 cc pc2 w2 (HCX.out w2 HB2.out).1 hpI2 (by rw [HLN.out]; exact la) (by rw [← HPN.out]; exact hpl)
  rw [← HPN.out, HLN.out] at hRW
  have HRW := Lib.hid hRW
  clear hb2 hPI2 hbx hks hkd hlbX hcX hrX hd2 hpl2 hpI2 hRW
  go_wp2_with fail
  refine HRW.out.mono ?_
  rintro e w3 ⟨lt2, rfl, hlt2, hb3⟩
  have HB3 := Lib.hid (below_more HB2.out hb3 HB2.out.size)
  have HLT2 := Lib.hid hlt2
  clear hb3 hlt2 c1 HRW
  cases lt2
  case' false =>
    have HFIN := Lib.hid (show PutP gg S (canonR A) w (.returned (.slice (some ⟨lb, off, none⟩) n cap)) w3 from by
      rw [← HCE.out]
      have hbw := (HCX.out w3 HB3.out).2
      obtain ⟨q1, q2, q3⟩ := HSX.out w3 hbw
      refine ⟨_, S, rfl, ⟨lb, off, cap, ds, by rw [HN.out], by rw [← HN.out]; exact hc, ⟨q1, HLBG.out⟩, HDL.out, q2, HONE.out, q3⟩, ⟨k, by rw [← HN.out]; exact hk, HLT.out, fun e he => ?_, .inl ⟨?_, rfl⟩⟩, hbw⟩
      · rw [HSK.out] at he; cases he; exact HNL.out
      · rw [HSK.out, ltR_eq HNL.out (fun h => by have := HLT2.out.2 h; cases this)])
    go_wp2
    exact bodyPost_ret (v := .slice (some ⟨lb, off, none⟩) n cap) (by simp [results, Tryz.results60, go_sem]) rfl HFIN.out
  case' true =>
  have HGE := Lib.hid (show ∀ e, S[k]? = some e → ¬ ltR e C ∧ e ≠ C from fun e he => by
    rw [HSK.out] at he
    cases he
    refine ⟨HNL.out, fun q => ?_⟩
    have h := HLT2.out.1 rfl
    rw [q] at h
    unfold ltR at h
    rw [cmpR_refl] at h
    omega)
  obtain ⟨V, rfl⟩ : ∃ V : World, V = w3 := ⟨_, rfl⟩
  have hVb := HB3.out
  have hV : V = V := rfl
  go_wp2
  have HVB := Lib.hid (HCX.out V hVb).2
  have HVC := Lib.hid (HCX.out V hVb).1
  have HC1 := Lib.hid (show ∀ X, Below V.heap.size V X → ∀ j u, (ds.take k)[j]? = some u → X.cell? ((⟨lb, off, none⟩ : Addr).add j) = some u from fun X h j u hj => by
    rw [Addr.add_lit]
    rw [List.getElem?_take] at hj
    split at hj
    · exact (HSX.out X (below_more HVB.out h HVB.out.size)).2.1 j u hj
    · cases hj)
  have HL1 := Lib.hid (show (ds.take k).length = k * 1 from by rw [List.length_take, Nat.mul_one]; have := HN.out; have := HDL.out; omega)
  obtain ⟨l2, hl2⟩ : ∃ l2, l2 = n - k := ⟨_, rfl⟩
  have HL2 := Lib.hid hl2
  have HL3 := Lib.hid (show (ds.drop k).length = l2 * 1 from by rw [List.length_drop, Nat.mul_one]; have := HN.out; have := HDL.out; omega)
  obtain ⟨AD, hAD⟩ : ∃ AD : Addr, AD = if cap = k then ⟨lb, off, none⟩ else ⟨lb, off + k, none⟩ := ⟨_, rfl⟩
  have HCA := Lib.hid (show ∀ X, Below V.heap.size V X → ∀ j u, (ds.drop k)[j]? = some u → X.cell? (AD.add j) = some u from fun X h j u hj => by
    rw [hAD]
    by_cases e : cap = k
    · have h1 := (List.getElem?_eq_some_iff.1 hj).1
      rw [HL3.out] at h1
      omega
    · rw [if_neg e, Addr.add_lit, Nat.add_assoc]
      rw [List.getElem?_drop] at hj
      exact (HSX.out X (below_more HVB.out h HVB.out.size)).2.1 _ u hj)
  have hs1 : ∀ w, (Instr.sliceAt 44 (.slice (some ⟨lb, off, none⟩) n cap) none (some (.int .i64 (k : Int))) none).run Tryz.prog w = .ok (.slice (some ⟨lb, off, none⟩) k cap) w := fun w => rsliceAt_hi lb off n cap k (by omega) w
  have hs2 : ∀ w, (Instr.sliceAt 44 (.slice (some ⟨lb, off, none⟩) n cap) (some (.int .i64 (k : Int))) none none).run Tryz.prog w = .ok (.slice (some AD) l2 (cap - k)) w := fun w => by
    rw [rsliceAt_lo lb off n cap k (by omega) w, ← hl2, hAD]
  have HO1 := Lib.hid (show ∀ u ∈ ds.take k, u.oneCell' = true from fun u hu => HONE.out u (List.mem_of_mem_take hu))
  have HO2 := Lib.hid (show ∀ u ∈ [Value.slice ca an cc], u.oneCell' = true from by intro u hu; simp at hu; subst hu; rfl)
  have HO3 := Lib.hid (show ∀ u ∈ ds.drop k, u.oneCell' = true from fun u hu => HONE.out u (List.mem_of_mem_drop hu))
  have HM1 := Lib.hid (show k ≤ maxLen by unfold maxLen; omega)
  have HM2 := Lib.hid (show k * 24 ≤ 140737488355328 by omega)
  have HM3 := Lib.hid (show k + 1 ≤ maxLen by unfold maxLen; omega)
  have HM4 := Lib.hid (show (k + 1) * 24 ≤ 140737488355328 by omega)
  have HM5 := Lib.hid (show k + 1 + l2 ≤ maxLen by unfold maxLen; omega)
  have HM6 := Lib.hid (show (k + 1 + l2) * 24 ≤ 140737488355328 by omega)
  have HFN := Lib.hid (show ∀ (W' : World) (v : Value) (xs : List Value), W'.ownsRow V.heap.size 28 1 v (k + 1 + l2) xs → xs = ds.take k ++ [.slice ca an cc] ++ ds.drop k → Below V.heap.size V W' → PutP gg S (canonR A) w (.returned v) W' from fun W' v xs ho hx hb' => HCE.out ▸ putP_new (V := V) (cc := cc) ho (by rw [hx, HLN.out]) HN.out (by omega) HL2.out HDL.out HONE.out (HSX.out V HVB.out).2.2 HVC.out (by rw [HLN.out]; exact HCG.out) (by have := HGG.out; have := HVB.out.size; omega) (by rw [HLN.out]; exact la) HLT.out HGE.out hb' (below_more HVB.out hb' HVB.out.size))
  clear hV hVb hl2 hAD
  go_upto_region 8 with fail
  refine wp_region_held_drew (S := (fun _ => True)) (by kernel_rfl) ?_ (fun hHeld0 => ?_)
  · ((try dsimp only); all_goals exact trivial)
  refine wpAnyH_take (i := 1) (v := ?_) rfl (by kernel_rfl) (by kernel_rfl) (by kernel_rfl) (fun _ _ _ h => h) (Or.inl ⟨by rfl, ?_⟩) (by assumption) ?_
  rotate_left
  · (intro w hSw; (try dsimp only at hSw); go_simp; try with_reducible rfl)
  try simp only [List.getElem_toArray, List.getElem_cons_succ, List.getElem_cons_zero, Act.put, List.setIfInBounds_toArray, List.set_cons_zero, List.set_cons_succ]
  refine wpAnyH_take (i := 2) (v := ?_) rfl (by kernel_rfl) (by kernel_rfl) (by kernel_rfl) (fun _ _ _ h => h) (Or.inl ⟨by rfl, ?_⟩) (by assumption) ?_
  rotate_left
  · (intro w hSw; (try dsimp only at hSw); go_simp; try with_reducible rfl)
  try simp only [List.getElem_toArray, List.getElem_cons_succ, List.getElem_cons_zero, Act.put, List.setIfInBounds_toArray, List.set_cons_zero, List.set_cons_succ]
  refine wpAnyH_take (i := 3) (v := (.slice (some ⟨lb, off, none⟩) k cap)) rfl (by kernel_rfl) (by kernel_rfl) (by kernel_rfl) (fun _ _ _ h => h) (Or.inl ⟨by rfl, ?_⟩) (by assumption) ?_
  · (intro w hSw; (try dsimp only at hSw); go_simp; try with_reducible rfl)
  try simp only [List.getElem_toArray, List.getElem_cons_succ, List.getElem_cons_zero, Act.put, List.setIfInBounds_toArray, List.set_cons_zero, List.set_cons_succ]
  refine wpAnyH_take (i := 5) (v := ?_) rfl (by kernel_rfl) (by kernel_rfl) (by kernel_rfl) (fun _ _ _ h => h) (Or.inl ⟨by rfl, ?_⟩) (by assumption) ?_
  rotate_left
  · (intro w hSw; (try dsimp only at hSw); go_simp; try with_reducible rfl)
  try simp only [List.getElem_toArray, List.getElem_cons_succ, List.getElem_cons_zero, Act.put, List.setIfInBounds_toArray, List.set_cons_zero, List.set_cons_succ]
  refine wpAnyH_take (i := 8) (v := ?_) rfl (by kernel_rfl) (by kernel_rfl) (by kernel_rfl) (fun _ _ _ h => h) (Or.inl ⟨by rfl, ?_⟩) (by assumption) ?_
  rotate_left
  · (intro w hSw; (try dsimp only at hSw); go_simp; try with_reducible rfl)
  try simp only [List.getElem_toArray, List.getElem_cons_succ, List.getElem_cons_zero, Act.put, List.setIfInBounds_toArray, List.set_cons_zero, List.set_cons_succ]
  refine wpAnyH_take (i := 9) (v := ?_) rfl (by kernel_rfl) (by kernel_rfl) (by kernel_rfl) (fun _ _ _ h => h) (Or.inl ⟨by rfl, ?_⟩) (by assumption) ?_
  rotate_left
  · (intro w hSw; (try dsimp only at hSw); go_simp; try with_reducible rfl)
  try simp only [List.getElem_toArray, List.getElem_cons_succ, List.getElem_cons_zero, Act.put, List.setIfInBounds_toArray, List.set_cons_zero, List.set_cons_succ]
  refine wpAnyH_take (i := 10) (v := (.slice (some AD) l2 (cap - k))) rfl (by kernel_rfl) (by kernel_rfl) (by kernel_rfl) (fun _ _ _ h => h) (Or.inl ⟨by rfl, ?_⟩) (by assumption) ?_
  · (intro w hSw; (try dsimp only at hSw); go_simp; try with_reducible rfl)
  try simp only [List.getElem_toArray, List.getElem_cons_succ, List.getElem_cons_zero, Act.put, List.setIfInBounds_toArray, List.set_cons_zero, List.set_cons_succ]
  refine wpAnyH_ready (rs := [0, 6]) (by kernel_rfl) (by simp) ?_
  refine AllReadyH.cons rfl (fun K hK => ?_) (AllReadyH.cons rfl (fun K hK => ?_) AllReadyH.nil)
  · skip
    go_simp
    refine hK.out _ _ ?_ (fun hHeld1 => ?_)
    · ((try dsimp only); all_goals exact trivial)
    clear hK K hHeld0
    refine wpAnyH_ready (rs := [4, 6]) (by kernel_rfl) (by simp) ?_
    refine AllReadyH.cons rfl (fun K hK => ?_) (AllReadyH.cons rfl (fun K hK => ?_) AllReadyH.nil)
    · skip
      refine step_append_first (by rfl) _ _ _ (by rfl) V.heap.size 28 i0 (.slice none 0 0) 1 24 (by kernel_rfl) hi0 hz0 hz1 hz2 rfl (by decide) (.slice (some ⟨V.heap.size, 0, none⟩) 0 0) (by rfl) (by first | exact (World.ownsRow_made V #[] 0 (Nat.le_refl _) (Nat.zero_le _) rfl) | exact (World.ownsRow_made V #[] 0 (Nat.le_refl _) (Nat.zero_le _) rfl).drew | exact (World.ownsRow_made V #[] 0 (Nat.le_refl _) (Nat.zero_le _) rfl).alloc _ | exact ((World.ownsRow_made V #[] 0 (Nat.le_refl _) (Nat.zero_le _) rfl).alloc _).drew) ⟨lb, off, none⟩ k _ (ds.take k) (by rfl) HL1.out (HC1.out _ (by repeat (first | assumption | with_reducible exact Below.refl _ _ | with_reducible apply below_drew | with_reducible apply below_alloc))) HO1.out HM1.out HM2.out (by first | exact Nat.le_refl _ | (simp; done) | (simp; omega)) ?_
      intro a1 c1 Y1 hown4 hbel4 hgr4
      have hb4 := hbel4 V.heap.size V (Nat.le_refl _) (by repeat (first | assumption | with_reducible exact Below.refl _ _ | with_reducible apply below_drew | with_reducible apply below_alloc))
      refine hK.out _ _ ?_ (fun hHeld2 => ?_)
      · ((try dsimp only); all_goals exact trivial)
      clear hK K hHeld1
      refine wpAnyH_ready (rs := [6]) (by kernel_rfl) (by simp) ?_
      refine AllReadyH.cons rfl (fun K hK => ?_) AllReadyH.nil
      go_simp
      refine hK.out _ _ ?_ (fun hHeld3 => ?_)
      · ((try dsimp only); all_goals exact trivial)
      clear hK K hHeld2
      refine wpAnyH_ready (rs := [7]) (by kernel_rfl) (by simp) ?_
      refine AllReadyH.cons rfl (fun K hK => ?_) AllReadyH.nil
      refine step_append_any (by rfl) _ _ _ (by rfl) V.heap.size 28 i0 (.slice none 0 0) 1 24 (by kernel_rfl) hi0 hz0 hz1 hz2 rfl (by decide) _ _ _ (by rfl) (by first | exact hown4 | exact hown4.alloc _ | exact hown4.drew | exact (hown4.alloc _).drew) ⟨Y1.heap.size, 0, none⟩ 1 1 [.slice ca an cc] (by rfl) rfl (by first | exact news18 (RowIs.made Y1 28 [.slice ca an cc]) | exact news18 (RowIs.made Y1 28 [.slice ca an cc]).drew1) HO2.out HM3.out HM4.out (by first | exact hb4.size | exact (below_alloc hb4 _).size) ?_
      intro a2 c2 Y2 hown7 hbel7 hgr7
      have hb7 := hbel7 V.heap.size V (Nat.le_refl _) (by repeat (first | assumption | with_reducible exact Below.refl _ _ | with_reducible apply below_drew | with_reducible apply below_alloc))
      refine hK.out _ _ ?_ (fun hHeld4 => ?_)
      · ((try dsimp only); all_goals exact trivial)
      clear hK K hHeld3
      refine wpAnyH_ready (rs := [11]) (by kernel_rfl) (by simp) ?_
      refine AllReadyH.cons rfl (fun K hK => ?_) AllReadyH.nil
      refine step_append_any (by rfl) _ _ _ (by rfl) V.heap.size 28 i0 (.slice none 0 0) 1 24 (by kernel_rfl) hi0 hz0 hz1 hz2 rfl (by decide) _ _ _ (by rfl) hown7 AD l2 _ (ds.drop k) (by rfl) HL3.out (HCA.out _ hb7) HO3.out HM5.out HM6.out hb7.size ?_
      intro a3 c3 Y3 hown11 hbel11 hgr11
      have hb11 := hbel11 V.heap.size V (Nat.le_refl _) (by repeat (first | assumption | with_reducible exact Below.refl _ _ | with_reducible apply below_drew | with_reducible apply below_alloc))
      refine hK.out _ _ ?_ (fun hHeld5 => ?_)
      · ((try dsimp only); all_goals exact trivial)
      clear hK K hHeld4
      refine wpAnyH_ready (rs := [12]) (by kernel_rfl) (by simp) ?_
      refine AllReadyH.cons rfl (fun K hK => ?_) AllReadyH.nil
      go_simp
      refine hK.out _ _ ?_ (fun hHeld6 => ?_)
      · ((try dsimp only); all_goals exact trivial)
      clear hK K hHeld5
      refine wpAnyH_done (by kernel_rfl) ?_ _
      clear hHeld6
      have HR := Lib.hid (HFN.out _ _ _ hown11 rfl hb11)
      clear hown4 hbel4 hgr4 hown7 hbel7 hgr7 hown11 hbel11 hgr11 hb4 hb7 hb11
      go_wp2
      exact bodyPost_ret (v := .slice a3 (k + 1 + l2) c3) (by simp [results, Tryz.results60, go_sem]) rfl HR.out
    · skip
      go_simp
      refine hK.out _ _ ?_ (fun hHeld7 => ?_)
      · ((try dsimp only); all_goals exact trivial)
      clear hK K hHeld1
      refine wpAnyH_ready (rs := [4]) (by kernel_rfl) (by simp) ?_
      refine AllReadyH.cons rfl (fun K hK => ?_) AllReadyH.nil
      refine step_append_first (by rfl) _ _ _ (by rfl) V.heap.size 28 i0 (.slice none 0 0) 1 24 (by kernel_rfl) hi0 hz0 hz1 hz2 rfl (by decide) (.slice (some ⟨V.heap.size, 0, none⟩) 0 0) (by rfl) (by first | exact (World.ownsRow_made V #[] 0 (Nat.le_refl _) (Nat.zero_le _) rfl) | exact (World.ownsRow_made V #[] 0 (Nat.le_refl _) (Nat.zero_le _) rfl).drew | exact (World.ownsRow_made V #[] 0 (Nat.le_refl _) (Nat.zero_le _) rfl).alloc _ | exact ((World.ownsRow_made V #[] 0 (Nat.le_refl _) (Nat.zero_le _) rfl).alloc _).drew) ⟨lb, off, none⟩ k _ (ds.take k) (by rfl) HL1.out (HC1.out _ (by repeat (first | assumption | with_reducible exact Below.refl _ _ | with_reducible apply below_drew | with_reducible apply below_alloc))) HO1.out HM1.out HM2.out (by first | exact Nat.le_refl _ | (simp; done) | (simp; omega)) ?_
      intro a1 c1 Y1 hown4 hbel4 hgr4
      have hb4 := hbel4 V.heap.size V (Nat.le_refl _) (by repeat (first | assumption | with_reducible exact Below.refl _ _ | with_reducible apply below_drew | with_reducible apply below_alloc))
      refine hK.out _ _ ?_ (fun hHeld8 => ?_)
      · ((try dsimp only); all_goals exact trivial)
      clear hK K hHeld7
      refine wpAnyH_ready (rs := [7]) (by kernel_rfl) (by simp) ?_
      refine AllReadyH.cons rfl (fun K hK => ?_) AllReadyH.nil
      refine step_append_any (by rfl) _ _ _ (by rfl) V.heap.size 28 i0 (.slice none 0 0) 1 24 (by kernel_rfl) hi0 hz0 hz1 hz2 rfl (by decide) _ _ _ (by rfl) (by first | exact hown4 | exact hown4.alloc _ | exact hown4.drew | exact (hown4.alloc _).drew) ⟨V.heap.size + 1, 0, none⟩ 1 1 [.slice ca an cc] (by rfl) rfl (by first | exact news18 ((RowIs.made' (V.alloc (.cells #[] 28)) 28 [.slice ca an cc] (V.heap.size + 1) (by simp)).grown hgr4 (by simp [Value.ownBlock])) | exact news18 ((RowIs.made' (V.alloc (.cells #[] 28)) 28 [.slice ca an cc] (V.heap.size + 1) (by simp)).drew1.grown hgr4 (by simp [Value.ownBlock]))) HO2.out HM3.out HM4.out (by first | exact hb4.size | exact (below_alloc hb4 _).size) ?_
      intro a2 c2 Y2 hown7 hbel7 hgr7
      have hb7 := hbel7 V.heap.size V (Nat.le_refl _) (by repeat (first | assumption | with_reducible exact Below.refl _ _ | with_reducible apply below_drew | with_reducible apply below_alloc))
      refine hK.out _ _ ?_ (fun hHeld9 => ?_)
      · ((try dsimp only); all_goals exact trivial)
      clear hK K hHeld8
      refine wpAnyH_ready (rs := [11]) (by kernel_rfl) (by simp) ?_
      refine AllReadyH.cons rfl (fun K hK => ?_) AllReadyH.nil
      refine step_append_any (by rfl) _ _ _ (by rfl) V.heap.size 28 i0 (.slice none 0 0) 1 24 (by kernel_rfl) hi0 hz0 hz1 hz2 rfl (by decide) _ _ _ (by rfl) hown7 AD l2 _ (ds.drop k) (by rfl) HL3.out (HCA.out _ hb7) HO3.out HM5.out HM6.out hb7.size ?_
      intro a3 c3 Y3 hown11 hbel11 hgr11
      have hb11 := hbel11 V.heap.size V (Nat.le_refl _) (by repeat (first | assumption | with_reducible exact Below.refl _ _ | with_reducible apply below_drew | with_reducible apply below_alloc))
      refine hK.out _ _ ?_ (fun hHeld10 => ?_)
      · ((try dsimp only); all_goals exact trivial)
      clear hK K hHeld9
      refine wpAnyH_ready (rs := [12]) (by kernel_rfl) (by simp) ?_
      refine AllReadyH.cons rfl (fun K hK => ?_) AllReadyH.nil
      go_simp
      refine hK.out _ _ ?_ (fun hHeld11 => ?_)
      · ((try dsimp only); all_goals exact trivial)
      clear hK K hHeld10
      refine wpAnyH_done (by kernel_rfl) ?_ _
      clear hHeld11
      have HR := Lib.hid (HFN.out _ _ _ hown11 rfl hb11)
      clear hown4 hbel4 hgr4 hown7 hbel7 hgr7 hown11 hbel11 hgr11 hb4 hb7 hb11
      go_wp2
      exact bodyPost_ret (v := .slice a3 (k + 1 + l2) c3) (by simp [results, Tryz.results60, go_sem]) rfl HR.out
  · skip
    go_simp
    refine hK.out _ _ ?_ (fun hHeld12 => ?_)
    · ((try dsimp only); all_goals exact trivial)
    clear hK K hHeld0
    refine wpAnyH_ready (rs := [0]) (by kernel_rfl) (by simp) ?_
    refine AllReadyH.cons rfl (fun K hK => ?_) AllReadyH.nil
    go_simp
    refine hK.out _ _ ?_ (fun hHeld13 => ?_)
    · ((try dsimp only); all_goals exact trivial)
    clear hK K hHeld12
    refine wpAnyH_ready (rs := [4]) (by kernel_rfl) (by simp) ?_
    refine AllReadyH.cons rfl (fun K hK => ?_) AllReadyH.nil
    refine step_append_first (by rfl) _ _ _ (by rfl) V.heap.size 28 i0 (.slice none 0 0) 1 24 (by kernel_rfl) hi0 hz0 hz1 hz2 rfl (by decide) (.slice (some ⟨V.heap.size + 1, 0, none⟩) 0 0) (by rfl) (by have h := World.ownsRow_made (V.alloc (.cells #[.slice ca an cc] 28)) #[] 0 (e := 28) (size := 1) (Nat.le_refl _) (Nat.zero_le _) rfl; simp only [World.size_alloc] at h; first | exact owns_base h (by omega) | exact (owns_base h (by omega)).drew) ⟨lb, off, none⟩ k _ (ds.take k) (by rfl) HL1.out (HC1.out _ (by repeat (first | assumption | with_reducible exact Below.refl _ _ | with_reducible apply below_drew | with_reducible apply below_alloc))) HO1.out HM1.out HM2.out (by first | exact Nat.le_refl _ | (simp; done) | (simp; omega)) ?_
    intro a1 c1 Y1 hown4 hbel4 hgr4
    have hb4 := hbel4 V.heap.size V (Nat.le_refl _) (by repeat (first | assumption | with_reducible exact Below.refl _ _ | with_reducible apply below_drew | with_reducible apply below_alloc))
    refine hK.out _ _ ?_ (fun hHeld14 => ?_)
    · ((try dsimp only); all_goals exact trivial)
    clear hK K hHeld13
    refine wpAnyH_ready (rs := [7]) (by kernel_rfl) (by simp) ?_
    refine AllReadyH.cons rfl (fun K hK => ?_) AllReadyH.nil
    refine step_append_any (by rfl) _ _ _ (by rfl) V.heap.size 28 i0 (.slice none 0 0) 1 24 (by kernel_rfl) hi0 hz0 hz1 hz2 rfl (by decide) _ _ _ (by rfl) (by first | exact hown4 | exact hown4.alloc _ | exact hown4.drew | exact (hown4.alloc _).drew) ⟨V.heap.size, 0, none⟩ 1 1 [.slice ca an cc] (by rfl) rfl (by first | exact news18 (((RowIs.made V 28 [.slice ca an cc]).alloc (.cells #[] 28)).grown hgr4 (by simp [Value.ownBlock])) | exact news18 (((RowIs.made V 28 [.slice ca an cc]).alloc (.cells #[] 28)).drew1.grown hgr4 (by simp [Value.ownBlock]))) HO2.out HM3.out HM4.out (by first | exact hb4.size | exact (below_alloc hb4 _).size) ?_
    intro a2 c2 Y2 hown7 hbel7 hgr7
    have hb7 := hbel7 V.heap.size V (Nat.le_refl _) (by repeat (first | assumption | with_reducible exact Below.refl _ _ | with_reducible apply below_drew | with_reducible apply below_alloc))
    refine hK.out _ _ ?_ (fun hHeld15 => ?_)
    · ((try dsimp only); all_goals exact trivial)
    clear hK K hHeld14
    refine wpAnyH_ready (rs := [11]) (by kernel_rfl) (by simp) ?_
    refine AllReadyH.cons rfl (fun K hK => ?_) AllReadyH.nil
    refine step_append_any (by rfl) _ _ _ (by rfl) V.heap.size 28 i0 (.slice none 0 0) 1 24 (by kernel_rfl) hi0 hz0 hz1 hz2 rfl (by decide) _ _ _ (by rfl) hown7 AD l2 _ (ds.drop k) (by rfl) HL3.out (HCA.out _ hb7) HO3.out HM5.out HM6.out hb7.size ?_
    intro a3 c3 Y3 hown11 hbel11 hgr11
    have hb11 := hbel11 V.heap.size V (Nat.le_refl _) (by repeat (first | assumption | with_reducible exact Below.refl _ _ | with_reducible apply below_drew | with_reducible apply below_alloc))
    refine hK.out _ _ ?_ (fun hHeld16 => ?_)
    · ((try dsimp only); all_goals exact trivial)
    clear hK K hHeld15
    refine wpAnyH_ready (rs := [12]) (by kernel_rfl) (by simp) ?_
    refine AllReadyH.cons rfl (fun K hK => ?_) AllReadyH.nil
    go_simp
    refine hK.out _ _ ?_ (fun hHeld17 => ?_)
    · ((try dsimp only); all_goals exact trivial)
    clear hK K hHeld16
    refine wpAnyH_done (by kernel_rfl) ?_ _
    clear hHeld17
    have HR := Lib.hid (HFN.out _ _ _ hown11 rfl hb11)
    clear hown4 hbel4 hgr4 hown7 hbel7 hgr7 hown11 hbel11 hgr11 hb4 hb7 hb11
    go_wp2
    exact bodyPost_ret (v := .slice a3 (k + 1 + l2) c3) (by simp [results, Tryz.results60, go_sem]) rfl HR.out
end Go.Proofs.YtkjamheoihlekaaGreat

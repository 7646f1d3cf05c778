/- gypsumlaw18.TreePrunes: the walk. -/
import Derived.Test.YtkjamheoihlekaaGreatAwake18
import Derived.Test.YtkjamheoihlekaaGreatRefIns18
import Derived.Test.YtkjamheoihlekaaGreatRefPrune18
namespace Go.Proofs.YtkjamheoihlekaaGreat
set_option linter.unusedVariables false
set_option linter.unusedSimpArgs false
open Go.RowKit
/-- 'append(x, none...)'. -/
theorem run_append_none18 {P : Program} (w : World) (t ty e : TypeId) (i : TypeInfo) (ht : P.underlying t = some (.slice e)) (hi : P.info? e = some i) (g n cap c : Nat) (hc : n ≤ cap) :
    (Builtin.append_ #[t, t] ty #[.slice (some ⟨g, 0, none⟩) n cap, .slice none 0 c]).run P w = .ok (.slice (some ⟨g, 0, none⟩) n cap) w := by
  simp [Builtin.append_, run_underlying ht, sizeOf, typeInfo, hi, Builtin.lenOf, hc, Builtin.firstCells, storeCells]
/-- 'append([]api.Edge{}, l...)': a list of edges of one's own. -/
theorem wpList_own18 {ops : Array Oper} {rest : List Oper} {o : Oper} {a : Act} {Q : Exit → Act → World → Prop} (w : World) (hgd : o.guard = none) (s x : Operand)
    (ho : o.op = .call { callee := .builtin .append, args := #[s, x], argTypes := #[34, 34] })
    (b : Nat) (hs : a.eval s = .slice (some ⟨b, 0, none⟩) 0 0) (hown : w.ownsRow b 40 2 (.slice (some ⟨b, 0, none⟩) 0 0) 0 []) (ao : Option Addr) (n cap : Nat) (hx : a.eval x = .slice ao n cap) (E : List (Int × Int)) (hn : n = E.length) (hE : EdgesAt w ao E) (hl : E.length ≤ 100000) (hb : b ≤ w.heap.size)
    (h : ∀ a' c' w', w'.ownsRow b 40 2 (.slice a' n c') n (ecells E) → w.grownBy w' (some b) → wpList Tryz.prog ops Q rest (a.put o.dst (.slice a' n c')) w') : wpList Tryz.prog ops Q (o :: rest) a w := by
  obtain ⟨i0, hi0, hz0, hz1, hz2⟩ := info_parts infoEdge
  refine wpList_plain hgd fun K hK => ?_
  cases ao with
  | none =>
    have h0 : E = [] := by
      cases E with
      | nil => rfl
      | cons t l =>
        obtain ⟨b, off, e, _⟩ := hE (by simp)
        cases e
    subst h0
    simp only [List.length_nil] at hn
    subst hn
    have hr := run_append_none18 (P := Tryz.prog) w 34 o.type 40 i0 (by kernel_rfl) hi0 b 0 0 cap (Nat.le_refl _)
    unfold Oper.wp execOp
    simp only [ho, resolve, invoke, builtin, Sem.run_bind, Sem.run_pure, Result.andThen_ok, List.map_toArray, List.map_cons, List.map_nil, hs, hx, hr]
    exact hK _ _ (h _ _ w hown ⟨rfl, rfl, rfl, Nat.le_refl _, fun _ _ _ => rfl⟩)
  | some ad =>
    refine wp_append_any s x 34 ho b 40 i0 (.agg #[.int .i64 0, .int .i64 0]) 2 16 (by kernel_rfl) hi0 hz0 hz1 hz2 rfl (by decide) _ 0 [] hs hown ad n cap (ecells E) hx (by rw [ecells_length, hn]) ?_ (ecells_one E) (by unfold maxLen; omega) (by omega) hb fun a' c' w' h1 _ h3 => hK _ _ ?_
    · intro j u hj
      have hne : E ≠ [] := fun q => by rw [q] at hj; simp [ecells] at hj
      obtain ⟨b', off, e, -, -⟩ := hE hne
      cases e
      rw [Addr.add_lit]
      exact hE.cells j u hj
    · rw [Nat.zero_add] at h1 ⊢
      exact h a' c' w' (by simpa using h1) h3
set_option maxRecDepth 100000 in
set_option maxHeartbeats 4000000 in
theorem treeprunes_any (E : List (Int × Int)) (ao : Option Addr) (cap : Nat) (turn : Int) (w : World) (hE : EdgesAt w ao E) (hI : EI64 E) (hc : E.length ≤ cap) (hm : E.length ≤ 9223372036854775807) (ht : 0 ≤ turn ∧ turn < 256) :
    Calls Tryz.prog 4 #[.slice ao E.length cap, .int .u8 turn] w fun e w' => e = .returned (.bool true) ∧ Below w.heap.size w w' := by
  obtain ⟨i0, hi0, hz0, hz1, hz2⟩ := info_parts infoEdge
  obtain ⟨n, hn⟩ : ∃ n, n = E.length := ⟨_, rfl⟩
  have HAW := Lib.hid (awake18 w)
  have HE := Lib.hid hE
  have HI := Lib.hid hI
  have HN := Lib.hid hn
  have HTT := Lib.hid ht
  rw [← hn] at hc hm ⊢
  clear hE hI hn
  go_enter Tryz.func4, Tryz.ntmps4
  go_wp2_with fail
  refine HAW.out.mono ?_
  rintro e w1 ⟨rfl, hb1⟩
  have HB1 := Lib.hid hb1
  clear hb1 HAW
  by_cases h40 : n ≤ 40
  case neg =>
    have g1 : decide ((n : Int) > 40) = true := by simp; omega
    have g1' : decide ((40 : Int) < (n : Int)) = true := by simp; omega
    clear ht
    go_wp2
    exact bodyPost_ret (v := .bool true) (by simp [results, Tryz.results4, go_sem]) rfl ⟨rfl, HB1.out⟩
  case pos =>
  have g1 : decide ((n : Int) > 40) = false := by simp; omega
  have g1' : decide ((40 : Int) < (n : Int)) = false := by simp; omega
  obtain ⟨bl, hbl⟩ : ∃ b, b = w1.heap.size := ⟨_, rfl⟩
  obtain ⟨W2, hW2⟩ : ∃ W2, W2 = w1.alloc (.cells #[] 40) := ⟨_, rfl⟩
  have hb2 : Below w1.heap.size w1 W2 := by rw [hW2]; exact (Below.refl _ _).alloc (Nat.le_refl _) _
  have HO2 := Lib.hid (show W2.ownsRow bl 40 2 (.slice (some ⟨bl, 0, none⟩) 0 0) 0 [] from by
    rw [hW2, hbl]
    exact World.ownsRow_made w1 #[] 0 (Nat.le_refl _) (Nat.zero_le _) rfl)
  have HE2 := Lib.hid (HE.out.mono (Nat.le_refl _) (below_more HB1.out hb2 HB1.out.size))
  have HS2 := Lib.hid (show bl ≤ W2.heap.size ∧ bl = w1.heap.size from ⟨by rw [hbl]; exact hb2.size, hbl⟩)
  have HB2 := Lib.hid hb2
  have HW2 := Lib.hid hW2
  have HBL := Lib.hid hbl
  clear hb2 hW2 hbl ht
  go_upto_region 5 with fail
  go_wp2_with (at_builtin; (try rw [← HW2.out]); (try simp only [← HBL.out]); refine wpList_own18 W2 rfl _ _ rfl bl rfl HO2.out ao n cap rfl E HN.out HE2.out (by have := HN.out; omega) HS2.out.1 ?_)
  intro a3 c3 w3 hown3 hgr3
  have hE3 : EdgesAt w3 a3 E := by
    have h2 := hown3
    rw [HN.out] at h2
    obtain ⟨q1, q2, e2, h3⟩ := owns_edges h2
    simp only [Value.slice.injEq, true_and] at e2
    rw [e2.1]
    exact h3
  have HB3 := Lib.hid (show Below w1.heap.size w1 w3 from HB2.out.grown hgr3 HB2.out.size (fun q hq => by cases hq; rw [HS2.out.2]; exact Nat.le_refl _))
  have HE3 := Lib.hid hE3
  have HPR := Lib.hid (prune_ok E a3 c3 w3 hE3 HI.out (by have := HN.out; omega))
  rw [← HN.out] at HPR
  clear hown3 hgr3 hE3 HO2 HE2 HS2
  go_wp2_with fail
  refine HPR.out.mono ?_
  rintro e w4 ⟨a4, c4, rfl, hE4, hb4⟩
  obtain ⟨m, hm'⟩ : ∃ m, m = (pruneE E).length := ⟨_, rfl⟩
  rw [← hm']
  have HM := Lib.hid hm'
  have hmn : m ≤ n := by rw [hm', HN.out]; exact (prune_sub E _).length_le
  have HB4 := Lib.hid (below_more HB3.out hb4 HB3.out.size)
  have HE4 := Lib.hid hE4
  have HE34 := Lib.hid (HE3.out.mono (Nat.le_refl _) hb4)
  have HRP := Lib.hid (rprune18 E ao cap w4 (HE.out.mono (Nat.le_refl _) (below_more HB1.out HB4.out HB1.out.size)) (by have := HN.out; omega))
  rw [← HN.out, ← hm'] at HRP
  clear hE4 hb4 hm' HPR HE3
  go_wp2_with fail
  refine HRP.out.mono ?_
  rintro e w5 ⟨a5, c5, rfl, hE5, hb5⟩
  have HB5 := Lib.hid (below_more HB4.out hb5 HB4.out.size)
  have HE45 := Lib.hid (HE4.out.mono (Nat.le_refl _) hb5)
  have HE35 := Lib.hid (HE34.out.mono (Nat.le_refl _) hb5)
  have HL := Lib.hid (show E.length ≤ 1000000 ∧ (pruneE E).length ≤ 1000000 from by have := HN.out; have := HM.out; omega)
  have HD1 := Lib.hid (edges18 (pruneE E) (pruneE E) a4 a5 c4 c5 w5 HE45.out hE5 HL.out.2 HL.out.2)
  rw [← HM.out] at HD1
  clear hE5 hb5 HRP HE4 HE34
  go_wp2_with fail
  refine HD1.out.mono ?_
  rintro e w6 ⟨r, rfl, hr, hb6⟩
  obtain rfl : r = true := by simpa using hr
  have HB6 := Lib.hid (below_more HB5.out hb6 HB5.out.size)
  have HE36 := Lib.hid (HE35.out.mono (Nat.le_refl _) hb6)
  have HE46 := Lib.hid (HE45.out.mono (Nat.le_refl _) hb6)
  have HD2 := Lib.hid (edges18 E E a3 ao c3 cap w6 HE36.out (HE.out.mono (Nat.le_refl _) (below_more HB1.out HB6.out HB1.out.size)) HL.out.1 HL.out.1)
  rw [← HN.out] at HD2
  clear hr hb6 HD1 HE35 HE45
  go_wp2_with fail
  refine HD2.out.mono ?_
  rintro e w7 ⟨r, rfl, hr, hb7⟩
  obtain rfl : r = true := by simpa using hr
  have HB7 := Lib.hid (below_more HB6.out hb7 HB6.out.size)
  have HE47 := Lib.hid (HE46.out.mono (Nat.le_refl _) hb7)
  have HP2 := Lib.hid (prune_ok (pruneE E) a4 c4 w7 HE47.out (HI.out.sub (prune_sub E _)) (by have := HL.out; have := HM.out; omega))
  rw [prune_idem, ← HM.out] at HP2
  clear hr hb7 HD2 HE36 HE46
  go_wp2_with fail
  refine HP2.out.mono ?_
  rintro e w8 ⟨a8, c8, rfl, hE8, hb8⟩
  have HB8 := Lib.hid (below_more HB7.out hb8 HB7.out.size)
  have HE48 := Lib.hid (HE47.out.mono (Nat.le_refl _) hb8)
  have HD3 := Lib.hid (edges18 (pruneE E) (pruneE E) a8 a4 c8 c4 w8 hE8 HE48.out HL.out.2 HL.out.2)
  rw [← HM.out] at HD3
  clear hE8 hb8 HP2 HE47
  go_wp2_with fail
  refine HD3.out.mono ?_
  rintro e w9 ⟨r, rfl, hr, hb9⟩
  obtain rfl : r = true := by simpa using hr
  have HB9 := Lib.hid (below_more HB8.out hb9 HB8.out.size)
  have HE49 := Lib.hid (HE48.out.mono (Nat.le_refl _) hb9)
  clear hr hb9 HD3 HE48
  have HFW := Lib.hid (show ∀ X, Below w9.heap.size w9 X → Below w.heap.size w X from fun X h => below_more HB1.out (below_more HB9.out h HB9.out.size) HB1.out.size)
  by_cases hz : n = 0
  case pos =>
    have g2 : ((n : Int) == 0) = true := by simp; omega
    have hm0 : m = 0 := by omega
    have g3 : ((m : Int) == 0) = true := by simp; omega
    clear hz hm0
    go_wp2
    exact bodyPost_ret (v := .bool true) (by simp [results, Tryz.results4, go_sem]) rfl ⟨rfl, HFW.out _ (Below.refl _ _)⟩
  case neg =>
  have g2 : ((n : Int) == 0) = false := by simp; omega
  have n0 : (n : Int) ≠ 0 := by omega
  obtain ⟨k, hk⟩ : ∃ k : Nat, turn % (n : Int) = (k : Int) := ⟨(turn % (n : Int)).toNat, by have := Int.emod_nonneg turn (b := (n : Int)) (by omega); omega⟩
  have hkn : k < n := by have := Int.emod_lt_of_pos turn (b := (n : Int)) (by omega); omega
  have hk2 : turn.tmod (n : Int) = (k : Int) := by rw [Int.tmod_eq_emod_of_nonneg HTT.out.1]; exact hk
  have hwt : IntKind.i64.wrap turn = turn := IntWalk.i64_in _ (by have := HTT.out; omega)
  have hwk : IntKind.i64.wrap (k : Int) = (k : Int) := IntWalk.i64_in _ (by omega)
  have hEn : E ≠ [] := by intro e; apply hz; rw [HN.out, e]; rfl
  obtain ⟨lb, off, rfl, hlb, -⟩ := HE.out hEn
  have HEX := Lib.hid (show ∀ X, Below w9.heap.size w9 X → EdgesAt X (some ⟨lb, off, none⟩) E from fun X h => HE.out.mono (Nat.le_refl _) (HFW.out X h))
  obtain ⟨l2, hl2⟩ : ∃ l2, l2 = n - k := ⟨_, rfl⟩
  have HLD := Lib.hid (show (ecells (E.drop k)).length = l2 * 2 from by rw [ecells_length, List.length_drop]; congr 1; have := HN.out; omega)
  have HLT := Lib.hid (show (ecells (E.take k)).length = k * 2 from by rw [ecells_length, List.length_take]; congr 1; have := HN.out; omega)
  obtain ⟨AD, hAD⟩ : ∃ AD : Addr, AD = if cap = k then ⟨lb, off, none⟩ else ⟨lb, off + k * 2, none⟩ := ⟨_, rfl⟩
  have hADe : AD = ⟨lb, off + k * 2, none⟩ := by rw [hAD, if_neg (by omega)]
  have HCD := Lib.hid (show ∀ X, Below w9.heap.size w9 X → ∀ j u, (ecells (E.drop k))[j]? = some u → X.cell? (AD.add j) = some u from fun X h j u hj => by
    rw [hADe, Addr.add_lit, Nat.add_assoc]
    exact EdgesAt.cells (HEX.out X h) _ u (edrop_cells hj (by have := HN.out; omega)))
  have HCT := Lib.hid (show ∀ X, Below w9.heap.size w9 X → ∀ j u, (ecells (E.take k))[j]? = some u → X.cell? ((⟨lb, off, none⟩ : Addr).add j) = some u from fun X h j u hj => by
    rw [Addr.add_lit]
    exact EdgesAt.cells (HEX.out X h) j u (etake_cells hj))
  have hs1 : ∀ w, (Instr.sliceAt 34 (.slice (some ⟨lb, off, none⟩) n cap) none (some (.int .i64 (k : Int))) none).run Tryz.prog w = .ok (.slice (some ⟨lb, off, none⟩) k cap) w := fun w => esliceAt_hi lb off n cap k (by omega) w
  have hs2 : ∀ w, (Instr.sliceAt 34 (.slice (some ⟨lb, off, none⟩) n cap) (some (.int .i64 (k : Int))) none none).run Tryz.prog w = .ok (.slice (some AD) l2 (cap - k)) w := fun w => by
    rw [esliceAt_lo lb off n cap k (by omega) w, ← hl2, hAD]
  have HO1 := Lib.hid (ecells_one (E.drop k))
  have HO2 := Lib.hid (ecells_one (E.take k))
  have HL2 := Lib.hid hl2
  have HM1 := Lib.hid (show l2 ≤ maxLen ∧ l2 + k ≤ maxLen by unfold maxLen; omega)
  have HM2 := Lib.hid (show l2 * 16 ≤ 140737488355328 ∧ (l2 + k) * 16 ≤ 140737488355328 by omega)
  obtain ⟨F, hF⟩ : ∃ F, F = E.drop k ++ E.take k := ⟨_, rfl⟩
  have hperm : F.Perm E := by
    rw [hF]
    have := List.perm_append_comm (l₁ := E.take k) (l₂ := E.drop k)
    rw [List.take_append_drop] at this
    exact this.symm
  have hpp := prune_perm hperm
  have HFL := Lib.hid (show F.length = n ∧ l2 + k = F.length from by
    have e := hperm.length_eq
    rw [← HN.out] at e
    omega)
  have HPF := Lib.hid (show ∀ (w' : World) (a' : Option Addr) (c' : Nat) (xs : List Value), xs = ecells (E.drop k) ++ ecells (E.take k) → w'.ownsRow w9.heap.size 40 2 (.slice a' (l2 + k) c') (l2 + k) xs → Below w9.heap.size w9 w' → Calls Tryz.prog 19 #[.slice a' (l2 + k) c'] w' fun e w'' => ∃ a c, e = .returned (.slice a m c) ∧ Hid (EdgesAt w'' a (pruneE F)) ∧ Hid (Below w9.heap.size w9 w'') from fun w' a' c' xs hx ho hb => by
    have hEF : EdgesAt w' a' F := by
      rw [HFL.out.2, show xs = ecells F from by rw [hx, hF, ecells_append]] at ho
      obtain ⟨q1, q2, e2, h3⟩ := owns_edges ho
      simp only [Value.slice.injEq, true_and] at e2
      rw [e2.1]
      exact h3
    have := prune_ok F a' c' w' hEF (fun e he => HI.out e (hperm.mem_iff.1 he)) (by have := HFL.out; omega)
    rw [← HFL.out.2] at this
    refine this.mono ?_
    rintro e w'' ⟨a, c, rfl, h1, h2⟩
    exact ⟨a, c, by rw [HM.out, hpp.length_eq], h1, below_more hb h2 hb.size⟩)
  have HPP := Lib.hid hpp
  clear hl2 hAD hADe hlb hEn hpp hperm hF hz hk
  go_upto_region 12 with fail
  refine wp_region_held_drew (S := (fun _ => True)) (by kernel_rfl) ?_ (fun hHeld0 => ?_)
  · ((try dsimp only); all_goals exact trivial)
  refine wpAnyH_take (i := 1) (v := ?_) rfl (by kernel_rfl) (by kernel_rfl) (by kernel_rfl) (fun _ _ _ h => h) (Or.inl ⟨by rfl, ?_⟩) (by assumption) ?_
  rotate_left
  · (intro w hSw; (try dsimp only at hSw); go_simp; try with_reducible rfl)
  try simp only [List.getElem_toArray, List.getElem_cons_succ, List.getElem_cons_zero, Act.put, List.setIfInBounds_toArray, List.set_cons_zero, List.set_cons_succ]
  refine wpAnyH_take (i := 2) (v := ?_) rfl (by kernel_rfl) (by kernel_rfl) (by kernel_rfl) (fun _ _ _ h => h) (Or.inl ⟨by rfl, ?_⟩) (by assumption) ?_
  rotate_left
  · (intro w hSw; (try dsimp only at hSw); go_simp; try with_reducible rfl)
  try simp only [List.getElem_toArray, List.getElem_cons_succ, List.getElem_cons_zero, Act.put, List.setIfInBounds_toArray, List.set_cons_zero, List.set_cons_succ]
  refine wpAnyH_take (i := 3) (v := (.slice (some AD) l2 (cap - k))) rfl (by kernel_rfl) (by kernel_rfl) (by kernel_rfl) (fun _ _ _ h => h) (Or.inl ⟨by rfl, ?_⟩) (by assumption) ?_
  · (intro w hSw; (try dsimp only at hSw); go_simp; try with_reducible rfl)
  try simp only [List.getElem_toArray, List.getElem_cons_succ, List.getElem_cons_zero, Act.put, List.setIfInBounds_toArray, List.set_cons_zero, List.set_cons_succ]
  refine wpAnyH_take (i := 5) (v := ?_) rfl (by kernel_rfl) (by kernel_rfl) (by kernel_rfl) (fun _ _ _ h => h) (Or.inl ⟨by rfl, ?_⟩) (by assumption) ?_
  rotate_left
  · (intro w hSw; (try dsimp only at hSw); go_simp; try with_reducible rfl)
  try simp only [List.getElem_toArray, List.getElem_cons_succ, List.getElem_cons_zero, Act.put, List.setIfInBounds_toArray, List.set_cons_zero, List.set_cons_succ]
  refine wpAnyH_take (i := 6) (v := ?_) rfl (by kernel_rfl) (by kernel_rfl) (by kernel_rfl) (fun _ _ _ h => h) (Or.inl ⟨by rfl, ?_⟩) (by assumption) ?_
  rotate_left
  · (intro w hSw; (try dsimp only at hSw); go_simp; try with_reducible rfl)
  try simp only [List.getElem_toArray, List.getElem_cons_succ, List.getElem_cons_zero, Act.put, List.setIfInBounds_toArray, List.set_cons_zero, List.set_cons_succ]
  refine wpAnyH_take (i := 7) (v := (.slice (some ⟨lb, off, none⟩) k cap)) rfl (by kernel_rfl) (by kernel_rfl) (by kernel_rfl) (fun _ _ _ h => h) (Or.inl ⟨by rfl, ?_⟩) (by assumption) ?_
  · (intro w hSw; (try dsimp only at hSw); go_simp; try with_reducible rfl)
  try simp only [List.getElem_toArray, List.getElem_cons_succ, List.getElem_cons_zero, Act.put, List.setIfInBounds_toArray, List.set_cons_zero, List.set_cons_succ]
  refine wpAnyH_ready (rs := [0]) (by kernel_rfl) (by simp) ?_
  refine AllReadyH.cons rfl (fun K hK => ?_) AllReadyH.nil
  go_simp
  refine hK.out _ _ ?_ (fun hHeld1 => ?_)
  · ((try dsimp only); all_goals exact trivial)
  clear hK K hHeld0
  refine wpAnyH_ready (rs := [4]) (by kernel_rfl) (by simp) ?_
  refine AllReadyH.cons rfl (fun K hK => ?_) AllReadyH.nil
  refine step_append_first (by rfl) _ _ _ (by rfl) w9.heap.size 40 i0 (.agg #[.int .i64 0, .int .i64 0]) 2 16 (by kernel_rfl) hi0 hz0 hz1 hz2 rfl (by decide) (.slice (some ⟨w9.heap.size, 0, none⟩) 0 0) (by rfl) (by first | exact (World.ownsRow_made w9 #[] 0 (Nat.le_refl _) (Nat.zero_le _) rfl) | exact (World.ownsRow_made w9 #[] 0 (Nat.le_refl _) (Nat.zero_le _) rfl).drew) AD l2 _ (ecells (E.drop k)) (by rfl) HLD.out (HCD.out _ (by repeat (first | assumption | with_reducible exact Below.refl _ _ | with_reducible apply below_drew | with_reducible apply below_alloc))) HO1.out HM1.out.1 HM2.out.1 (by first | exact Nat.le_refl _ | (simp; done) | (simp; omega)) ?_
  intro a10 c10 Y1 hown10 hbel10 hgr10
  have hb10 := hbel10 w9.heap.size w9 (Nat.le_refl _) (by repeat (first | assumption | with_reducible exact Below.refl _ _ | with_reducible apply below_drew | with_reducible apply below_alloc))
  refine hK.out _ _ ?_ (fun hHeld2 => ?_)
  · ((try dsimp only); all_goals exact trivial)
  clear hK K hHeld1
  refine wpAnyH_ready (rs := [8]) (by kernel_rfl) (by simp) ?_
  refine AllReadyH.cons rfl (fun K hK => ?_) AllReadyH.nil
  refine step_append_any (by rfl) _ _ _ (by rfl) w9.heap.size 40 i0 (.agg #[.int .i64 0, .int .i64 0]) 2 16 (by kernel_rfl) hi0 hz0 hz1 hz2 rfl (by decide) _ _ _ (by rfl) hown10 ⟨lb, off, none⟩ k _ (ecells (E.take k)) (by rfl) HLT.out (HCT.out _ hb10) HO2.out HM1.out.2 HM2.out.2 hb10.size ?_
  intro a11 c11 Y2 hown11 hbel11 hgr11
  have hb11 := hbel11 w9.heap.size w9 (Nat.le_refl _) hb10
  refine hK.out _ _ ?_ (fun hHeld3 => ?_)
  · ((try dsimp only); all_goals exact trivial)
  clear hK K hHeld2
  refine wpAnyH_ready (rs := [9]) (by kernel_rfl) (by simp) ?_
  refine AllReadyH.cons rfl (fun K hK => ?_) AllReadyH.nil
  go_simp
  go_wp2_with ((go_at_call 19; (with_reducible refine (HPF.out _ _ _ _ rfl hown11 hb11).mono ?_); rintro e w12 ⟨a12, c12, rfl, hE12, hb12⟩))
  refine hK.out _ _ ?_ (fun hHeld4 => ?_)
  · ((try dsimp only); all_goals exact trivial)
  clear hK K hHeld3
  refine wpAnyH_ready (rs := [10]) (by kernel_rfl) (by simp) ?_
  refine AllReadyH.cons rfl (fun K hK => ?_) AllReadyH.nil
  go_simp
  refine hK.out _ _ ?_ (fun hHeld5 => ?_)
  · ((try dsimp only); all_goals exact trivial)
  clear hK K hHeld4
  refine wpAnyH_done (by kernel_rfl) ?_ _
  clear hHeld5
  have HE12 := Lib.hid hE12.out
  have HB12 := Lib.hid hb12.out
  clear hown10 hbel10 hgr10 hown11 hbel11 hgr11 hb10 hb11 hE12 hb12
  have HG12 := Lib.hid (show ∀ X, Below w12.heap.size w12 X → EdgesAt X a4 (pruneE E) ∧ EdgesAt X a12 (pruneE F) ∧ Below w.heap.size w X from fun X h => ⟨HE49.out.mono (Nat.le_refl _) (below_more HB12.out h HB12.out.size), HE12.out.mono (Nat.le_refl _) h, HFW.out X (below_more HB12.out h HB12.out.size)⟩)
  clear HE12 HB12 HE49 HFW HPF HCT HCD HEX
  go_wp2
  go_loopw [69] (fun v ws => ∃ i : Nat, i ≤ m ∧ v = .int .i64 i ∧ Below w12.heap.size w12 ws) (fun v _ => m - (intOf v).toNat)
  case atStart => exact ⟨0, by omega, rfl, Below.refl _ _⟩
  case round =>
  obtain ⟨i, hi, rfl, hb⟩ := hrel
  obtain ⟨X, rfl⟩ : ∃ X : World, X = wr := ⟨_, rfl⟩
  have HBX := Lib.hid hb
  by_cases hlt : i < m
  case neg =>
    obtain rfl : m = i := by omega
    have HF := Lib.hid (HG12.out X hb).2.2
    clear hb
    go_wp2
    exact bodyPost_ret (v := .bool true) (by simp [results, Tryz.results4, go_sem]) rfl ⟨rfl, HF.out⟩
  case pos =>
  have hil : i < (pruneE F).length := by rw [HPP.out.length_eq, ← HM.out]; exact hlt
  obtain ⟨eb, eoff, rfl, -, hec⟩ := (HG12.out X hb).2.1 (by intro e; rw [e] at hil; simp at hil)
  obtain ⟨k1, k2⟩ := hec i hil
  have hmem := E!_mem hil
  rw [HPP.out.mem_iff] at hmem
  obtain ⟨⟨x, y⟩, hxy⟩ : ∃ e, e = E! (pruneE F) i := ⟨_, rfl⟩
  rw [← hxy] at k1 k2 hmem
  obtain ⟨d1, d2⟩ := prune_deg hmem
  obtain ⟨xb, hxb⟩ : ∃ b, b = X.heap.size := ⟨_, rfl⟩
  obtain ⟨X1, hX1⟩ : ∃ X1, X1 = X.alloc (.cells #[.int .i64 x, .int .i64 y] 40) := ⟨_, rfl⟩
  have hbX1 : Below X.heap.size X X1 := by rw [hX1]; exact (Below.refl _ _).alloc (Nat.le_refl _) _
  have hr1 : RowIs X1 xb 40 [.int .i64 x, .int .i64 y] := by rw [hX1, hxb]; exact RowIs.made X 40 [.int .i64 x, .int .i64 y]
  have e0 := hr1.cell (i := 0) rfl
  have e1 := hr1.cell (i := 1) rfl
  have hbw1 := below_more hb hbX1 hb.size
  have HH := Lib.hid (has18 (pruneE E) a4 c4 x y X1 (HG12.out X1 hbw1).1 (by have := HL.out; have := HM.out; omega))
  have HDG := Lib.hid (show ∀ (v : Int) (Z : World), Below w12.heap.size w12 Z → Calls Tryz.prog 22 #[.slice a4 m c4, .int .i64 v] Z fun e w' => e = .returned (.int .i64 (degE (pruneE E) v : Nat)) ∧ Z = w' from fun v Z h => by
    rw [HM.out]
    exact degree18 (pruneE E) a4 c4 v Z (HG12.out Z h).1 (by have := HL.out; have := HM.out; omega))
  rw [← HM.out] at HH
  have HMEM := Lib.hid hmem
  have HX1 := Lib.hid hX1
  have HXB := Lib.hid hxb
  have HR1 := Lib.hid hr1
  have HBW := Lib.hid hbw1
  have bi : (0 : Int) ≤ (i : Int) ∧ (i : Int) < (m : Int) := by omega
  obtain ⟨dx, hdx⟩ : ∃ d, d = degE (pruneE E) x := ⟨_, rfl⟩
  obtain ⟨dy, hdy⟩ : ∃ d, d = degE (pruneE E) y := ⟨_, rfl⟩
  simp only at d1 d2
  rw [← hdx] at d1
  rw [← hdy] at d2
  have gx : decide ((dx : Int) < 2) = false := by simp; omega
  have gy : decide ((dy : Int) < 2) = false := by simp; omega
  have HDX := Lib.hid hdx
  have HDY := Lib.hid hdy
  clear hil hec hmem hxy d1 d2 hbX1 hr1 hbw1 hX1 hxb hb hdx hdy
  go_upto_region 18 with fail
  rw [← HX1.out]
  simp only [← HXB.out]
  clear k1 k2
  go_wp2_with fail
  refine HH.out.mono ?_
  rintro e X2 ⟨r, rfl, hr, hb2⟩
  obtain rfl : r = true := hr.2 HMEM.out
  have hr2 := HR1.out.after hb2
  have f0 := hr2.cell (i := 0) rfl
  have f1 := hr2.cell (i := 1) rfl
  have HB2' := Lib.hid (below_more HBW.out hb2 HBW.out.size)
  clear hr hb2 hr2 e0 e1 HH
  go_wp2_with fail
  refine (HDG.out x X2 HB2'.out).mono ?_
  rintro e X3 ⟨rfl, rfl⟩
  rw [← HDX.out]
  go_wp2_with fail
  refine (HDG.out y X2 HB2'.out).mono ?_
  rintro e X3 ⟨rfl, hX3⟩
  subst hX3
  rw [← HDY.out]
  clear f0 f1
  go_wp2
  go_roundw
  case rel => exact ⟨i + 1, by omega, by go_num, HB2'.out⟩
  case measure => simp [intOf]; omega
end Go.Proofs.YtkjamheoihlekaaGreat

/- gypsumref18.Less, Insert: contracts. -/
import Derived.Test.YtkjamheoihlekaaGreatRefTree1
import Derived.Test.YtkjamheoihlekaaGreatInsLaw
import Derived.Test.YtkjamheoihlekaaGreatSurfDef
import Derived.Test.YtkjamheoihlekaaGreatRefDual18
import Derived.Test.YtkjamheoihlekaaGreatTreeDel
namespace Go.Proofs.YtkjamheoihlekaaGreat
set_option linter.unusedVariables false
set_option linter.unusedSimpArgs false
open Go.RowKit
set_option maxRecDepth 100000 in
set_option maxHeartbeats 2000000 in
theorem less18 (a0 a1 b0 b1 : Int) (w : World) :
    Calls Tryz.prog 89 #[.agg #[.int .i64 a0, .int .i64 a1], .agg #[.int .i64 b0, .int .i64 b1]] w fun e w' => ∃ r : Bool, e = .returned (.bool r) ∧ (r = true ↔ ltE (a0, a1) (b0, b1)) ∧ Below w.heap.size w w' := by
  have hb : Below w.heap.size w ((w.alloc (.cells #[.int .i64 a0, .int .i64 a1] 40)).alloc (.cells #[.int .i64 b0, .int .i64 b1] 40)) := ((Below.refl _ _).alloc (Nat.le_refl _) _).alloc (by simp) _
  by_cases h1 : a0 < b0
  · have g1 : decide (a0 < b0) = true := by simpa using h1
    have HF := Lib.hid (show ltE (a0, a1) (b0, b1) from .inl h1)
    clear h1
    go_enter Tryz.func89, Tryz.ntmps89
    go_wp2
    exact bodyPost_ret (v := .bool true) (by simp [results, Tryz.results89, go_sem]) rfl ⟨true, rfl, ⟨fun _ => HF.out, fun _ => rfl⟩, hb⟩
  · have g1 : decide (a0 < b0) = false := by simpa using h1
    by_cases h2 : a0 = b0
    · have g2 : (a0 == b0) = true := by simpa using h2
      obtain ⟨r, hr⟩ : ∃ r, decide (a1 < b1) = r := ⟨_, rfl⟩
      have HF := Lib.hid (show r = true ↔ ltE (a0, a1) (b0, b1) from by
        rw [← hr]; unfold ltE; simp only [decide_eq_true_eq]; omega)
      clear h1 h2
      go_enter Tryz.func89, Tryz.ntmps89
      go_wp2
      exact bodyPost_ret (v := .bool r) (by simp [results, Tryz.results89, go_sem]) rfl ⟨r, rfl, HF.out, hb⟩
    · have g2 : (a0 == b0) = false := by simpa using h2
      have HF := Lib.hid (show ¬ ltE (a0, a1) (b0, b1) from by unfold ltE; simp only; omega)
      clear h1 h2
      go_enter Tryz.func89, Tryz.ntmps89
      go_wp2
      exact bodyPost_ret (v := .bool false) (by simp [results, Tryz.results89, go_sem]) rfl ⟨false, rfl, ⟨fun h => (by cases h), fun h => absurd h HF.out⟩, hb⟩
theorem ecells_append (A B : List (Int × Int)) : ecells (A ++ B) = ecells A ++ ecells B := by simp [ecells]
theorem etake_cells {E : List (Int × Int)} {a j : Nat} {u : Value} (h : (ecells (E.take a))[j]? = some u) : (ecells E)[j]? = some u := by
  have e : ecells E = ecells (E.take a) ++ ecells (E.drop a) := by rw [← ecells_append, List.take_append_drop]
  rw [e, List.getElem?_append_left (List.getElem?_eq_some_iff.1 h).1]
  exact h
theorem edrop_cells {E : List (Int × Int)} {a j : Nat} {u : Value} (h : (ecells (E.drop a))[j]? = some u) (ha : a ≤ E.length) : (ecells E)[a * 2 + j]? = some u := by
  have e : ecells E = ecells (E.take a) ++ ecells (E.drop a) := by rw [← ecells_append, List.take_append_drop]
  have hl : (ecells (E.take a)).length = a * 2 := by rw [ecells_length, List.length_take]; congr 1; omega
  rw [e, List.getElem?_append_right (by omega), hl]
  rw [show a * 2 + j - a * 2 = j by omega]
  exact h
theorem esliceAt_hi (b off len cap h : Nat) (hh : h ≤ cap) (w : World) : (Instr.sliceAt 34 (.slice (some ⟨b, off, none⟩) len cap) none (some (.int .i64 (h : Int))) none).run Tryz.prog w = .ok (.slice (some ⟨b, off, none⟩) h cap) w := by
  have hu : Tryz.prog.underlying 34 = some (.slice 40) := by kernel_rfl
  obtain ⟨i0, hi, -, hz1, -⟩ := info_parts infoEdge
  unfold Instr.sliceAt
  simp only [Sem.run_bind, run_underlying hu, Result.andThen_ok]
  unfold Instr.slice Instr.sliceBounds Instr.sliceBound
  simp only [Sem.run_bind, run_underlying hu, Result.andThen_ok, run_sizeOf w hi, Sem.run_pure]
  simp [go_sem, hh, hz1]
theorem esliceAt_lo (b off len cap l : Nat) (hl : l ≤ len) (w : World) : (Instr.sliceAt 34 (.slice (some ⟨b, off, none⟩) len cap) (some (.int .i64 (l : Int))) none none).run Tryz.prog w = .ok (.slice (some (if cap = l then ⟨b, off, none⟩ else ⟨b, off + l * 2, none⟩)) (len - l) (cap - l)) w := by
  have hu : Tryz.prog.underlying 34 = some (.slice 40) := by kernel_rfl
  obtain ⟨i0, hi, -, hz1, -⟩ := info_parts infoEdge
  unfold Instr.sliceAt
  simp only [Sem.run_bind, run_underlying hu, Result.andThen_ok]
  unfold Instr.slice Instr.sliceBounds Instr.sliceBound
  simp only [Sem.run_bind, run_underlying hu, Result.andThen_ok, run_sizeOf w hi, Sem.run_pure]
  by_cases e : cap = l <;> simp [go_sem, hl, hz1, e]
theorem news18 {w : World} {g : Nat} {e : TypeId} {xs : List Value} (h : RowIs w g e xs) : ∀ j u, xs[j]? = some u → w.cell? ((⟨g, 0, none⟩ : Addr).add j) = some u := fun j u hj => by
  have := h.cell hj
  simpa [Addr.add_lit] using this
/-- Edges and room behind them. -/
def RestAt (w : World) (v : Value) (R : List (Int × Int)) : Prop := ∃ b off cap, v = .slice (some ⟨b, off, none⟩) R.length cap ∧ R.length ≤ cap ∧ b < w.heap.size ∧ EdgesAt w (some ⟨b, off, none⟩) R
theorem RestAt.more {w w' : World} {v : Value} {R : List (Int × Int)} (h : RestAt w v R) (hb : Below w.heap.size w w') : RestAt w' v R := by
  obtain ⟨b, off, cap, h1, h2, h3, h4⟩ := h
  exact ⟨b, off, cap, h1, h2, by have := hb.size; omega, h4.mono (Nat.le_refl _) hb⟩
theorem owns_restAt {w : World} {base e n : Nat} {v : Value} {R : List (Int × Int)} (h : w.ownsRow base e 2 v n (ecells R)) (hn : n = R.length) (h0 : 0 < n) : RestAt w v R := by
  subst hn
  obtain ⟨g, cap, rfl, -, hg, hc, -⟩ := owns_block h h0
  obtain ⟨ao, cap', e, hE⟩ := owns_edges h
  cases e
  exact ⟨g, 0, cap, rfl, hc, hg, hE⟩
theorem insG_new {α : Type} {lt : α → α → Prop} {E : List α} {x : α} {k n l2 : Nat} (hn : n = E.length) (hk : k ≤ n) (hl : l2 = n - k) (h1 : ∀ i y, i < k → E[i]? = some y → lt y x) (h2 : ∀ y, E[k]? = some y → ¬ lt y x ∧ y ≠ x) : InsG lt E x (E.take k ++ x :: E.drop k) ∧ k + 1 + l2 = (E.take k ++ x :: E.drop k).length := by
  refine ⟨⟨k, by omega, h1, fun y hy => (h2 y hy).1, .inr ⟨fun e => (h2 x e).2 rfl, rfl⟩⟩, ?_⟩
  simp only [List.length_append, List.length_take, List.length_cons, List.length_drop]
  omega
/-- What gypsumref18.Insert comes to. -/
def InsertP (E : List (Int × Int)) (x : Int × Int) (w : World) (e : Ending) (w' : World) : Prop :=
  ∃ v R, e = .returned v ∧ RestAt w' v R ∧ InsG ltE E x R ∧ Below w.heap.size w w'
theorem insertP_new {E : List (Int × Int)} {x y : Int} {w W' : World} {base k n l2 : Nat} {v : Value} {xs : List Value} (ho : W'.ownsRow base 40 2 v (k + 1 + l2) xs) (hx : xs = ecells (E.take k) ++ [.int .i64 x, .int .i64 y] ++ ecells (E.drop k)) (hn : n = E.length) (hk : k ≤ n) (hl : l2 = n - k) (h1 : ∀ i e, i < k → E[i]? = some e → ltE e (x, y)) (h2 : ∀ e, E[k]? = some e → ¬ ltE e (x, y) ∧ e ≠ (x, y)) (hb : Below w.heap.size w W') : InsertP E (x, y) w (.returned v) W' := by
  obtain ⟨hi, hlen⟩ := insG_new hn hk hl h1 h2
  refine ⟨v, _, rfl, owns_restAt (by
    rw [show ecells (E.take k ++ (x, y) :: E.drop k) = xs from by rw [hx]; simp [ecells]]
    exact ho) hlen (by omega), hi, hb⟩
theorem E!_get? {E : List (Int × Int)} {i : Nat} {e : Int × Int} (h : E[i]? = some e) : E! E i = e := by simp [E!, List.getD_eq_getElem?_getD, h]
set_option maxRecDepth 100000 in
set_option maxHeartbeats 4000000 in
theorem insert18 (E : List (Int × Int)) (lb off cap : Nat) (x y : Int) (w : World) (hE : EdgesAt w (some ⟨lb, off, none⟩) E) (hc : E.length ≤ cap) (hl : E.length ≤ 100000) (hlb : lb < w.heap.size) :
    Calls Tryz.prog 49 #[.slice (some ⟨lb, off, none⟩) E.length cap, .agg #[.int .i64 x, .int .i64 y]] w (InsertP E (x, y) w) := by
  obtain ⟨i0, hi0, hz0, hz1, hz2⟩ := info_parts infoEdge
  obtain ⟨n, hn⟩ : ∃ n, n = E.length := ⟨_, rfl⟩
  obtain ⟨xb, hxb⟩ : ∃ b, b = w.heap.size := ⟨_, rfl⟩
  obtain ⟨W0, hW0⟩ : ∃ W0, W0 = w.alloc (.cells #[.int .i64 x, .int .i64 y] 40) := ⟨_, rfl⟩
  have hb0 : Below xb w W0 := by rw [hW0, hxb]; exact (Below.refl _ _).alloc (Nat.le_refl _) _
  have hr0 : RowIs W0 xb 40 [.int .i64 x, .int .i64 y] := by rw [hW0, hxb]; exact RowIs.made w 40 [.int .i64 x, .int .i64 y]
  have HE := Lib.hid (hE.mono (B := xb) (by rw [hxb]; exact Nat.le_refl _) hb0)
  have HN := Lib.hid hn
  have HXB := Lib.hid hxb
  have HW0 := Lib.hid hW0
  have HR0 := Lib.hid hr0
  have HB0 := Lib.hid hb0
  have HLB := Lib.hid (show ∀ X, Below W0.heap.size W0 X → lb < X.heap.size from fun X h => by
    have := h.size
    rw [hW0] at this
    simp at this
    omega)
  rw [← hn] at hl hc ⊢
  clear hE hn hxb hW0 hr0 hb0 hlb
  go_enter Tryz.func49, Tryz.ntmps49
  go_upto_region 1 with fail
  simp only [← HXB.out]
  rw [← HW0.out]
  go_wp2
  go_loopw [5] (fun i ws => ∃ k : Nat, k ≤ n ∧ i = .int .i64 k ∧ Hid (∀ i e, i < k → E[i]? = some e → ltE e (x, y)) ∧ Below W0.heap.size W0 ws) (fun i _ => n - (intOf i).toNat)
  case atStart => exact ⟨0, by omega, rfl, Lib.hid fun j e hj => by omega, Below.refl _ _⟩
  case round =>
  obtain ⟨k, hk, rfl, HLT, hb⟩ := hrel
  obtain ⟨X, rfl⟩ : ∃ X : World, X = wr := ⟨_, rfl⟩
  have hr := HR0.out.after hb
  have d1 := hr.cell (i := 0) rfl
  have d2 := hr.cell (i := 1) rfl
  have HBX := Lib.hid hb
  have HBF := Lib.hid (show ∀ Y, Below W0.heap.size W0 Y → Below w.heap.size w Y from fun Y h => by
    rw [← HXB.out]
    exact HB0.out.trans (h.mono (by have := HR0.out.lt; omega)))
  by_cases hlt : k < n
  case neg =>
    obtain rfl : n = k := by omega
    have HGE := Lib.hid (show ∀ e, E[n]? = some e → ¬ ltE e (x, y) ∧ e ≠ (x, y) from fun e h => by
      have := (List.getElem?_eq_some_iff.1 h).1
      have := HN.out
      omega)
    have HQN := Lib.hid (show ∀ q, Below W0.heap.size W0 (X.drewN q) from fun q => below_drewN hb q)
    clear hr d1 d2 hb
    go_wp2
    go_quiet (fail)
    rename_i nq
    have hVb := HQN.out nq
    obtain ⟨V0, hV0⟩ : ∃ V, V = X.drewN nq := ⟨_, rfl⟩
    rw [← hV0] at hVb ⊢
    have HVB0 := Lib.hid hVb
    have HQV := Lib.hid (show ∀ q, Below W0.heap.size W0 (V0.drewN q) from fun q => below_drewN hVb q)
    clear hVb hV0
    go_wp2
    go_quiet (fail)
    have hVb := HQV.out nq
    obtain ⟨V, hV⟩ : ∃ V, V = V0.drewN nq := ⟨_, rfl⟩
    rw [← hV] at hVb ⊢
    have HVB := Lib.hid hVb
    have HC1 := Lib.hid (show ∀ X, Below V.heap.size V X → ∀ j u, (ecells (E.take n))[j]? = some u → X.cell? ((⟨lb, off, none⟩ : Addr).add j) = some u from fun X h j u hj => by
      rw [Addr.add_lit]
      exact EdgesAt.cells (HE.out.mono (Nat.le_refl _) (below_more HVB.out h HVB.out.size)) j u (etake_cells hj))
    have HL1 := Lib.hid (show (ecells (E.take n)).length = n * 2 from by rw [ecells_length, List.length_take]; congr 1; have := HN.out; omega)
    obtain ⟨l2, hl2⟩ : ∃ l2, l2 = n - n := ⟨_, rfl⟩
    have HL2 := Lib.hid hl2
    have HL3 := Lib.hid (show (ecells (E.drop n)).length = l2 * 2 from by rw [ecells_length, List.length_drop]; congr 1; have := HN.out; omega)
    obtain ⟨AD, hAD⟩ : ∃ AD : Addr, AD = if cap = n then ⟨lb, off, none⟩ else ⟨lb, off + n * 2, none⟩ := ⟨_, rfl⟩
    have HCA := Lib.hid (show ∀ X, Below V.heap.size V X → ∀ j u, (ecells (E.drop n))[j]? = some u → X.cell? (AD.add j) = some u from fun X h j u hj => by
      rw [hAD]
      by_cases e : cap = n
      · have h1 := (List.getElem?_eq_some_iff.1 hj).1
        rw [HL3.out] at h1
        omega
      · rw [if_neg e, Addr.add_lit, Nat.add_assoc]
        exact EdgesAt.cells (HE.out.mono (Nat.le_refl _) (below_more HVB.out h HVB.out.size)) _ u (edrop_cells hj (by have := HN.out; omega)))
    have hs1 : ∀ w, (Instr.sliceAt 34 (.slice (some ⟨lb, off, none⟩) n cap) none (some (.int .i64 (n : Int))) none).run Tryz.prog w = .ok (.slice (some ⟨lb, off, none⟩) n cap) w := fun w => esliceAt_hi lb off n cap n (by omega) w
    have hs2 : ∀ w, (Instr.sliceAt 34 (.slice (some ⟨lb, off, none⟩) n cap) (some (.int .i64 (n : Int))) none none).run Tryz.prog w = .ok (.slice (some AD) l2 (cap - n)) w := fun w => by
      rw [esliceAt_lo lb off n cap n (by omega) w, ← hl2, hAD]
    have HO1 := Lib.hid (ecells_one (E.take n))
    have HO2 := Lib.hid (show ∀ u ∈ [Value.int .i64 x, Value.int .i64 y], u.oneCell' = true from by intro u hu; simp at hu; rcases hu with rfl | rfl <;> rfl)
    have HO3 := Lib.hid (ecells_one (E.drop n))
    have HM1 := Lib.hid (show n ≤ maxLen by unfold maxLen; omega)
    have HM2 := Lib.hid (show n * 16 ≤ 140737488355328 by omega)
    have HM3 := Lib.hid (show n + 1 ≤ maxLen by unfold maxLen; omega)
    have HM4 := Lib.hid (show (n + 1) * 16 ≤ 140737488355328 by omega)
    have HM5 := Lib.hid (show n + 1 + l2 ≤ maxLen by unfold maxLen; omega)
    have HM6 := Lib.hid (show (n + 1 + l2) * 16 ≤ 140737488355328 by omega)
    have HKB := Lib.hid (show ∀ w', Below V.heap.size V w' → w'.cell? ⟨xb, 0, none⟩ = some (.int .i64 x) ∧ w'.cell? ⟨xb, 1, none⟩ = some (.int .i64 y) from fun w' h => ⟨(HR0.out.after (below_more HVB.out h HVB.out.size)).cell (i := 0) rfl, (HR0.out.after (below_more HVB.out h HVB.out.size)).cell (i := 1) rfl⟩)
    have HFN := Lib.hid (show ∀ (W' : World) (v : Value) (xs : List Value), W'.ownsRow V.heap.size 40 2 v (n + 1 + l2) xs → xs = ecells (E.take n) ++ [.int .i64 x, .int .i64 y] ++ ecells (E.drop n) → Below V.heap.size V W' → InsertP E (x, y) w (.returned v) W' from fun W' v xs ho hx hb' => insertP_new ho hx HN.out (by omega) HL2.out HLT.out HGE.out (HBF.out _ (below_more HVB.out hb' HVB.out.size)))
    clear hV hVb hl2 hAD
    go_upto_region 6 with fail
    refine wp_region_held_drew (S := (fun w' => w'.cell? ⟨xb, 0, none⟩ = some (.int .i64 x) ∧ w'.cell? ⟨xb, 1, none⟩ = some (.int .i64 y))) (by kernel_rfl) ?_ (fun hHeld0 => ?_)
    · ((try dsimp only); exact HKB.out _ (by repeat (first | assumption | with_reducible exact Below.refl _ _ | with_reducible apply below_drew | with_reducible apply below_alloc)))
    refine wpAnyH_take (i := 1) (v := ?_) rfl (by kernel_rfl) (by kernel_rfl) (by kernel_rfl) (fun _ _ _ h => h) (Or.inl ⟨by rfl, ?_⟩) (by assumption) ?_
    rotate_left
    · (intro w hSw; (try dsimp only at hSw); go_simp; try with_reducible rfl)
    try simp only [List.getElem_toArray, List.getElem_cons_succ, List.getElem_cons_zero, Act.put, List.setIfInBounds_toArray, List.set_cons_zero, List.set_cons_succ]
    refine wpAnyH_take (i := 2) (v := ?_) rfl (by kernel_rfl) (by kernel_rfl) (by kernel_rfl) (fun _ _ _ h => h) (Or.inl ⟨by rfl, ?_⟩) (by assumption) ?_
    rotate_left
    · (intro w hSw; (try dsimp only at hSw); go_simp; try with_reducible rfl)
    try simp only [List.getElem_toArray, List.getElem_cons_succ, List.getElem_cons_zero, Act.put, List.setIfInBounds_toArray, List.set_cons_zero, List.set_cons_succ]
    refine wpAnyH_take (i := 3) (v := (.slice (some ⟨lb, off, none⟩) n cap)) rfl (by kernel_rfl) (by kernel_rfl) (by kernel_rfl) (fun _ _ _ h => h) (Or.inl ⟨by rfl, ?_⟩) (by assumption) ?_
    · (intro w hSw; (try dsimp only at hSw); go_simp; try with_reducible rfl)
    try simp only [List.getElem_toArray, List.getElem_cons_succ, List.getElem_cons_zero, Act.put, List.setIfInBounds_toArray, List.set_cons_zero, List.set_cons_succ]
    refine wpAnyH_take (i := 5) (v := ?_) rfl (by kernel_rfl) (by kernel_rfl) (by kernel_rfl) (fun _ _ _ h => h) (Or.inl ⟨by rfl, ?_⟩) (by assumption) ?_
    rotate_left
    · (intro w hSw; (try dsimp only at hSw); go_simp; try with_reducible rfl)
    try simp only [List.getElem_toArray, List.getElem_cons_succ, List.getElem_cons_zero, Act.put, List.setIfInBounds_toArray, List.set_cons_zero, List.set_cons_succ]
    refine wpAnyH_take (i := 8) (v := ?_) rfl (by kernel_rfl) (by kernel_rfl) (by kernel_rfl) (fun _ _ _ h => h) (Or.inl ⟨by rfl, ?_⟩) (by assumption) ?_
    rotate_left
    · (intro w hSw; (try dsimp only at hSw); go_simp; try with_reducible rfl)
    try simp only [List.getElem_toArray, List.getElem_cons_succ, List.getElem_cons_zero, Act.put, List.setIfInBounds_toArray, List.set_cons_zero, List.set_cons_succ]
    refine wpAnyH_take (i := 9) (v := ?_) rfl (by kernel_rfl) (by kernel_rfl) (by kernel_rfl) (fun _ _ _ h => h) (Or.inl ⟨by rfl, ?_⟩) (by assumption) ?_
    rotate_left
    · (intro w hSw; (try dsimp only at hSw); go_simp; try with_reducible rfl)
    try simp only [List.getElem_toArray, List.getElem_cons_succ, List.getElem_cons_zero, Act.put, List.setIfInBounds_toArray, List.set_cons_zero, List.set_cons_succ]
    refine wpAnyH_take (i := 10) (v := (.slice (some AD) l2 (cap - n))) rfl (by kernel_rfl) (by kernel_rfl) (by kernel_rfl) (fun _ _ _ h => h) (Or.inl ⟨by rfl, ?_⟩) (by assumption) ?_
    · (intro w hSw; (try dsimp only at hSw); go_simp; try with_reducible rfl)
    try simp only [List.getElem_toArray, List.getElem_cons_succ, List.getElem_cons_zero, Act.put, List.setIfInBounds_toArray, List.set_cons_zero, List.set_cons_succ]
    refine wpAnyH_ready (rs := [0, 6]) (by kernel_rfl) (by simp) ?_
    refine AllReadyH.cons rfl (fun K hK => ?_) (AllReadyH.cons rfl (fun K hK => ?_) AllReadyH.nil)
    · skip
      go_simp
      refine hK.out _ _ ?_ (fun hHeld1 => ?_)
      · ((try dsimp only); exact HKB.out _ (by repeat (first | assumption | with_reducible exact Below.refl _ _ | with_reducible apply below_drew | with_reducible apply below_alloc)))
      clear hK K hHeld0
      refine wpAnyH_ready (rs := [4, 6]) (by kernel_rfl) (by simp) ?_
      refine AllReadyH.cons rfl (fun K hK => ?_) (AllReadyH.cons rfl (fun K hK => ?_) AllReadyH.nil)
      · skip
        refine step_append_first (by rfl) _ _ _ (by rfl) V.heap.size 40 i0 (.agg #[.int .i64 0, .int .i64 0]) 2 16 (by kernel_rfl) hi0 hz0 hz1 hz2 rfl (by decide) (.slice (some ⟨V.heap.size, 0, none⟩) 0 0) (by rfl) (by first | exact (World.ownsRow_made V #[] 0 (Nat.le_refl _) (Nat.zero_le _) rfl) | exact (World.ownsRow_made V #[] 0 (Nat.le_refl _) (Nat.zero_le _) rfl).drew | exact (World.ownsRow_made V #[] 0 (Nat.le_refl _) (Nat.zero_le _) rfl).alloc _ | exact ((World.ownsRow_made V #[] 0 (Nat.le_refl _) (Nat.zero_le _) rfl).alloc _).drew) ⟨lb, off, none⟩ n _ (ecells (E.take n)) (by rfl) HL1.out (HC1.out _ (by repeat (first | assumption | with_reducible exact Below.refl _ _ | with_reducible apply below_drew | with_reducible apply below_alloc))) HO1.out HM1.out HM2.out (by first | exact Nat.le_refl _ | (simp; done) | (simp; omega)) ?_
        intro a1 c1 Y1 hown4 hbel4 hgr4
        have hb4 := hbel4 V.heap.size V (Nat.le_refl _) (by repeat (first | assumption | with_reducible exact Below.refl _ _ | with_reducible apply below_drew | with_reducible apply below_alloc))
        refine hK.out _ _ ?_ (fun hHeld2 => ?_)
        · ((try dsimp only); exact HKB.out _ (by repeat (first | assumption | with_reducible exact Below.refl _ _ | with_reducible apply below_drew | with_reducible apply below_alloc)))
        clear hK K hHeld1
        refine wpAnyH_ready (rs := [6]) (by kernel_rfl) (by simp) ?_
        refine AllReadyH.cons rfl (fun K hK => ?_) AllReadyH.nil
        go_simp
        refine hK.out _ _ ?_ (fun hHeld3 => ?_)
        · ((try dsimp only); exact HKB.out _ (by repeat (first | assumption | with_reducible exact Below.refl _ _ | with_reducible apply below_drew | with_reducible apply below_alloc)))
        clear hK K hHeld2
        refine wpAnyH_ready (rs := [7]) (by kernel_rfl) (by simp) ?_
        refine AllReadyH.cons rfl (fun K hK => ?_) AllReadyH.nil
        refine step_append_any (by rfl) _ _ _ (by rfl) V.heap.size 40 i0 (.agg #[.int .i64 0, .int .i64 0]) 2 16 (by kernel_rfl) hi0 hz0 hz1 hz2 rfl (by decide) _ _ _ (by rfl) (by first | exact hown4 | exact hown4.alloc _ | exact hown4.drew | exact (hown4.alloc _).drew) ⟨Y1.heap.size, 0, none⟩ 1 1 [.int .i64 x, .int .i64 y] (by rfl) rfl (by first | exact news18 (RowIs.made Y1 40 [.int .i64 x, .int .i64 y]) | exact news18 (RowIs.made Y1 40 [.int .i64 x, .int .i64 y]).drew1) HO2.out HM3.out HM4.out (by first | exact hb4.size | exact (below_alloc hb4 _).size) ?_
        intro a2 c2 Y2 hown7 hbel7 hgr7
        have hb7 := hbel7 V.heap.size V (Nat.le_refl _) (by repeat (first | assumption | with_reducible exact Below.refl _ _ | with_reducible apply below_drew | with_reducible apply below_alloc))
        refine hK.out _ _ ?_ (fun hHeld4 => ?_)
        · ((try dsimp only); exact HKB.out _ (by repeat (first | assumption | with_reducible exact Below.refl _ _ | with_reducible apply below_drew | with_reducible apply below_alloc)))
        clear hK K hHeld3
        refine wpAnyH_ready (rs := [11]) (by kernel_rfl) (by simp) ?_
        refine AllReadyH.cons rfl (fun K hK => ?_) AllReadyH.nil
        refine step_append_any (by rfl) _ _ _ (by rfl) V.heap.size 40 i0 (.agg #[.int .i64 0, .int .i64 0]) 2 16 (by kernel_rfl) hi0 hz0 hz1 hz2 rfl (by decide) _ _ _ (by rfl) hown7 AD l2 _ (ecells (E.drop n)) (by rfl) HL3.out (HCA.out _ hb7) HO3.out HM5.out HM6.out hb7.size ?_
        intro a3 c3 Y3 hown11 hbel11 hgr11
        have hb11 := hbel11 V.heap.size V (Nat.le_refl _) (by repeat (first | assumption | with_reducible exact Below.refl _ _ | with_reducible apply below_drew | with_reducible apply below_alloc))
        refine hK.out _ _ ?_ (fun hHeld5 => ?_)
        · ((try dsimp only); exact HKB.out _ (by repeat (first | assumption | with_reducible exact Below.refl _ _ | with_reducible apply below_drew | with_reducible apply below_alloc)))
        clear hK K hHeld4
        refine wpAnyH_ready (rs := [12]) (by kernel_rfl) (by simp) ?_
        refine AllReadyH.cons rfl (fun K hK => ?_) AllReadyH.nil
        go_simp
        refine hK.out _ _ ?_ (fun hHeld6 => ?_)
        · ((try dsimp only); exact HKB.out _ (by repeat (first | assumption | with_reducible exact Below.refl _ _ | with_reducible apply below_drew | with_reducible apply below_alloc)))
        clear hK K hHeld5
        refine wpAnyH_done (by kernel_rfl) ?_ _
        clear hHeld6
        have HR := Lib.hid (HFN.out _ _ _ hown11 rfl hb11)
        clear hown4 hbel4 hgr4 hown7 hbel7 hgr7 hown11 hbel11 hgr11 hb4 hb7 hb11
        go_wp2
        exact bodyPost_ret (v := .slice a3 (n + 1 + l2) c3) (by simp [results, Tryz.results49, go_sem]) rfl HR.out
      · skip
        go_simp
        refine hK.out _ _ ?_ (fun hHeld7 => ?_)
        · ((try dsimp only); exact HKB.out _ (by repeat (first | assumption | with_reducible exact Below.refl _ _ | with_reducible apply below_drew | with_reducible apply below_alloc)))
        clear hK K hHeld1
        refine wpAnyH_ready (rs := [4]) (by kernel_rfl) (by simp) ?_
        refine AllReadyH.cons rfl (fun K hK => ?_) AllReadyH.nil
        refine step_append_first (by rfl) _ _ _ (by rfl) V.heap.size 40 i0 (.agg #[.int .i64 0, .int .i64 0]) 2 16 (by kernel_rfl) hi0 hz0 hz1 hz2 rfl (by decide) (.slice (some ⟨V.heap.size, 0, none⟩) 0 0) (by rfl) (by first | exact (World.ownsRow_made V #[] 0 (Nat.le_refl _) (Nat.zero_le _) rfl) | exact (World.ownsRow_made V #[] 0 (Nat.le_refl _) (Nat.zero_le _) rfl).drew | exact (World.ownsRow_made V #[] 0 (Nat.le_refl _) (Nat.zero_le _) rfl).alloc _ | exact ((World.ownsRow_made V #[] 0 (Nat.le_refl _) (Nat.zero_le _) rfl).alloc _).drew) ⟨lb, off, none⟩ n _ (ecells (E.take n)) (by rfl) HL1.out (HC1.out _ (by repeat (first | assumption | with_reducible exact Below.refl _ _ | with_reducible apply below_drew | with_reducible apply below_alloc))) HO1.out HM1.out HM2.out (by first | exact Nat.le_refl _ | (simp; done) | (simp; omega)) ?_
        intro a1 c1 Y1 hown4 hbel4 hgr4
        have hb4 := hbel4 V.heap.size V (Nat.le_refl _) (by repeat (first | assumption | with_reducible exact Below.refl _ _ | with_reducible apply below_drew | with_reducible apply below_alloc))
        refine hK.out _ _ ?_ (fun hHeld8 => ?_)
        · ((try dsimp only); exact HKB.out _ (by repeat (first | assumption | with_reducible exact Below.refl _ _ | with_reducible apply below_drew | with_reducible apply below_alloc)))
        clear hK K hHeld7
        refine wpAnyH_ready (rs := [7]) (by kernel_rfl) (by simp) ?_
        refine AllReadyH.cons rfl (fun K hK => ?_) AllReadyH.nil
        refine step_append_any (by rfl) _ _ _ (by rfl) V.heap.size 40 i0 (.agg #[.int .i64 0, .int .i64 0]) 2 16 (by kernel_rfl) hi0 hz0 hz1 hz2 rfl (by decide) _ _ _ (by rfl) (by first | exact hown4 | exact hown4.alloc _ | exact hown4.drew | exact (hown4.alloc _).drew) ⟨V.heap.size + 1, 0, none⟩ 1 1 [.int .i64 x, .int .i64 y] (by rfl) rfl (by first | exact news18 ((RowIs.made' (V.alloc (.cells #[] 40)) 40 [.int .i64 x, .int .i64 y] (V.heap.size + 1) (by simp)).grown hgr4 (by simp [Value.ownBlock])) | exact news18 ((RowIs.made' (V.alloc (.cells #[] 40)) 40 [.int .i64 x, .int .i64 y] (V.heap.size + 1) (by simp)).drew1.grown hgr4 (by simp [Value.ownBlock]))) HO2.out HM3.out HM4.out (by first | exact hb4.size | exact (below_alloc hb4 _).size) ?_
        intro a2 c2 Y2 hown7 hbel7 hgr7
        have hb7 := hbel7 V.heap.size V (Nat.le_refl _) (by repeat (first | assumption | with_reducible exact Below.refl _ _ | with_reducible apply below_drew | with_reducible apply below_alloc))
        refine hK.out _ _ ?_ (fun hHeld9 => ?_)
        · ((try dsimp only); exact HKB.out _ (by repeat (first | assumption | with_reducible exact Below.refl _ _ | with_reducible apply below_drew | with_reducible apply below_alloc)))
        clear hK K hHeld8
        refine wpAnyH_ready (rs := [11]) (by kernel_rfl) (by simp) ?_
        refine AllReadyH.cons rfl (fun K hK => ?_) AllReadyH.nil
        refine step_append_any (by rfl) _ _ _ (by rfl) V.heap.size 40 i0 (.agg #[.int .i64 0, .int .i64 0]) 2 16 (by kernel_rfl) hi0 hz0 hz1 hz2 rfl (by decide) _ _ _ (by rfl) hown7 AD l2 _ (ecells (E.drop n)) (by rfl) HL3.out (HCA.out _ hb7) HO3.out HM5.out HM6.out hb7.size ?_
        intro a3 c3 Y3 hown11 hbel11 hgr11
        have hb11 := hbel11 V.heap.size V (Nat.le_refl _) (by repeat (first | assumption | with_reducible exact Below.refl _ _ | with_reducible apply below_drew | with_reducible apply below_alloc))
        refine hK.out _ _ ?_ (fun hHeld10 => ?_)
        · ((try dsimp only); exact HKB.out _ (by repeat (first | assumption | with_reducible exact Below.refl _ _ | with_reducible apply below_drew | with_reducible apply below_alloc)))
        clear hK K hHeld9
        refine wpAnyH_ready (rs := [12]) (by kernel_rfl) (by simp) ?_
        refine AllReadyH.cons rfl (fun K hK => ?_) AllReadyH.nil
        go_simp
        refine hK.out _ _ ?_ (fun hHeld11 => ?_)
        · ((try dsimp only); exact HKB.out _ (by repeat (first | assumption | with_reducible exact Below.refl _ _ | with_reducible apply below_drew | with_reducible apply below_alloc)))
        clear hK K hHeld10
        refine wpAnyH_done (by kernel_rfl) ?_ _
        clear hHeld11
        have HR := Lib.hid (HFN.out _ _ _ hown11 rfl hb11)
        clear hown4 hbel4 hgr4 hown7 hbel7 hgr7 hown11 hbel11 hgr11 hb4 hb7 hb11
        go_wp2
        exact bodyPost_ret (v := .slice a3 (n + 1 + l2) c3) (by simp [results, Tryz.results49, go_sem]) rfl HR.out
    · skip
      go_simp
      refine hK.out _ _ ?_ (fun hHeld12 => ?_)
      · ((try dsimp only); exact HKB.out _ (by repeat (first | assumption | with_reducible exact Below.refl _ _ | with_reducible apply below_drew | with_reducible apply below_alloc)))
      clear hK K hHeld0
      refine wpAnyH_ready (rs := [0]) (by kernel_rfl) (by simp) ?_
      refine AllReadyH.cons rfl (fun K hK => ?_) AllReadyH.nil
      go_simp
      refine hK.out _ _ ?_ (fun hHeld13 => ?_)
      · ((try dsimp only); exact HKB.out _ (by repeat (first | assumption | with_reducible exact Below.refl _ _ | with_reducible apply below_drew | with_reducible apply below_alloc)))
      clear hK K hHeld12
      refine wpAnyH_ready (rs := [4]) (by kernel_rfl) (by simp) ?_
      refine AllReadyH.cons rfl (fun K hK => ?_) AllReadyH.nil
      refine step_append_first (by rfl) _ _ _ (by rfl) V.heap.size 40 i0 (.agg #[.int .i64 0, .int .i64 0]) 2 16 (by kernel_rfl) hi0 hz0 hz1 hz2 rfl (by decide) (.slice (some ⟨V.heap.size + 1, 0, none⟩) 0 0) (by rfl) (by have h := World.ownsRow_made (V.alloc (.cells #[.int .i64 x, .int .i64 y] 40)) #[] 0 (e := 40) (size := 2) (Nat.le_refl _) (Nat.zero_le _) rfl; simp only [World.size_alloc] at h; first | exact owns_base h (by omega) | exact (owns_base h (by omega)).drew) ⟨lb, off, none⟩ n _ (ecells (E.take n)) (by rfl) HL1.out (HC1.out _ (by repeat (first | assumption | with_reducible exact Below.refl _ _ | with_reducible apply below_drew | with_reducible apply below_alloc))) HO1.out HM1.out HM2.out (by first | exact Nat.le_refl _ | (simp; done) | (simp; omega)) ?_
      intro a1 c1 Y1 hown4 hbel4 hgr4
      have hb4 := hbel4 V.heap.size V (Nat.le_refl _) (by repeat (first | assumption | with_reducible exact Below.refl _ _ | with_reducible apply below_drew | with_reducible apply below_alloc))
      refine hK.out _ _ ?_ (fun hHeld14 => ?_)
      · ((try dsimp only); exact HKB.out _ (by repeat (first | assumption | with_reducible exact Below.refl _ _ | with_reducible apply below_drew | with_reducible apply below_alloc)))
      clear hK K hHeld13
      refine wpAnyH_ready (rs := [7]) (by kernel_rfl) (by simp) ?_
      refine AllReadyH.cons rfl (fun K hK => ?_) AllReadyH.nil
      refine step_append_any (by rfl) _ _ _ (by rfl) V.heap.size 40 i0 (.agg #[.int .i64 0, .int .i64 0]) 2 16 (by kernel_rfl) hi0 hz0 hz1 hz2 rfl (by decide) _ _ _ (by rfl) (by first | exact hown4 | exact hown4.alloc _ | exact hown4.drew | exact (hown4.alloc _).drew) ⟨V.heap.size, 0, none⟩ 1 1 [.int .i64 x, .int .i64 y] (by rfl) rfl (by first | exact news18 (((RowIs.made V 40 [.int .i64 x, .int .i64 y]).alloc (.cells #[] 40)).grown hgr4 (by simp [Value.ownBlock])) | exact news18 (((RowIs.made V 40 [.int .i64 x, .int .i64 y]).alloc (.cells #[] 40)).drew1.grown hgr4 (by simp [Value.ownBlock]))) HO2.out HM3.out HM4.out (by first | exact hb4.size | exact (below_alloc hb4 _).size) ?_
      intro a2 c2 Y2 hown7 hbel7 hgr7
      have hb7 := hbel7 V.heap.size V (Nat.le_refl _) (by repeat (first | assumption | with_reducible exact Below.refl _ _ | with_reducible apply below_drew | with_reducible apply below_alloc))
      refine hK.out _ _ ?_ (fun hHeld15 => ?_)
      · ((try dsimp only); exact HKB.out _ (by repeat (first | assumption | with_reducible exact Below.refl _ _ | with_reducible apply below_drew | with_reducible apply below_alloc)))
      clear hK K hHeld14
      refine wpAnyH_ready (rs := [11]) (by kernel_rfl) (by simp) ?_
      refine AllReadyH.cons rfl (fun K hK => ?_) AllReadyH.nil
      refine step_append_any (by rfl) _ _ _ (by rfl) V.heap.size 40 i0 (.agg #[.int .i64 0, .int .i64 0]) 2 16 (by kernel_rfl) hi0 hz0 hz1 hz2 rfl (by decide) _ _ _ (by rfl) hown7 AD l2 _ (ecells (E.drop n)) (by rfl) HL3.out (HCA.out _ hb7) HO3.out HM5.out HM6.out hb7.size ?_
      intro a3 c3 Y3 hown11 hbel11 hgr11
      have hb11 := hbel11 V.heap.size V (Nat.le_refl _) (by repeat (first | assumption | with_reducible exact Below.refl _ _ | with_reducible apply below_drew | with_reducible apply below_alloc))
      refine hK.out _ _ ?_ (fun hHeld16 => ?_)
      · ((try dsimp only); exact HKB.out _ (by repeat (first | assumption | with_reducible exact Below.refl _ _ | with_reducible apply below_drew | with_reducible apply below_alloc)))
      clear hK K hHeld15
      refine wpAnyH_ready (rs := [12]) (by kernel_rfl) (by simp) ?_
      refine AllReadyH.cons rfl (fun K hK => ?_) AllReadyH.nil
      go_simp
      refine hK.out _ _ ?_ (fun hHeld17 => ?_)
      · ((try dsimp only); exact HKB.out _ (by repeat (first | assumption | with_reducible exact Below.refl _ _ | with_reducible apply below_drew | with_reducible apply below_alloc)))
      clear hK K hHeld16
      refine wpAnyH_done (by kernel_rfl) ?_ _
      clear hHeld17
      have HR := Lib.hid (HFN.out _ _ _ hown11 rfl hb11)
      clear hown4 hbel4 hgr4 hown7 hbel7 hgr7 hown11 hbel11 hgr11 hb4 hb7 hb11
      go_wp2
      exact bodyPost_ret (v := .slice a3 (n + 1 + l2) c3) (by simp [results, Tryz.results49, go_sem]) rfl HR.out
  case pos =>
  obtain ⟨⟨a, b⟩, hab⟩ : ∃ e, e = E! E k := ⟨_, rfl⟩
  have hEk : E[k]? = some (a, b) := by
    have hk' : k < E.length := by rw [← HN.out]; exact hlt
    rw [List.getElem?_eq_getElem hk', hab]
    simp [E!, hk']
  obtain ⟨lt, hlt'⟩ : ∃ lt : Bool, lt = @decide (ltE (a, b) (x, y)) (Classical.propDecidable _) := ⟨_, rfl⟩
  have HLTB := Lib.hid (show lt = true ↔ ltE (a, b) (x, y) from by rw [hlt']; exact @decide_eq_true_iff _ (Classical.propDecidable _))
  have HEK := Lib.hid hEk
  have HLS := Lib.hid (show ∀ w', Hid (Below X.heap.size X w') → Calls Tryz.prog 89 #[.agg #[.int .i64 a, .int .i64 b], .agg #[.int .i64 x, .int .i64 y]] w' fun e w'' => e = .returned (.bool lt) ∧ Hid (Below X.heap.size X w'') from fun w' h =>
    (less18 a b x y w').mono fun e w'' ⟨r, he, hr', hb'⟩ => ⟨by rw [he, show r = lt from Bool.eq_iff_iff.2 (hr'.trans HLTB.out.symm)], below_more h.out hb' h.out.size⟩)
  have HK := Lib.hid (show ∀ w', Hid (Below X.heap.size X w') → w'.cell? ⟨lb, off + k * 2, none⟩ = some (.int .i64 a) ∧ w'.cell? ⟨lb, off + k * 2 + 1, none⟩ = some (.int .i64 b) ∧ w'.cell? ⟨xb, 0, none⟩ = some (.int .i64 x) ∧ w'.cell? ⟨xb, 1, none⟩ = some (.int .i64 y) from fun w' h => by
    have hb2 := below_more hb h.out hb.size
    obtain ⟨lb', off', e, -, hcc⟩ := HE.out.mono (Nat.le_refl _) hb2 (by intro e; have := HN.out; rw [e] at this; simp at this; omega)
    cases e
    obtain ⟨c1, c2⟩ := hcc k (by rw [← HN.out]; exact hlt)
    rw [← hab] at c1 c2
    exact ⟨c1, c2, (HR0.out.after hb2).cell (i := 0) rfl, (HR0.out.after hb2).cell (i := 1) rfl⟩)
  have HRF := Lib.hid (Below.refl X.heap.size X)
  have HDR := Lib.hid (show Below X.heap.size X X.drew from ⟨rfl, rfl, rfl, Nat.le_refl _, fun _ _ => rfl⟩)
  have bk : (0 : Int) ≤ (k : Int) ∧ (k : Int) < (n : Int) := by omega
  clear hr d1 d2 hb hab hEk hlt'
  go_upto_region 2 with fail
  go_region_held3 (fun w' => w'.cell? ⟨lb, off + k * 2, none⟩ = some (.int .i64 a) ∧ w'.cell? ⟨lb, off + k * 2 + 1, none⟩ = some (.int .i64 b) ∧ w'.cell? ⟨xb, 0, none⟩ = some (.int .i64 x) ∧ w'.cell? ⟨xb, 1, none⟩ = some (.int .i64 y))
    (exact HK.out _ (by assumption))
    (first | (go_at_call 89; (with_reducible refine (HLS.out _ (by assumption)).mono ?_); rintro e w2 ⟨rfl, hb2⟩))
  have HB2 := Lib.hid (below_more HBX.out hb2.out HBX.out.size)
  cases lt
  case' true =>
    have HNX := Lib.hid (show ∀ i e, i < k + 1 → E[i]? = some e → ltE e (x, y) from fun i e hi he => by
      by_cases q : i = k
      · subst q
        rw [HEK.out] at he
        cases he
        exact HLTB.out.1 rfl
      · exact HLT.out i e (by omega) he)
    clear hb2
    go_wp2
    go_roundw
    case rel => exact ⟨k + 1, by omega, by go_num, HNX, HB2.out⟩
    case measure => simp [intOf]; omega
  case' false =>
  obtain ⟨d0, d1, d2, d3⟩ := HK.out w2 hb2
  obtain ⟨t, ht⟩ : ∃ t, t = (a == x && b == y) := ⟨_, rfl⟩
  have hte : ∀ w, (Op.equalIn 10000 40 (.agg #[.int .i64 a, .int .i64 b]) (.agg #[.int .i64 x, .int .i64 y])).run Tryz.prog w = .ok t w := fun w => by rw [ht]; exact edge_equal a b x y w
  have HTT := Lib.hid (show t = true ↔ (a, b) = (x, y) from by rw [ht]; simp)
  have HQN := Lib.hid (show ∀ q, Below W0.heap.size W0 (w2.drewN q) from fun q => below_drewN HB2.out q)
  have HNL := Lib.hid (show ¬ ltE (a, b) (x, y) from fun h => by have := HLTB.out.2 h; cases this)
  clear hb2 ht
  cases t
  case' true =>
    have HTE := Lib.hid (HTT.out.1 rfl)
    go_wp2
    go_quiet (fail)
    rename_i nq
    have HFIN := Lib.hid (show InsertP E (x, y) w (.returned (.slice (some ⟨lb, off, none⟩) n cap)) (w2.drewN nq) from by
      have hb5 := HQN.out nq
      refine ⟨_, E, rfl, ⟨lb, off, cap, by rw [HN.out], by rw [← HN.out]; exact hc, HLB.out _ hb5, HE.out.mono (Nat.le_refl _) hb5⟩, ⟨k, by rw [← HN.out]; exact hk, HLT.out, fun e he => ?_, .inl ⟨?_, rfl⟩⟩, HBF.out _ hb5⟩
      · rw [HEK.out] at he; cases he; exact HNL.out
      · rw [HEK.out, HTE.out])
    go_wp2
    exact bodyPost_ret (v := .slice (some ⟨lb, off, none⟩) n cap) (by simp [results, Tryz.results49, go_sem]) rfl HFIN.out
  case' false =>
  have HGE := Lib.hid (show ∀ e, E[k]? = some e → ¬ ltE e (x, y) ∧ e ≠ (x, y) from fun e he => by
    rw [HEK.out] at he
    cases he
    exact ⟨HNL.out, fun q => by have := HTT.out.2 q; cases this⟩)
  go_wp2
  go_quiet (fail)
  rename_i nq
  have hVb := HQN.out nq
  obtain ⟨V, hV⟩ : ∃ V, V = w2.drewN nq := ⟨_, rfl⟩
  rw [← hV] at hVb ⊢
  have HVB := Lib.hid hVb
  have HC1 := Lib.hid (show ∀ X, Below V.heap.size V X → ∀ j u, (ecells (E.take k))[j]? = some u → X.cell? ((⟨lb, off, none⟩ : Addr).add j) = some u from fun X h j u hj => by
    rw [Addr.add_lit]
    exact EdgesAt.cells (HE.out.mono (Nat.le_refl _) (below_more HVB.out h HVB.out.size)) j u (etake_cells hj))
  have HL1 := Lib.hid (show (ecells (E.take k)).length = k * 2 from by rw [ecells_length, List.length_take]; congr 1; have := HN.out; omega)
  obtain ⟨l2, hl2⟩ : ∃ l2, l2 = n - k := ⟨_, rfl⟩
  have HL2 := Lib.hid hl2
  have HL3 := Lib.hid (show (ecells (E.drop k)).length = l2 * 2 from by rw [ecells_length, List.length_drop]; congr 1; have := HN.out; omega)
  obtain ⟨AD, hAD⟩ : ∃ AD : Addr, AD = if cap = k then ⟨lb, off, none⟩ else ⟨lb, off + k * 2, none⟩ := ⟨_, rfl⟩
  have HCA := Lib.hid (show ∀ X, Below V.heap.size V X → ∀ j u, (ecells (E.drop k))[j]? = some u → X.cell? (AD.add j) = some u from fun X h j u hj => by
    rw [hAD]
    by_cases e : cap = k
    · have h1 := (List.getElem?_eq_some_iff.1 hj).1
      rw [HL3.out] at h1
      omega
    · rw [if_neg e, Addr.add_lit, Nat.add_assoc]
      exact EdgesAt.cells (HE.out.mono (Nat.le_refl _) (below_more HVB.out h HVB.out.size)) _ u (edrop_cells hj (by have := HN.out; omega)))
  have hs1 : ∀ w, (Instr.sliceAt 34 (.slice (some ⟨lb, off, none⟩) n cap) none (some (.int .i64 (k : Int))) none).run Tryz.prog w = .ok (.slice (some ⟨lb, off, none⟩) k cap) w := fun w => esliceAt_hi lb off n cap k (by omega) w
  have hs2 : ∀ w, (Instr.sliceAt 34 (.slice (some ⟨lb, off, none⟩) n cap) (some (.int .i64 (k : Int))) none none).run Tryz.prog w = .ok (.slice (some AD) l2 (cap - k)) w := fun w => by
    rw [esliceAt_lo lb off n cap k (by omega) w, ← hl2, hAD]
  have HO1 := Lib.hid (ecells_one (E.take k))
  have HO2 := Lib.hid (show ∀ u ∈ [Value.int .i64 x, Value.int .i64 y], u.oneCell' = true from by intro u hu; simp at hu; rcases hu with rfl | rfl <;> rfl)
  have HO3 := Lib.hid (ecells_one (E.drop k))
  have HM1 := Lib.hid (show k ≤ maxLen by unfold maxLen; omega)
  have HM2 := Lib.hid (show k * 16 ≤ 140737488355328 by omega)
  have HM3 := Lib.hid (show k + 1 ≤ maxLen by unfold maxLen; omega)
  have HM4 := Lib.hid (show (k + 1) * 16 ≤ 140737488355328 by omega)
  have HM5 := Lib.hid (show k + 1 + l2 ≤ maxLen by unfold maxLen; omega)
  have HM6 := Lib.hid (show (k + 1 + l2) * 16 ≤ 140737488355328 by omega)
  have HKB := Lib.hid (show ∀ w', Below V.heap.size V w' → w'.cell? ⟨xb, 0, none⟩ = some (.int .i64 x) ∧ w'.cell? ⟨xb, 1, none⟩ = some (.int .i64 y) from fun w' h => ⟨(HR0.out.after (below_more HVB.out h HVB.out.size)).cell (i := 0) rfl, (HR0.out.after (below_more HVB.out h HVB.out.size)).cell (i := 1) rfl⟩)
  have HFN := Lib.hid (show ∀ (W' : World) (v : Value) (xs : List Value), W'.ownsRow V.heap.size 40 2 v (k + 1 + l2) xs → xs = ecells (E.take k) ++ [.int .i64 x, .int .i64 y] ++ ecells (E.drop k) → Below V.heap.size V W' → InsertP E (x, y) w (.returned v) W' from fun W' v xs ho hx hb' => insertP_new ho hx HN.out (by omega) HL2.out HLT.out HGE.out (HBF.out _ (below_more HVB.out hb' HVB.out.size)))
  clear hV hVb hl2 hAD
  go_upto_region 6 with fail
  refine wp_region_held_drew (S := (fun w' => w'.cell? ⟨xb, 0, none⟩ = some (.int .i64 x) ∧ w'.cell? ⟨xb, 1, none⟩ = some (.int .i64 y))) (by kernel_rfl) ?_ (fun hHeld0 => ?_)
  · ((try dsimp only); exact HKB.out _ (by repeat (first | assumption | with_reducible exact Below.refl _ _ | with_reducible apply below_drew | with_reducible apply below_alloc)))
  refine wpAnyH_take (i := 1) (v := ?_) rfl (by kernel_rfl) (by kernel_rfl) (by kernel_rfl) (fun _ _ _ h => h) (Or.inl ⟨by rfl, ?_⟩) (by assumption) ?_
  rotate_left
  · (intro w hSw; (try dsimp only at hSw); go_simp; try with_reducible rfl)
  try simp only [List.getElem_toArray, List.getElem_cons_succ, List.getElem_cons_zero, Act.put, List.setIfInBounds_toArray, List.set_cons_zero, List.set_cons_succ]
  refine wpAnyH_take (i := 2) (v := ?_) rfl (by kernel_rfl) (by kernel_rfl) (by kernel_rfl) (fun _ _ _ h => h) (Or.inl ⟨by rfl, ?_⟩) (by assumption) ?_
  rotate_left
  · (intro w hSw; (try dsimp only at hSw); go_simp; try with_reducible rfl)
  try simp only [List.getElem_toArray, List.getElem_cons_succ, List.getElem_cons_zero, Act.put, List.setIfInBounds_toArray, List.set_cons_zero, List.set_cons_succ]
  refine wpAnyH_take (i := 3) (v := (.slice (some ⟨lb, off, none⟩) k cap)) rfl (by kernel_rfl) (by kernel_rfl) (by kernel_rfl) (fun _ _ _ h => h) (Or.inl ⟨by rfl, ?_⟩) (by assumption) ?_
  · (intro w hSw; (try dsimp only at hSw); go_simp; try with_reducible rfl)
  try simp only [List.getElem_toArray, List.getElem_cons_succ, List.getElem_cons_zero, Act.put, List.setIfInBounds_toArray, List.set_cons_zero, List.set_cons_succ]
  refine wpAnyH_take (i := 5) (v := ?_) rfl (by kernel_rfl) (by kernel_rfl) (by kernel_rfl) (fun _ _ _ h => h) (Or.inl ⟨by rfl, ?_⟩) (by assumption) ?_
  rotate_left
  · (intro w hSw; (try dsimp only at hSw); go_simp; try with_reducible rfl)
  try simp only [List.getElem_toArray, List.getElem_cons_succ, List.getElem_cons_zero, Act.put, List.setIfInBounds_toArray, List.set_cons_zero, List.set_cons_succ]
  refine wpAnyH_take (i := 8) (v := ?_) rfl (by kernel_rfl) (by kernel_rfl) (by kernel_rfl) (fun _ _ _ h => h) (Or.inl ⟨by rfl, ?_⟩) (by assumption) ?_
  rotate_left
  · (intro w hSw; (try dsimp only at hSw); go_simp; try with_reducible rfl)
  try simp only [List.getElem_toArray, List.getElem_cons_succ, List.getElem_cons_zero, Act.put, List.setIfInBounds_toArray, List.set_cons_zero, List.set_cons_succ]
  refine wpAnyH_take (i := 9) (v := ?_) rfl (by kernel_rfl) (by kernel_rfl) (by kernel_rfl) (fun _ _ _ h => h) (Or.inl ⟨by rfl, ?_⟩) (by assumption) ?_
  rotate_left
  · (intro w hSw; (try dsimp only at hSw); go_simp; try with_reducible rfl)
  try simp only [List.getElem_toArray, List.getElem_cons_succ, List.getElem_cons_zero, Act.put, List.setIfInBounds_toArray, List.set_cons_zero, List.set_cons_succ]
  refine wpAnyH_take (i := 10) (v := (.slice (some AD) l2 (cap - k))) rfl (by kernel_rfl) (by kernel_rfl) (by kernel_rfl) (fun _ _ _ h => h) (Or.inl ⟨by rfl, ?_⟩) (by assumption) ?_
  · (intro w hSw; (try dsimp only at hSw); go_simp; try with_reducible rfl)
  try simp only [List.getElem_toArray, List.getElem_cons_succ, List.getElem_cons_zero, Act.put, List.setIfInBounds_toArray, List.set_cons_zero, List.set_cons_succ]
  refine wpAnyH_ready (rs := [0, 6]) (by kernel_rfl) (by simp) ?_
  refine AllReadyH.cons rfl (fun K hK => ?_) (AllReadyH.cons rfl (fun K hK => ?_) AllReadyH.nil)
  · skip
    go_simp
    refine hK.out _ _ ?_ (fun hHeld1 => ?_)
    · ((try dsimp only); exact HKB.out _ (by repeat (first | assumption | with_reducible exact Below.refl _ _ | with_reducible apply below_drew | with_reducible apply below_alloc)))
    clear hK K hHeld0
    refine wpAnyH_ready (rs := [4, 6]) (by kernel_rfl) (by simp) ?_
    refine AllReadyH.cons rfl (fun K hK => ?_) (AllReadyH.cons rfl (fun K hK => ?_) AllReadyH.nil)
    · skip
      refine step_append_first (by rfl) _ _ _ (by rfl) V.heap.size 40 i0 (.agg #[.int .i64 0, .int .i64 0]) 2 16 (by kernel_rfl) hi0 hz0 hz1 hz2 rfl (by decide) (.slice (some ⟨V.heap.size, 0, none⟩) 0 0) (by rfl) (by first | exact (World.ownsRow_made V #[] 0 (Nat.le_refl _) (Nat.zero_le _) rfl) | exact (World.ownsRow_made V #[] 0 (Nat.le_refl _) (Nat.zero_le _) rfl).drew | exact (World.ownsRow_made V #[] 0 (Nat.le_refl _) (Nat.zero_le _) rfl).alloc _ | exact ((World.ownsRow_made V #[] 0 (Nat.le_refl _) (Nat.zero_le _) rfl).alloc _).drew) ⟨lb, off, none⟩ k _ (ecells (E.take k)) (by rfl) HL1.out (HC1.out _ (by repeat (first | assumption | with_reducible exact Below.refl _ _ | with_reducible apply below_drew | with_reducible apply below_alloc))) HO1.out HM1.out HM2.out (by first | exact Nat.le_refl _ | (simp; done) | (simp; omega)) ?_
      intro a1 c1 Y1 hown4 hbel4 hgr4
      have hb4 := hbel4 V.heap.size V (Nat.le_refl _) (by repeat (first | assumption | with_reducible exact Below.refl _ _ | with_reducible apply below_drew | with_reducible apply below_alloc))
      refine hK.out _ _ ?_ (fun hHeld2 => ?_)
      · ((try dsimp only); exact HKB.out _ (by repeat (first | assumption | with_reducible exact Below.refl _ _ | with_reducible apply below_drew | with_reducible apply below_alloc)))
      clear hK K hHeld1
      refine wpAnyH_ready (rs := [6]) (by kernel_rfl) (by simp) ?_
      refine AllReadyH.cons rfl (fun K hK => ?_) AllReadyH.nil
      go_simp
      refine hK.out _ _ ?_ (fun hHeld3 => ?_)
      · ((try dsimp only); exact HKB.out _ (by repeat (first | assumption | with_reducible exact Below.refl _ _ | with_reducible apply below_drew | with_reducible apply below_alloc)))
      clear hK K hHeld2
      refine wpAnyH_ready (rs := [7]) (by kernel_rfl) (by simp) ?_
      refine AllReadyH.cons rfl (fun K hK => ?_) AllReadyH.nil
      refine step_append_any (by rfl) _ _ _ (by rfl) V.heap.size 40 i0 (.agg #[.int .i64 0, .int .i64 0]) 2 16 (by kernel_rfl) hi0 hz0 hz1 hz2 rfl (by decide) _ _ _ (by rfl) (by first | exact hown4 | exact hown4.alloc _ | exact hown4.drew | exact (hown4.alloc _).drew) ⟨Y1.heap.size, 0, none⟩ 1 1 [.int .i64 x, .int .i64 y] (by rfl) rfl (by first | exact news18 (RowIs.made Y1 40 [.int .i64 x, .int .i64 y]) | exact news18 (RowIs.made Y1 40 [.int .i64 x, .int .i64 y]).drew1) HO2.out HM3.out HM4.out (by first | exact hb4.size | exact (below_alloc hb4 _).size) ?_
      intro a2 c2 Y2 hown7 hbel7 hgr7
      have hb7 := hbel7 V.heap.size V (Nat.le_refl _) (by repeat (first | assumption | with_reducible exact Below.refl _ _ | with_reducible apply below_drew | with_reducible apply below_alloc))
      refine hK.out _ _ ?_ (fun hHeld4 => ?_)
      · ((try dsimp only); exact HKB.out _ (by repeat (first | assumption | with_reducible exact Below.refl _ _ | with_reducible apply below_drew | with_reducible apply below_alloc)))
      clear hK K hHeld3
      refine wpAnyH_ready (rs := [11]) (by kernel_rfl) (by simp) ?_
      refine AllReadyH.cons rfl (fun K hK => ?_) AllReadyH.nil
      refine step_append_any (by rfl) _ _ _ (by rfl) V.heap.size 40 i0 (.agg #[.int .i64 0, .int .i64 0]) 2 16 (by kernel_rfl) hi0 hz0 hz1 hz2 rfl (by decide) _ _ _ (by rfl) hown7 AD l2 _ (ecells (E.drop k)) (by rfl) HL3.out (HCA.out _ hb7) HO3.out HM5.out HM6.out hb7.size ?_
      intro a3 c3 Y3 hown11 hbel11 hgr11
      have hb11 := hbel11 V.heap.size V (Nat.le_refl _) (by repeat (first | assumption | with_reducible exact Below.refl _ _ | with_reducible apply below_drew | with_reducible apply below_alloc))
      refine hK.out _ _ ?_ (fun hHeld5 => ?_)
      · ((try dsimp only); exact HKB.out _ (by repeat (first | assumption | with_reducible exact Below.refl _ _ | with_reducible apply below_drew | with_reducible apply below_alloc)))
      clear hK K hHeld4
      refine wpAnyH_ready (rs := [12]) (by kernel_rfl) (by simp) ?_
      refine AllReadyH.cons rfl (fun K hK => ?_) AllReadyH.nil
      go_simp
      refine hK.out _ _ ?_ (fun hHeld6 => ?_)
      · ((try dsimp only); exact HKB.out _ (by repeat (first | assumption | with_reducible exact Below.refl _ _ | with_reducible apply below_drew | with_reducible apply below_alloc)))
      clear hK K hHeld5
      refine wpAnyH_done (by kernel_rfl) ?_ _
      clear hHeld6
      have HR := Lib.hid (HFN.out _ _ _ hown11 rfl hb11)
      clear hown4 hbel4 hgr4 hown7 hbel7 hgr7 hown11 hbel11 hgr11 hb4 hb7 hb11
      go_wp2
      exact bodyPost_ret (v := .slice a3 (k + 1 + l2) c3) (by simp [results, Tryz.results49, go_sem]) rfl HR.out
    · skip
      go_simp
      refine hK.out _ _ ?_ (fun hHeld7 => ?_)
      · ((try dsimp only); exact HKB.out _ (by repeat (first | assumption | with_reducible exact Below.refl _ _ | with_reducible apply below_drew | with_reducible apply below_alloc)))
      clear hK K hHeld1
      refine wpAnyH_ready (rs := [4]) (by kernel_rfl) (by simp) ?_
      refine AllReadyH.cons rfl (fun K hK => ?_) AllReadyH.nil
      refine step_append_first (by rfl) _ _ _ (by rfl) V.heap.size 40 i0 (.agg #[.int .i64 0, .int .i64 0]) 2 16 (by kernel_rfl) hi0 hz0 hz1 hz2 rfl (by decide) (.slice (some ⟨V.heap.size, 0, none⟩) 0 0) (by rfl) (by first | exact (World.ownsRow_made V #[] 0 (Nat.le_refl _) (Nat.zero_le _) rfl) | exact (World.ownsRow_made V #[] 0 (Nat.le_refl _) (Nat.zero_le _) rfl).drew | exact (World.ownsRow_made V #[] 0 (Nat.le_refl _) (Nat.zero_le _) rfl).alloc _ | exact ((World.ownsRow_made V #[] 0 (Nat.le_refl _) (Nat.zero_le _) rfl).alloc _).drew) ⟨lb, off, none⟩ k _ (ecells (E.take k)) (by rfl) HL1.out (HC1.out _ (by repeat (first | assumption | with_reducible exact Below.refl _ _ | with_reducible apply below_drew | with_reducible apply below_alloc))) HO1.out HM1.out HM2.out (by first | exact Nat.le_refl _ | (simp; done) | (simp; omega)) ?_
      intro a1 c1 Y1 hown4 hbel4 hgr4
      have hb4 := hbel4 V.heap.size V (Nat.le_refl _) (by repeat (first | assumption | with_reducible exact Below.refl _ _ | with_reducible apply below_drew | with_reducible apply below_alloc))
      refine hK.out _ _ ?_ (fun hHeld8 => ?_)
      · ((try dsimp only); exact HKB.out _ (by repeat (first | assumption | with_reducible exact Below.refl _ _ | with_reducible apply below_drew | with_reducible apply below_alloc)))
      clear hK K hHeld7
      refine wpAnyH_ready (rs := [7]) (by kernel_rfl) (by simp) ?_
      refine AllReadyH.cons rfl (fun K hK => ?_) AllReadyH.nil
      refine step_append_any (by rfl) _ _ _ (by rfl) V.heap.size 40 i0 (.agg #[.int .i64 0, .int .i64 0]) 2 16 (by kernel_rfl) hi0 hz0 hz1 hz2 rfl (by decide) _ _ _ (by rfl) (by first | exact hown4 | exact hown4.alloc _ | exact hown4.drew | exact (hown4.alloc _).drew) ⟨V.heap.size + 1, 0, none⟩ 1 1 [.int .i64 x, .int .i64 y] (by rfl) rfl (by first | exact news18 ((RowIs.made' (V.alloc (.cells #[] 40)) 40 [.int .i64 x, .int .i64 y] (V.heap.size + 1) (by simp)).grown hgr4 (by simp [Value.ownBlock])) | exact news18 ((RowIs.made' (V.alloc (.cells #[] 40)) 40 [.int .i64 x, .int .i64 y] (V.heap.size + 1) (by simp)).drew1.grown hgr4 (by simp [Value.ownBlock]))) HO2.out HM3.out HM4.out (by first | exact hb4.size | exact (below_alloc hb4 _).size) ?_
      intro a2 c2 Y2 hown7 hbel7 hgr7
      have hb7 := hbel7 V.heap.size V (Nat.le_refl _) (by repeat (first | assumption | with_reducible exact Below.refl _ _ | with_reducible apply below_drew | with_reducible apply below_alloc))
      refine hK.out _ _ ?_ (fun hHeld9 => ?_)
      · ((try dsimp only); exact HKB.out _ (by repeat (first | assumption | with_reducible exact Below.refl _ _ | with_reducible apply below_drew | with_reducible apply below_alloc)))
      clear hK K hHeld8
      refine wpAnyH_ready (rs := [11]) (by kernel_rfl) (by simp) ?_
      refine AllReadyH.cons rfl (fun K hK => ?_) AllReadyH.nil
      refine step_append_any (by rfl) _ _ _ (by rfl) V.heap.size 40 i0 (.agg #[.int .i64 0, .int .i64 0]) 2 16 (by kernel_rfl) hi0 hz0 hz1 hz2 rfl (by decide) _ _ _ (by rfl) hown7 AD l2 _ (ecells (E.drop k)) (by rfl) HL3.out (HCA.out _ hb7) HO3.out HM5.out HM6.out hb7.size ?_
      intro a3 c3 Y3 hown11 hbel11 hgr11
      have hb11 := hbel11 V.heap.size V (Nat.le_refl _) (by repeat (first | assumption | with_reducible exact Below.refl _ _ | with_reducible apply below_drew | with_reducible apply below_alloc))
      refine hK.out _ _ ?_ (fun hHeld10 => ?_)
      · ((try dsimp only); exact HKB.out _ (by repeat (first | assumption | with_reducible exact Below.refl _ _ | with_reducible apply below_drew | with_reducible apply below_alloc)))
      clear hK K hHeld9
      refine wpAnyH_ready (rs := [12]) (by kernel_rfl) (by simp) ?_
      refine AllReadyH.cons rfl (fun K hK => ?_) AllReadyH.nil
      go_simp
      refine hK.out _ _ ?_ (fun hHeld11 => ?_)
      · ((try dsimp only); exact HKB.out _ (by repeat (first | assumption | with_reducible exact Below.refl _ _ | with_reducible apply below_drew | with_reducible apply below_alloc)))
      clear hK K hHeld10
      refine wpAnyH_done (by kernel_rfl) ?_ _
      clear hHeld11
      have HR := Lib.hid (HFN.out _ _ _ hown11 rfl hb11)
      clear hown4 hbel4 hgr4 hown7 hbel7 hgr7 hown11 hbel11 hgr11 hb4 hb7 hb11
      go_wp2
      exact bodyPost_ret (v := .slice a3 (k + 1 + l2) c3) (by simp [results, Tryz.results49, go_sem]) rfl HR.out
  · skip
    go_simp
    refine hK.out _ _ ?_ (fun hHeld12 => ?_)
    · ((try dsimp only); exact HKB.out _ (by repeat (first | assumption | with_reducible exact Below.refl _ _ | with_reducible apply below_drew | with_reducible apply below_alloc)))
    clear hK K hHeld0
    refine wpAnyH_ready (rs := [0]) (by kernel_rfl) (by simp) ?_
    refine AllReadyH.cons rfl (fun K hK => ?_) AllReadyH.nil
    go_simp
    refine hK.out _ _ ?_ (fun hHeld13 => ?_)
    · ((try dsimp only); exact HKB.out _ (by repeat (first | assumption | with_reducible exact Below.refl _ _ | with_reducible apply below_drew | with_reducible apply below_alloc)))
    clear hK K hHeld12
    refine wpAnyH_ready (rs := [4]) (by kernel_rfl) (by simp) ?_
    refine AllReadyH.cons rfl (fun K hK => ?_) AllReadyH.nil
    refine step_append_first (by rfl) _ _ _ (by rfl) V.heap.size 40 i0 (.agg #[.int .i64 0, .int .i64 0]) 2 16 (by kernel_rfl) hi0 hz0 hz1 hz2 rfl (by decide) (.slice (some ⟨V.heap.size + 1, 0, none⟩) 0 0) (by rfl) (by have h := World.ownsRow_made (V.alloc (.cells #[.int .i64 x, .int .i64 y] 40)) #[] 0 (e := 40) (size := 2) (Nat.le_refl _) (Nat.zero_le _) rfl; simp only [World.size_alloc] at h; first | exact owns_base h (by omega) | exact (owns_base h (by omega)).drew) ⟨lb, off, none⟩ k _ (ecells (E.take k)) (by rfl) HL1.out (HC1.out _ (by repeat (first | assumption | with_reducible exact Below.refl _ _ | with_reducible apply below_drew | with_reducible apply below_alloc))) HO1.out HM1.out HM2.out (by first | exact Nat.le_refl _ | (simp; done) | (simp; omega)) ?_
    intro a1 c1 Y1 hown4 hbel4 hgr4
    have hb4 := hbel4 V.heap.size V (Nat.le_refl _) (by repeat (first | assumption | with_reducible exact Below.refl _ _ | with_reducible apply below_drew | with_reducible apply below_alloc))
    refine hK.out _ _ ?_ (fun hHeld14 => ?_)
    · ((try dsimp only); exact HKB.out _ (by repeat (first | assumption | with_reducible exact Below.refl _ _ | with_reducible apply below_drew | with_reducible apply below_alloc)))
    clear hK K hHeld13
    refine wpAnyH_ready (rs := [7]) (by kernel_rfl) (by simp) ?_
    refine AllReadyH.cons rfl (fun K hK => ?_) AllReadyH.nil
    refine step_append_any (by rfl) _ _ _ (by rfl) V.heap.size 40 i0 (.agg #[.int .i64 0, .int .i64 0]) 2 16 (by kernel_rfl) hi0 hz0 hz1 hz2 rfl (by decide) _ _ _ (by rfl) (by first | exact hown4 | exact hown4.alloc _ | exact hown4.drew | exact (hown4.alloc _).drew) ⟨V.heap.size, 0, none⟩ 1 1 [.int .i64 x, .int .i64 y] (by rfl) rfl (by first | exact news18 (((RowIs.made V 40 [.int .i64 x, .int .i64 y]).alloc (.cells #[] 40)).grown hgr4 (by simp [Value.ownBlock])) | exact news18 (((RowIs.made V 40 [.int .i64 x, .int .i64 y]).alloc (.cells #[] 40)).drew1.grown hgr4 (by simp [Value.ownBlock]))) HO2.out HM3.out HM4.out (by first | exact hb4.size | exact (below_alloc hb4 _).size) ?_
    intro a2 c2 Y2 hown7 hbel7 hgr7
    have hb7 := hbel7 V.heap.size V (Nat.le_refl _) (by repeat (first | assumption | with_reducible exact Below.refl _ _ | with_reducible apply below_drew | with_reducible apply below_alloc))
    refine hK.out _ _ ?_ (fun hHeld15 => ?_)
    · ((try dsimp only); exact HKB.out _ (by repeat (first | assumption | with_reducible exact Below.refl _ _ | with_reducible apply below_drew | with_reducible apply below_alloc)))
    clear hK K hHeld14
    refine wpAnyH_ready (rs := [11]) (by kernel_rfl) (by simp) ?_
    refine AllReadyH.cons rfl (fun K hK => ?_) AllReadyH.nil
    refine step_append_any (by rfl) _ _ _ (by rfl) V.heap.size 40 i0 (.agg #[.int .i64 0, .int .i64 0]) 2 16 (by kernel_rfl) hi0 hz0 hz1 hz2 rfl (by decide) _ _ _ (by rfl) hown7 AD l2 _ (ecells (E.drop k)) (by rfl) HL3.out (HCA.out _ hb7) HO3.out HM5.out HM6.out hb7.size ?_
    intro a3 c3 Y3 hown11 hbel11 hgr11
    have hb11 := hbel11 V.heap.size V (Nat.le_refl _) (by repeat (first | assumption | with_reducible exact Below.refl _ _ | with_reducible apply below_drew | with_reducible apply below_alloc))
    refine hK.out _ _ ?_ (fun hHeld16 => ?_)
    · ((try dsimp only); exact HKB.out _ (by repeat (first | assumption | with_reducible exact Below.refl _ _ | with_reducible apply below_drew | with_reducible apply below_alloc)))
    clear hK K hHeld15
    refine wpAnyH_ready (rs := [12]) (by kernel_rfl) (by simp) ?_
    refine AllReadyH.cons rfl (fun K hK => ?_) AllReadyH.nil
    go_simp
    refine hK.out _ _ ?_ (fun hHeld17 => ?_)
    · ((try dsimp only); exact HKB.out _ (by repeat (first | assumption | with_reducible exact Below.refl _ _ | with_reducible apply below_drew | with_reducible apply below_alloc)))
    clear hK K hHeld16
    refine wpAnyH_done (by kernel_rfl) ?_ _
    clear hHeld17
    have HR := Lib.hid (HFN.out _ _ _ hown11 rfl hb11)
    clear hown4 hbel4 hgr4 hown7 hbel7 hgr7 hown11 hbel11 hgr11 hb4 hb7 hb11
    go_wp2
    exact bodyPost_ret (v := .slice a3 (k + 1 + l2) c3) (by simp [results, Tryz.results49, go_sem]) rfl HR.out
end Go.Proofs.YtkjamheoihlekaaGreat

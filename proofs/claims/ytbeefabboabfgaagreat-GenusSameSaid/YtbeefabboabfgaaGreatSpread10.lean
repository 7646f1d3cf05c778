/- gypsumref10.Shells: plain Lean. A label is spread over its shell. gypsumref10.Shells: the walk. -/
import Derived.Test.YtbeefabboabfgaaGreatShellG
import Derived.Test.YtbeefabboabfgaaGreatSpread
import Derived.Test.YtbeefabboabfgaaGreatRef10
namespace Go.Proofs.YtbeefabboabfgaaGreat
set_option linter.unusedVariables false
set_option linter.unusedSimpArgs false
open Go.RowKit
/-- The labels below m; all others -1. -/
def lab (L : Nat → Int) (m : Int) : Nat → Int := fun i => if L i < m then L i else -1
def negs (n : Nat) (f : Nat → Int) : Nat := (List.range n).countP fun i => decide (f i < 0)
theorem negs_le (n : Nat) (f : Nat → Int) : negs n f ≤ n := by
  unfold negs
  have := List.countP_le_length (p := fun i => decide (f i < 0)) (l := List.range n)
  simpa using this
theorem negs_congr {n : Nat} {f g : Nat → Int} (h : ∀ i, i < n → f i = g i) : negs n f = negs n g := by
  unfold negs
  apply List.countP_congr
  intro i hi
  rw [h i (by simpa using hi)]
theorem negs_upd {n : Nat} {f : Nat → Int} {j : Nat} {m : Int} (hj : j < n) (h0 : f j < 0) (hm : 0 ≤ m) : negs n (upd f j m) < negs n f := by
  unfold negs
  refine (countP_mono_lt _ _ n fun i hi h => ?_).2 ⟨j, hj, by simpa using h0, by simp [upd, hm]⟩
  by_cases e : i = j
  · subst e; simp [upd] at h; omega
  · simpa [upd, e] using h
theorem IsShells.at_most {A : Nat → Nat → Prop} {n : Nat} {L : Nat → Int} (h : IsShells A n L) {t : Nat} (ht : t < n) : L t ≤ cnt L t := by
  apply Classical.byContradiction
  intro hc
  obtain ⟨j, hj, e⟩ := h.rg t ht (cnt L t) (cnt_nonneg L t) (by omega)
  have := cnt_lt L t j hj
  omega
structure Fill (n : Nat) (L : Nat → Int) (m : Int) (t : Nat) (f : Nat → Int) : Prop where
  val : ∀ i, i < n → f i = lab L m i ∨ (f i = m ∧ L i = m)
  here : f t = m
theorem Fill.start {A : Nat → Nat → Prop} {n : Nat} {L : Nat → Int} (h : IsShells A n L) {t : Nat} (ht : t < n) {f : Nat → Int} (hf : ∀ i, i < n → f i = lab L (cnt L t) i) (h0 : f t < 0) : L t = cnt L t ∧ Fill n L (cnt L t) t (upd f t (cnt L t)) := by
  have e : L t = cnt L t := by
    have h1 := h.at_most ht
    have h2 := hf t ht
    unfold lab at h2
    split at h2
    · rw [h2] at h0; have := h.nonneg t ht; omega
    · omega
  refine ⟨e, fun i hi => ?_, by simp [upd]⟩
  by_cases he : i = t
  · subst he; right; exact ⟨by simp [upd], e⟩
  · left; simp only [upd, he, if_false]; exact hf i hi
theorem Fill.lbl {n : Nat} {L : Nat → Int} {m : Int} {t : Nat} {f : Nat → Int} (h : Fill n L m t f) (hm : 0 ≤ m) {i : Nat} (hi : i < n) (e : f i = m) : L i = m := by
  rcases h.val i hi with h1 | h1
  · rw [e] at h1; unfold lab at h1; split at h1 <;> omega
  · exact h1.2
theorem Fill.neg {n : Nat} {L : Nat → Int} {m : Int} {t : Nat} {f : Nat → Int} (h : Fill n L m t f) (hm : 0 ≤ m) {i : Nat} (hi : i < n) (e : L i = m) : f i = m ∨ f i < 0 := by
  rcases h.val i hi with h1 | h1
  · right; rw [h1]; unfold lab; rw [e]; simp
  · exact .inl h1.1
theorem Fill.grow {A : Nat → Nat → Prop} {n : Nat} {L : Nat → Int} {m : Int} {t : Nat} {f : Nat → Int} (h : Fill n L m t f) (hL : IsShells A n L) (hm : 0 ≤ m) {i j : Nat} (hi : i < n) (hj : j < n) (ha : A i j) (e : f i = m) : Fill n L m t (upd f j m) := by
  have h1 := h.lbl hm hi e
  have h2 := hL.clo i j hi hj ha
  refine ⟨fun k hk => ?_, ?_⟩
  · by_cases hk' : k = j
    · subst hk'; right; exact ⟨by simp [upd], by omega⟩
    · simp only [upd, hk', if_false]; exact h.val k hk
  · by_cases he : t = j
    · simp [upd, he]
    · simp only [upd, he, if_false]; exact h.here
theorem Fill.done {A : Nat → Nat → Prop} {n : Nat} {L : Nat → Int} {t : Nat} {f : Nat → Int} (hL : IsShells A n L) (hA : ∀ i j, A i j → i < n ∧ j < n) (hsym : ∀ i j, A i j → A j i) (ht : t < n) (e : L t = cnt L t) (h : Fill n L (cnt L t) t f)
    (hcl : ∀ i j, A i j → f i = cnt L t → 0 ≤ f j) : ∀ i, i < n → f i = lab L (cnt L (t + 1)) i := by
  have hm := cnt_nonneg L t
  have hc : cnt L (t + 1) = cnt L t + 1 := by
    show max (cnt L t) (L t + 1) = _
    rw [e]; omega
  have hstep : ∀ i j, A i j → f i = cnt L t → f j = cnt L t := fun i j ha hi => by
    have h1 := hcl i j ha hi
    have h2 := hA i j ha
    have h3 := hL.clo i j h2.1 h2.2 ha
    rcases h.neg hm h2.2 (by rw [h3]; exact h.lbl hm h2.1 hi) with h4 | h4
    · exact h4
    · omega
  have hall : ∀ {i j}, Conn A i j → f i = cnt L t → f j = cnt L t := by
    intro i j hcn
    induction hcn with
    | refl => exact id
    | step _ ha ih => exact fun hi => hstep _ _ ha (ih hi)
    | back _ ha ih => exact fun hi => hstep _ _ (hsym _ _ ha) (ih hi)
  intro i hi
  rw [hc]
  by_cases he : L i = cnt L t
  · rw [hall (hL.con t i ht hi (by omega)) h.here]
    unfold lab
    rw [if_pos (by omega)]; omega
  · rcases h.val i hi with h1 | h1
    · rw [h1]; unfold lab
      by_cases h2 : L i < cnt L t
      · rw [if_pos h2, if_pos (by omega)]
      · rw [if_neg h2, if_neg (by omega)]
    · exact absurd h1.2 he
theorem lab_skip {A : Nat → Nat → Prop} {n : Nat} {L : Nat → Int} {t : Nat} {f : Nat → Int} (hL : IsShells A n L) (ht : t < n) (hf : ∀ i, i < n → f i = lab L (cnt L t) i) (h0 : 0 ≤ f t) : cnt L (t + 1) = cnt L t := by
  have h1 := hf t ht
  unfold lab at h1
  split at h1
  · show max (cnt L t) (L t + 1) = _
    omega
  · omega
theorem fill_cnt {L : Nat → Int} {t : Nat} (e : L t = cnt L t) : cnt L (t + 1) = cnt L t + 1 := by
  show max (cnt L t) (L t + 1) = _
  rw [e]; omega
theorem lab_zero {A : Nat → Nat → Prop} {n : Nat} {L : Nat → Int} (h : IsShells A n L) : ∀ i, i < n → (-1 : Int) = lab L (cnt L 0) i := fun i hi => by
  have := h.nonneg i hi
  unfold lab
  rw [if_neg (by show ¬ L i < 0; omega)]
theorem lab_all {n : Nat} {L : Nat → Int} : ∀ i, i < n → lab L (cnt L n) i = L i := fun i hi => by
  have := cnt_lt L n i hi
  unfold lab; rw [if_pos this]
/-- Numbers at the head of a block. -/
def IRow (X : World) (g : Nat) (f : Nat → Int) (n : Nat) : Prop := ∃ ys, RowIs X g 3 ys ∧ ∀ i, i < n → ys[i]? = some (.int .i64 (f i))
section
variable {X Y : World} {g n : Nat} {f : Nat → Int}
theorem IRow.lt (h : IRow X g f n) : g < X.heap.size := by obtain ⟨ys, h1, -⟩ := h; exact h1.lt
theorem IRow.cell (h : IRow X g f n) {i : Nat} (hi : i < n) : X.cell? ⟨g, i, none⟩ = some (.int .i64 (f i)) := by obtain ⟨ys, h1, h2⟩ := h; exact h1.cell (h2 i hi)
theorem IRow.free (h : IRow X g f n) (i : Nat) : X.frozen? ⟨g, i, none⟩ = false := by obtain ⟨ys, h1, h2⟩ := h; exact h1.free i
theorem IRow.after (h : IRow X g f n) (hb : Below X.heap.size X Y) : IRow Y g f n := by obtain ⟨ys, h1, h2⟩ := h; exact ⟨ys, h1.after hb, h2⟩
theorem IRow.set (h : IRow X g f n) (x : Nat) (v : Int) : IRow (X.setCell ⟨g, x, none⟩ (.int .i64 v)) g (upd f x v) n := by
  obtain ⟨ys, h1, h2⟩ := h
  refine ⟨_, h1.set x (.int .i64 v), fun i hi => ?_⟩
  have := h2 i hi
  rw [List.getElem?_set]
  by_cases e : x = i
  · subst e
    have hl : x < ys.length := (List.getElem?_eq_some_iff.1 this).1
    simp [hl, upd]
  · rw [if_neg e, this]
    simp only [upd, if_neg (fun h : i = x => e h.symm)]
theorem IRow.ints (h : IRow X g f n) : IntsAt X (some ⟨g, 0, none⟩) (il f n) := fun _ => ⟨g, 0, rfl, h.lt, fun i hi => by
  rw [il_length] at hi
  rw [Nat.zero_add, il_get f hi]
  exact h.cell hi⟩
theorem IRow.congr {k : Nat → Int} (h : IRow X g f n) (e : ∀ i, i < n → f i = k i) : IRow X g k n := by
  obtain ⟨ys, h1, h2⟩ := h
  exact ⟨ys, h1, fun i hi => by rw [← e i hi]; exact h2 i hi⟩
end
/-- The whole block of an owned row. -/
theorem owns_wh {w : World} {base : Nat} {e : TypeId} {size : Nat} {n g cap : Nat} {xs : List Value} (h : w.ownsRow base e size (.slice (some ⟨g, 0, none⟩) n cap) n xs) (hn : 0 < n) : ∃ ys : List Value, RowIs w g e ys ∧ ∀ (i : Nat) (u : Value), xs[i]? = some u → ys[i]? = some u := by
  obtain ⟨h1, h2⟩ := h
  rcases h2 with ⟨_, h2⟩ | ⟨g', cap', cur, hv, hg, hh, hc, hm, hs, ht⟩
  · omega
  · simp only [Value.slice.injEq, Option.some.injEq, Addr.mk.injEq, and_true, true_and] at hv
    obtain ⟨rfl, rfl⟩ := hv
    refine ⟨cur.toList, by unfold RowIs; rw [hh], fun i u hu => ?_⟩
    rw [← ht, List.getElem?_take] at hu
    split at hu
    · exact hu
    · cases hu
theorem owns_not {w : World} {base g : Nat} {e e' : TypeId} {sz n : Nat} {v : Value} {xs ys : List Value} (h : w.ownsRow base e sz v n xs) (k : RowIs w g e' ys) (hne : e ≠ e') : some g ≠ v.ownBlock := by
  intro e2
  rcases h.2 with ⟨q, -⟩ | ⟨g1, cap1, cur1, rfl, -, hg1, -⟩
  · rw [q] at e2; cases e2
  simp only [Value.ownBlock, Option.some.injEq] at e2
  subst e2
  unfold RowIs at k
  rw [k] at hg1
  simp only [Option.some.injEq, Obj.cells.injEq] at hg1
  exact hne hg1.2.1.symm
theorem irow_of {w : World} {base g n cap : Nat} {f : Nat → Int} (h : w.ownsRow base 3 1 (.slice (some ⟨g, 0, none⟩) n cap) n (iv f n)) (hn : 0 < n) : IRow w g f n := by
  obtain ⟨ys, h1, h2⟩ := owns_wh h hn
  exact ⟨ys, h1, fun i hi => h2 i _ (iv_get f hi)⟩
def rdI (X : World) (g : Nat) (i : Nat) : Int := intOf ((X.cell? ⟨g, i, none⟩).getD (.int .i64 0))
theorem IRow.rd {X : World} {g n : Nat} {f : Nat → Int} (h : IRow X g f n) : negs n (rdI X g) = negs n f := negs_congr fun i hi => by
  unfold rdI
  rw [h.cell hi]; rfl
/-- While there is more. -/
def moreM (n g : Nat) (b : Value) (X : World) : Nat := match b with
  | .bool true => negs n (rdI X g) + 1
  | _ => 0
theorem adj_corner {T : List Tr} {c x : Nat} (h : opp T (c : Nat) = (x : Int)) : Adj T (c / 3) (x / 3) := by
  have e : (3 : Int) * ((c / 3 : Nat) : Int) + ((c % 3 : Nat) : Int) = (c : Int) := by omega
  exact ⟨c % 3, by omega, by rw [e, h]; omega, by rw [e, h]; simp⟩
theorem corner_adj {T : List Tr} {i j : Nat} (h : Adj T i j) : ∃ c x : Nat, c / 3 = i ∧ x / 3 = j ∧ c < 3 * i + 3 ∧ opp T (c : Nat) = (x : Int) := by
  obtain ⟨k, hk, h1, h2⟩ := h
  refine ⟨3 * i + k, (opp T (3 * (i : Int) + k)).toNat, by omega, h2, by omega, ?_⟩
  rw [show ((3 * i + k : Nat) : Int) = 3 * (i : Int) + k by omega]
  omega
set_option maxRecDepth 100000 in
set_option maxHeartbeats 4000000 in
theorem shells10 (N : Int) (ao : Option Addr) (cap : Nat) (T : List Tr) (L : Nat → Int) (m : Nat) (w : World) (hT : TrisAt w ao T) (hs : Surf N T) (hL : IsShells (Adj T) T.length L) (hm : (m : Int) = cnt L T.length) :
    Calls Tryz.prog 35 #[.agg #[.int .i64 N, .slice ao T.length cap]] w fun e w' => ∃ bo cap', e = .returned (.tuple #[.slice bo T.length cap', .int .i64 (m : Int)]) ∧ IntsAt w' bo (il L T.length) ∧ (0 < T.length → ∃ g, bo = some ⟨g, 0, none⟩ ∧ IRow w' g L T.length) ∧ Below w.heap.size w w' := by
  obtain ⟨i0, hi, hz0, hz1, hz2⟩ := info_parts info3
  have hl : T.length ≤ 8192 := by have := hs.t1; omega
  obtain ⟨W0, hW0⟩ : ∃ W0, W0 = w.alloc (.cells #[.int .i64 N, .slice ao T.length cap] 24) := ⟨_, rfl⟩
  have hb0 : Below w.heap.size w W0 := by rw [hW0]; exact (Below.refl _ _).alloc (Nat.le_refl _) _
  have hr0 : RowIs W0 w.heap.size 24 [.int .i64 N, .slice ao T.length cap] := by rw [hW0]; exact RowIs.made w 24 [.int .i64 N, .slice ao T.length cap]
  have HT := Lib.hid (hT.mono (Nat.le_refl _) hb0)
  have HO := Lib.hid (fun (X : World) (c : Nat) (h : TrisAt X ao T) (hc : c < 3 * T.length) => opp10 N ao cap T c X h hs hc)
  have HOL := Lib.hid (show ∀ c : Nat, c < 3 * T.length → opp T (c : Nat) < 3 * T.length from fun c hc => opp_lt (c : Int) (by omega) (by omega))
  have HSH := Lib.hid hL
  have HADJ := Lib.hid (show ∀ i j, Adj T i j → i < T.length ∧ j < T.length from fun i j h => ⟨(hs.adj_nb h).1, (hs.adj_nb h).2.1⟩)
  have HSYM := Lib.hid (show ∀ i j, Adj T i j → Adj T j i from fun i j h => hs.adj_symm h)
  have HCL := Lib.hid (show ∀ t, t ≤ T.length → 0 ≤ cnt L t ∧ cnt L t ≤ t from fun t ht => ⟨cnt_nonneg L t, by
    have hk : ∀ k, k ≤ T.length → cnt L k ≤ k := fun k => by
      induction k with
      | zero => intro _; exact Int.le_refl _
      | succ k ih =>
        intro hk
        have h1 := ih (by omega)
        have h2 := hL.le k (by omega)
        show max (cnt L k) (L k + 1) ≤ _
        omega
    exact hk t ht⟩)
  have HM := Lib.hid hm
  obtain ⟨len, hlen⟩ : ∃ n, n = T.length := ⟨_, rfl⟩
  obtain ⟨l3, hl3⟩ : ∃ x, x = 3 * len := ⟨_, rfl⟩
  simp only [← hlen] at hl hW0 hr0 HO HOL HSH HADJ HCL HM ⊢
  have h3 : (3 : Int) * (len : Int) = (l3 : Int) := by omega
  have hl3' : l3 ≤ 30000 := by omega
  have HL := Lib.hid hlen
  have HL3 := Lib.hid hl3
  have HB0 := Lib.hid hb0
  have HR0 := Lib.hid hr0
  have HW0 := Lib.hid hW0
  obtain ⟨xb, hxb⟩ : ∃ x, x = w.heap.size := ⟨_, rfl⟩
  rw [← hxb] at HR0
  have HXB := Lib.hid hxb
  clear hT hb0 hr0 hlen hl3 hW0 hs hL hm hxb
  go_enter Tryz.func35, Tryz.ntmps35
  go_upto_region 1 with fail
  simp only [← HXB.out]
  rw [← HW0.out]
  go_wp2
  go_loopw [4, 5] (fun u i ws => ∃ k : Nat, k ≤ len ∧ i = .int .i64 k ∧ ws.ownsRow W0.heap.size 3 1 u k (iv (fun _ => -1) k) ∧ Below W0.heap.size W0 ws) (fun _ i _ => len - (intOf i).toNat)
  case atStart =>
    refine ⟨0, by omega, rfl, ?_, ?_⟩
    · first
      | exact World.ownsRow_nil _ _ _ _
      | exact RowIs.owns (RowIs.made W0 3 []) (Nat.le_refl _) (by simp) (by unfold maxLen; omega)
    · first
      | exact Below.refl _ _
      | exact (Below.refl _ _).alloc (Nat.le_refl _) _
  case round =>
  obtain ⟨k, hk, rfl, hown, hb⟩ := hrel
  obtain ⟨X, rfl⟩ : ∃ X : World, X = wr := ⟨_, rfl⟩
  have hbox := HR0.out.after hb
  have c0 := hbox.cell (i := 0) rfl
  have c1 := hbox.cell (i := 1) rfl
  have HOWN := Lib.hid hown
  have HB := Lib.hid hb
  clear hown hb hbox
  by_cases hkl : k < len
  case pos =>
    go_wp2_with (at_builtin; refine wpList_append_new _ rfl _ _ 45 rfl W0.heap.size 3 i0 _ 1 8 (by kernel_rfl) hi hz0 hz1 hz2 rfl (by decide) _ _ _ rfl HOWN.out _ _ _ rfl (by first | rfl | simp) rfl ?_ ?_ ?_ ?_ ?_)
    all_goals first | rfl | omega | (unfold maxLen; omega) | exact HB.out.size | skip
    · intro v' w5 hown5 hbel hgr
      have HW5 := Lib.hid hown5
      have HB5 := Lib.hid (hbel W0.heap.size _ (Nat.le_refl _) HB.out)
      clear hown5 hbel hgr c0 c1
      go_wp2
      go_roundw
      case rel => exact ⟨k + 1, by omega, by go_num, by
        have e : iv (fun _ => -1) (k + 1) = iv (fun _ => -1) k ++ [.int .i64 (-1)] := by simp [iv, List.range_succ]
        rw [e]
        exact HW5.out, HB5.out⟩
      case measure => simp [intOf]; omega
  case neg =>
  obtain rfl : k = len := by omega
  rcases Nat.eq_zero_or_pos k with h0 | hpos
  · -- no triangle
    subst h0
    obtain ⟨bo, cb, rfl⟩ := owns_slice HOWN.out
    have HM0 := Lib.hid (show (m : Int) = 0 from HM.out)
    obtain rfl : l3 = 0 := by omega
    go_wp2
    go_loopw [6, 7] (fun nn i ws => nn = .int .i64 0 ∧ i = .int .i64 0 ∧ ws = X) (fun _ _ _ => 0)
    case atStart => exact ⟨rfl, rfl, rfl⟩
    case round =>
    obtain ⟨rfl, rfl, rfl⟩ := hrel
    go_wp2
    exact bodyPost_ret (v := .tuple #[.slice bo 0 cb, .int .i64 0]) (by simp [results, Tryz.results35, go_sem]) rfl ⟨bo, cb, by rw [HM0.out], fun h => absurd rfl h, fun h => absurd h (Nat.lt_irrefl 0), below_more HB0.out HB.out HB0.out.size⟩
  · obtain ⟨g, cb, hu, hgb, -, -, -, -, -⟩ := owns_block HOWN.out hpos
    subst hu
    have HI := Lib.hid (irow_of HOWN.out hpos)
    have HGB := Lib.hid hgb
    clear hgb
    clear HOWN
    clear hpos hi hz0 hz1 hz2
    go_wp2
    clear c0 c1
    go_loopw [6, 7] (fun nn i ws => ∃ (t : Nat) (q : Int) (f : Nat → Int), t ≤ k ∧ i = .int .i64 t ∧ nn = .int .i64 q ∧ Hid (q = cnt L t ∧ IRow ws g f k ∧ (∀ i, i < k → f i = lab L (cnt L t) i)) ∧ Below W0.heap.size W0 ws) (fun _ i _ => k - (intOf i).toNat)
    case atStart => exact ⟨0, 0, _, by omega, rfl, rfl, ⟨rfl, HI.out, lab_zero HSH.out⟩, HB.out⟩
    case round =>
    clear HI HB
    obtain ⟨t, q, f, ht, rfl, rfl, HS, hb⟩ := hrel
    obtain ⟨X1, rfl⟩ : ∃ X : World, X = wr := ⟨_, rfl⟩
    have hbox := HR0.out.after hb
    have c0 := hbox.cell (i := 0) rfl
    have c1 := hbox.cell (i := 1) rfl
    have HB := Lib.hid hb
    clear hb hbox
    by_cases htl : t < k
    case neg =>
      obtain rfl : t = k := by omega
      have HF := Lib.hid (show q = (m : Int) ∧ IRow X1 g L t from ⟨by rw [HS.out.1, HM.out], HS.out.2.1.congr fun i hi => (HS.out.2.2 i hi).trans (lab_all i hi)⟩)
      go_wp2
      exact bodyPost_ret (v := .tuple #[.slice (some ⟨g, 0, none⟩) t cb, .int .i64 q]) (by simp [results, Tryz.results35, go_sem]) rfl ⟨_, cb, by rw [HF.out.1], HF.out.2.ints, fun _ => ⟨g, rfl, HF.out.2⟩, below_more HB0.out HB.out HB0.out.size⟩
    case pos =>
    have hq0 : 0 ≤ q ∧ q ≤ t := by rw [HS.out.1]; exact HCL.out t (by omega)
    have cy := HS.out.2.1.cell htl
    have fy := HS.out.2.1.free t
    obtain ⟨y, hy⟩ : ∃ y, y = f t := ⟨_, rfl⟩
    rw [← hy] at cy
    have ht0 : (0 : Int) ≤ (t : Int) := by omega
    have ht1 : (t : Int) < (k : Int) := by omega
    by_cases hy0 : 0 ≤ y
    · have d0 : decide (y ≥ 0) = true := by simpa using hy0
      have d0' : decide ((0 : Int) ≤ y) = true := by simpa using hy0
      have HN := Lib.hid (show q = cnt L (t + 1) ∧ IRow X1 g f k ∧ ∀ i, i < k → f i = lab L (cnt L (t + 1)) i from by
        have e := lab_skip HSH.out htl HS.out.2.2 (by rw [← hy]; exact hy0)
        exact ⟨by rw [e]; exact HS.out.1, HS.out.2.1, by rw [e]; exact HS.out.2.2⟩)
      clear hy hy0
      go_wp2
      go_roundw
      case rel => exact ⟨t + 1, q, f, by omega, by go_num, rfl, HN, HB.out⟩
      case measure => simp [intOf]; omega
    · have d0 : decide (y ≥ 0) = false := by simp; omega
      have d0' : decide ((0 : Int) ≤ y) = false := by simp; omega
      have HST := Lib.hid (Fill.start HSH.out htl HS.out.2.2 (by rw [← hy]; omega))
      have HR1 := Lib.hid (show IRow (X1.setCell ⟨g, t, none⟩ (.int .i64 q)) g (upd f t q) k ∧ Fill k L q t (upd f t q) ∧ L t = cnt L t ∧ q = cnt L t from ⟨HS.out.2.1.set t q, by have := HST.out.2; rw [← HS.out.1] at this; exact this, HST.out.1, HS.out.1⟩)
      have HB1 := Lib.hid (HB.out.setCell (p := ⟨g, t, none⟩) HGB.out (.int .i64 q))
      clear hy hy0 HST HS
      go_wp2
      clear c0 c1 cy fy
      go_loopw [8] (fun b ws => ∃ (mo : Bool) (f : Nat → Int), b = .bool mo ∧ Hid (IRow ws g f k ∧ Fill k L q t f ∧ (mo = false → ∀ c x : Nat, c < l3 → opp T (c : Nat) = (x : Int) → f (c / 3) = q → 0 ≤ f (x / 3))) ∧ Below W0.heap.size W0 ws) (fun b ws => moreM k g b ws)
      case atStart => exact ⟨true, _, rfl, ⟨HR1.out.1, HR1.out.2.1, fun h => by cases h⟩, HB1.out⟩
      case round =>
      have HQ := Lib.hid HR1.out.2.2
      clear HR1 HB1 HB
      obtain ⟨mo, f0, rfl, HS, hb⟩ := hrel
      obtain ⟨X2, rfl⟩ : ∃ X : World, X = wr := ⟨_, rfl⟩
      have HB := Lib.hid hb
      clear hb
      cases mo
      case false =>
        have HN := Lib.hid (show q + 1 = cnt L (t + 1) ∧ IRow X2 g f0 k ∧ ∀ i, i < k → f0 i = lab L (cnt L (t + 1)) i from by
          refine ⟨by rw [fill_cnt HQ.out.1, HQ.out.2], HS.out.1, ?_⟩
          refine Fill.done HSH.out HADJ.out HSYM.out htl HQ.out.1 (by rw [← HQ.out.2]; exact HS.out.2.1) fun i j ha hf => ?_
          obtain ⟨c, x, rfl, rfl, hc3, ho⟩ := corner_adj ha
          have := (HADJ.out _ _ ha).1
          exact HS.out.2.2 rfl c x (by omega) ho (by rw [HQ.out.2]; exact hf))
        go_wp2
        go_roundw
        case rel => exact ⟨t + 1, q + 1, f0, by omega, by go_num, rfl, HN, HB.out⟩
        case measure => simp [intOf]; omega
      case true =>
      go_wp2
      go_loopw [8, 9] (fun b i ws => ∃ (mo : Bool) (c : Nat) (f : Nat → Int), b = .bool mo ∧ i = .int .i64 c ∧ c ≤ l3 ∧ Hid (IRow ws g f k ∧ Fill k L q t f ∧ negs k f ≤ negs k f0 ∧ (mo = true → negs k f < negs k f0) ∧ (mo = false → ∀ d x : Nat, d < c → opp T (d : Nat) = (x : Int) → f (d / 3) = q → 0 ≤ f (x / 3))) ∧ Below W0.heap.size W0 ws) (fun _ i _ => l3 - (intOf i).toNat)
      case atStart => exact ⟨false, 0, f0, rfl, rfl, by omega, ⟨HS.out.1, HS.out.2.1, Nat.le_refl _, fun h => (by cases h), fun _ d x h => (by omega)⟩, HB.out⟩
      case round =>
      have HRD := Lib.hid HS.out.1.rd
      clear HS HB
      obtain ⟨mo, c, f, rfl, rfl, hc, HS, hb⟩ := hrel
      obtain ⟨X3, rfl⟩ : ∃ X : World, X = wr := ⟨_, rfl⟩
      have hbox := HR0.out.after hb
      have c0 := hbox.cell (i := 0) rfl
      have c1 := hbox.cell (i := 1) rfl
      have HB := Lib.hid hb
      clear hb hbox
      by_cases hcl : c < l3
      case neg =>
        obtain rfl : c = l3 := by omega
        have HN := Lib.hid (show IRow X3 g f k ∧ Fill k L q t f ∧ (mo = false → ∀ c' x : Nat, c' < c → opp T (c' : Nat) = (x : Int) → f (c' / 3) = q → 0 ≤ f (x / 3)) from ⟨HS.out.1, HS.out.2.1, HS.out.2.2.2.2⟩)
        have HME := Lib.hid (show moreM k g (.bool mo) X3 < moreM k g (.bool true) X2 from by
          cases mo
          · show 0 < negs _ _ + 1; omega
          · show negs _ _ + 1 < negs _ _ + 1
            rw [HRD.out, HS.out.1.rd]
            have := HS.out.2.2.2.1 rfl
            omega)
        go_wp2
        go_roundw
        case rel => exact ⟨mo, f, rfl, HN, HB.out⟩
        case measure => exact HME.out
      case pos =>
      have HOC := Lib.hid (HO.out X3 c (HT.out.mono (Nat.le_refl _) HB.out) (by have := HL3.out; omega))
      obtain ⟨o, ho⟩ : ∃ o, o = opp T (c : Nat) := ⟨_, rfl⟩
      have hol : o < (l3 : Int) := by rw [ho]; have := HOL.out c (by have := HL3.out; omega); have := HL3.out; omega
      rw [← ho] at HOC
      have HOE := Lib.hid ho
      obtain ⟨c3, hc3⟩ : ∃ x, x = c / 3 := ⟨_, rfl⟩
      have hq3 : (c : Int) / 3 = (c3 : Int) := by omega
      have hc30 : (0 : Int) ≤ (c3 : Int) := by omega
      have hc3k : c3 < k := by omega
      have hc31 : (c3 : Int) < (k : Int) := by omega
      have HC3 := Lib.hid hc3
      clear ho hc3
      go_wp2_with fail
      refine HOC.out.mono ?_
      rintro e X4 ⟨rfl, hb4⟩
      have hI4 := HS.out.1.after hb4
      have HB4 := Lib.hid (below_more HB.out hb4 HB.out.size)
      have HI4 := Lib.hid hI4
      have cy := hI4.cell hc3k
      obtain ⟨y, hy⟩ : ∃ y, y = f c3 := ⟨_, rfl⟩
      rw [← hy] at cy
      clear c0 c1 hb4 HOC HB
      have HNO := Lib.hid (show (y = q → ∀ x : Nat, o = (x : Int) → 0 ≤ f (x / 3)) → (mo = false → ∀ d x : Nat, d < c + 1 → opp T (d : Nat) = (x : Int) → f (d / 3) = q → 0 ≤ f (x / 3)) from fun h hm d x hd hx hf => by
        by_cases e : d = c
        · subst e
          rw [← HC3.out, ← hy] at hf
          exact h hf x (by rw [HOE.out]; exact hx)
        · exact HS.out.2.2.2.2 hm d x (by omega) hx hf)
      by_cases h1 : y = q
      case neg =>
        have d0 : (y == q) = false := by simpa using h1
        have HN := Lib.hid (show IRow X4 g f k ∧ Fill k L q t f ∧ negs k f ≤ negs k f0 ∧ (mo = true → negs k f < negs k f0) ∧ (mo = false → ∀ d x : Nat, d < c + 1 → opp T (d : Nat) = (x : Int) → f (d / 3) = q → 0 ≤ f (x / 3)) from ⟨HI4.out, HS.out.2.1, HS.out.2.2.1, HS.out.2.2.2.1, HNO.out fun h => absurd h h1⟩)
        clear h1 hy hI4
        go_wp2
        go_roundw
        case rel => exact ⟨mo, c + 1, f, rfl, by go_num, by omega, HN, HB4.out⟩
        case measure => simp [intOf]; omega
      case pos =>
      have d0 : (y == q) = true := by simpa using h1
      by_cases h2 : 0 ≤ o
      case neg =>
        have d1 : decide (o ≥ 0) = false := by simp; omega
        have d1' : decide ((0 : Int) ≤ o) = false := by simp; omega
        have HN := Lib.hid (show IRow X4 g f k ∧ Fill k L q t f ∧ negs k f ≤ negs k f0 ∧ (mo = true → negs k f < negs k f0) ∧ (mo = false → ∀ d x : Nat, d < c + 1 → opp T (d : Nat) = (x : Int) → f (d / 3) = q → 0 ≤ f (x / 3)) from ⟨HI4.out, HS.out.2.1, HS.out.2.2.1, HS.out.2.2.2.1, HNO.out fun _ x hx => by omega⟩)
        clear h1 h2 hy hI4
        go_wp2
        go_roundw
        case rel => exact ⟨mo, c + 1, f, rfl, by go_num, by omega, HN, HB4.out⟩
        case measure => simp [intOf]; omega
      case pos =>
      obtain ⟨x, rfl⟩ := Int.eq_ofNat_of_zero_le h2
      have d1 : decide ((x : Int) ≥ 0) = true := by simp
      have d1' : decide ((0 : Int) ≤ (x : Int)) = true := by simp
      obtain ⟨x3, hx3⟩ : ∃ x3, x3 = x / 3 := ⟨_, rfl⟩
      have hx3q : (x : Int) / 3 = (x3 : Int) := by omega
      have hx30 : (0 : Int) ≤ (x3 : Int) := by omega
      have hx3k : x3 < k := by omega
      have hx31 : (x3 : Int) < (k : Int) := by omega
      have cz := hI4.cell hx3k
      have fz := hI4.free x3
      obtain ⟨z, hz⟩ : ∃ z, z = f x3 := ⟨_, rfl⟩
      rw [← hz] at cz
      by_cases h3z : z < 0
      case neg =>
        have d2 : decide (z < 0) = false := by simp; omega
        have HN := Lib.hid (show IRow X4 g f k ∧ Fill k L q t f ∧ negs k f ≤ negs k f0 ∧ (mo = true → negs k f < negs k f0) ∧ (mo = false → ∀ d x : Nat, d < c + 1 → opp T (d : Nat) = (x : Int) → f (d / 3) = q → 0 ≤ f (x / 3)) from ⟨HI4.out, HS.out.2.1, HS.out.2.2.1, HS.out.2.2.2.1, HNO.out fun _ x' hx' => by
          obtain rfl : x = x' := by omega
          rw [← hx3, ← hz]; omega⟩)
        clear h1 h2 hy hI4 hz h3z hx3
        go_wp2
        go_roundw
        case rel => exact ⟨mo, c + 1, f, rfl, by go_num, by omega, HN, HB4.out⟩
        case measure => simp [intOf]; omega
      case pos =>
      have d2 : decide (z < 0) = true := by simpa using h3z
      have HN := Lib.hid (show IRow (X4.setCell ⟨g, x3, none⟩ (.int .i64 q)) g (upd f x3 q) k ∧ Fill k L q t (upd f x3 q) ∧ negs k (upd f x3 q) < negs k f0 from by
        have hlt := negs_upd (m := q) hx3k (show f x3 < 0 from by rw [← hz]; exact h3z) hq0.1
        have hle := HS.out.2.2.1
        refine ⟨HI4.out.set x3 q, ?_, by omega⟩
        refine HS.out.2.1.grow HSH.out hq0.1 hc3k hx3k ?_ (by rw [← hy]; exact h1)
        rw [HC3.out, hx3]
        exact adj_corner HOE.out.symm)
      have HB5 := Lib.hid (HB4.out.setCell (p := ⟨g, x3, none⟩) HGB.out (.int .i64 q))
      clear h1 h2 hy hI4 hz h3z hx3
      go_wp2
      go_roundw
      case rel => exact ⟨true, c + 1, _, rfl, by go_num, by omega, ⟨HN.out.1, HN.out.2.1, Nat.le_of_lt HN.out.2.2, fun _ => HN.out.2.2, fun h => (by cases h)⟩, HB5.out⟩
      case measure => simp [intOf]; omega
end Go.Proofs.YtbeefabboabfgaaGreat

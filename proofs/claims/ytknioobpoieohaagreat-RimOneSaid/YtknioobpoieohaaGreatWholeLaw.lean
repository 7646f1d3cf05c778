/- All bays together: how often a vertex comes, how many triangles there are. Plain. For RimWhole: the rim's places, a bay's triangles and vertices by their numbers. Plain. Two triangles, two points compared. -/
import Derived.Test.YtknioobpoieohaaGreatBaySurf
import Derived.Test.YtknioobpoieohaaGreatValuesLaw
import Derived.ChangeKeysEq
import Derived.Laws.StructEq
namespace Go.Proofs.YtknioobpoieohaaGreat
set_option linter.unusedVariables false
set_option linter.unusedSimpArgs false
open Go.RowKit
theorem sadj_of {N : Int} {T : List Tr} (hs : Surf N T) {bay : Nat → Int} {x y : Nat} (hx : x < 3 * T.length) (hy : y < 3 * T.length) (hb : bay (y / 3) = bay (x / 3)) (h1 : vt T (x : Nat) = vt T (y : Nat)) (h2 : vt T (nxn x : Nat) = vt T (pvn y : Nat)) : SAdj T bay x y := by
  have he : edgeAt T ((nxn y : Nat) : Int) = (vt T (nxn x : Nat), vt T (x : Nat)) := by
    rw [edgeAt_nat, show nxn (nxn y) = pvn y by unfold nxn pvn; omega, pvn_nxn, h1, h2]
  have ho : opp T ((pvn x : Nat) : Int) = facing T (vt T (nxn x : Nat), vt T (x : Nat)) := by
    rw [opp_nat, nxn_pvn, show pvn (pvn x) = nxn x by unfold nxn pvn; omega]
  obtain ⟨o, e1, o1, e2⟩ := facing_some (facing_of (nxn_lt hy) he)
  have : o = nxn y := hs.edge_c o1 (nxn_lt hy) (e2.trans he.symm)
  subst this
  exact ⟨hx, hy, hb, nxn y, .inr ⟨by rw [ho]; exact e1, (pvn_nxn y).symm⟩⟩
theorem padj_side {N : Int} {T : List Tr} (hs : Surf N T) {bay : Nat → Int} {v : Int} {x y : Nat} (hx : x < 3 * T.length) (hy : y < 3 * T.length) (hb : bay (y / 3) = bay (x / 3)) (ex : vt T (x : Nat) = v) (ey : vt T (y : Nat) = v) (h : PAdj T v (x / 3) (y / 3)) : Conn (SAdj T bay) x y := by
  obtain ⟨hi, hk, -, -, j, hj, hne, h3⟩ := h
  obtain ⟨j', hj', e3⟩ := hasB_iff.1 h3
  have h1 : vt T (x : Nat) = tg (T! T (x / 3)) (x % 3) := vt_nat T x
  have h2 : vt T (y : Nat) = tg (T! T (y / 3)) (y % 3) := vt_nat T y
  have n1 : vt T (nxn x : Nat) = tg (T! T (x / 3)) ((x + 1) % 3) := by rw [vt_nat, nxn_div, show nxn x % 3 = (x + 1) % 3 by unfold nxn; omega]
  have p1 : vt T (pvn x : Nat) = tg (T! T (x / 3)) ((x + 2) % 3) := by rw [vt_nat, pvn_div, show pvn x % 3 = (x + 2) % 3 by unfold pvn; omega]
  have n2 : vt T (nxn y : Nat) = tg (T! T (y / 3)) ((y + 1) % 3) := by rw [vt_nat, nxn_div, show nxn y % 3 = (y + 1) % 3 by unfold nxn; omega]
  have p2 : vt T (pvn y : Nat) = tg (T! T (y / 3)) ((y + 2) % 3) := by rw [vt_nat, pvn_div, show pvn y % 3 = (y + 2) % 3 by unfold pvn; omega]
  have hpj : x % 3 ≠ j := fun e => hne (by rw [← e, ← h1]; exact ex)
  have hpj' : y % 3 ≠ j' := fun e => hne (by rw [← e3, ← e, ← h2]; exact ey)
  have hxy : vt T (x : Nat) = vt T (y : Nat) := ex.trans ey.symm
  rcases (show j = (x + 1) % 3 ∨ j = (x + 2) % 3 by omega) with hd | hd <;> rcases (show j' = (y + 1) % 3 ∨ j' = (y + 2) % 3 by omega) with hd' | hd'
  · have := hs.edge_one (i := x / 3) (i' := y / 3) (p := x % 3) (q := y % 3) (by omega) (by omega) (by omega) (by omega) (by rw [← h1, ← h2]; exact hxy) (by
      rw [show (x % 3 + 1) % 3 = j by omega, show (y % 3 + 1) % 3 = j' by omega]; exact e3.symm)
    have e : x = y := by omega
    subst e; exact .refl _
  · exact (Conn.refl x).step (sadj_of hs hx hy hb hxy (by rw [n1, p2, ← hd, ← hd']; exact e3.symm))
  · exact (Conn.refl x).step (hs.sadj_symm (sadj_of hs hy hx hb.symm hxy.symm (by rw [p1, n2, ← hd, ← hd']; exact e3)))
  · have := hs.edge_one (i := x / 3) (i' := y / 3) (p := (x + 2) % 3) (q := (y + 2) % 3) (by omega) (by omega) (by omega) (by omega) (by rw [← hd, ← hd']; exact e3.symm) (by
      rw [show ((x + 2) % 3 + 1) % 3 = x % 3 by omega, show ((y + 2) % 3 + 1) % 3 = y % 3 by omega, ← h1, ← h2]; exact hxy)
    have e : x = y := by omega
    subst e; exact .refl _
/-- Where all corners at a vertex are of one bay they are on one side. -/
theorem one_side {N : Int} {T : List Tr} (hs : Surf N T) {bays : List Int} {v : Int} (hm : manyB T bays v = false) {x y : Nat} (hx : x < 3 * T.length) (hy : y < 3 * T.length) (ex : vt T (x : Nat) = v) (ey : vt T (y : Nat) = v) : Conn (SAdj T (I! bays)) x y := by
  have hb : ∀ {x y : Nat}, x < 3 * T.length → y < 3 * T.length → vt T (x : Nat) = v → vt T (y : Nat) = v → I! bays (y / 3) = I! bays (x / 3) := fun {x y} hx hy ex ey => by
    by_cases e : I! bays (y / 3) = I! bays (x / 3)
    · exact e
    · have := manyB_iff.2 ⟨y, x, hy, hx, ey, ex, e⟩
      rw [hm] at this
      cases this
  have hv := hs.vin (x / 3) (by omega) (x % 3)
  rw [← vt_nat, ex] at hv
  have hc := hs.pin v hv.1 hv.2 (x / 3) (y / 3) (by omega) (by omega) (ex ▸ hasB_vt) (ey ▸ hasB_vt)
  have gen : ∀ i k, Conn (PAdj T v) i k → ∀ x y : Nat, x < 3 * T.length → y < 3 * T.length → vt T (x : Nat) = v → vt T (y : Nat) = v → x / 3 = i → y / 3 = k → Conn (SAdj T (I! bays)) x y := by
    intro i k c
    have mid : ∀ {a b}, PAdj T v a b → ∃ z : Nat, z < 3 * T.length ∧ vt T (z : Nat) = v ∧ z / 3 = a := fun {a b} h => by
      obtain ⟨p, hp, e⟩ := hasB_iff.1 h.2.2.1
      exact ⟨3 * a + p, by have := h.1; omega, by rw [vt3 T a hp]; exact e, by omega⟩
    induction c with
    | refl =>
      intro x y hx hy ex ey e1 e2
      have : x = y := by
        rw [vt_nat] at ex ey
        rw [show y / 3 = x / 3 by omega] at ey
        have := tg_inj (hs.noloop (x / 3) (by omega)) (by omega) (by omega) (ex.trans ey.symm)
        omega
      subst this; exact .refl _
    | @step j k _ h ih =>
      intro x y hx hy ex ey e1 e2
      obtain ⟨z, hz, ez, e3⟩ := mid h
      exact (ih x z hx hz ex ez e1 e3).trans (padj_side hs hz hy (hb hz hy ez ey) ez ey (by rw [e3, e2]; exact h))
    | @back j k _ h ih =>
      intro x y hx hy ex ey e1 e2
      obtain ⟨p, hp, e⟩ := hasB_iff.1 h.2.2.2.1
      have hz : 3 * j + p < 3 * T.length := by have := h.2.1; omega
      have ez : vt T ((3 * j + p : Nat) : Int) = v := by rw [vt3 T j hp]; exact e
      refine (ih x (3 * j + p) hx hz ex ez e1 (by omega)).trans (Conn.symm (padj_side hs hy hz (hb hy hz ey ez) ey ez (by rw [e2, show (3 * j + p) / 3 = j by omega]; exact h)))
  exact gen _ _ hc x y hx hy ex ey rfl rfl
/-- The least of its side. -/
def Rep (T : List Tr) (bays : List Int) (c : Nat) : Prop := ∀ d, d < 3 * T.length → Conn (SAdj T (I! bays)) d c → c ≤ d
theorem rep_iff {T : List Tr} {bays : List Int} {L : Nat → Int} (h : IsLeast (SAdj T (I! bays)) (3 * T.length) L) {c : Nat} (hc : c < 3 * T.length) : L c = c ↔ Rep T bays c := by
  constructor
  · intro e d hd hcn
    have := (h.iff sadj_in hd hc).2 hcn
    have := h.le d hd
    omega
  · intro hr
    have h1 := h.top sadj_in hc
    have h2 := hr _ h1.1 (h.con c hc)
    have := h.le c hc
    have := h.nonneg c hc
    omega
open Classical in
/-- How often a vertex comes in the bays below k. -/
noncomputable def cntV (T : List Tr) (bays : List Int) (k : Nat) (v : Int) : Nat := (List.range (3 * T.length)).countP fun c => decide (I! bays (c / 3) < k ∧ Rep T bays c ∧ vt T (c : Nat) = v)
theorem countP_add {α : Type} (p q r : α → Bool) (l : List α) (h : ∀ x, x ∈ l → (r x = true ↔ p x = true ∨ q x = true) ∧ ¬ (p x = true ∧ q x = true)) : l.countP r = l.countP p + l.countP q := by
  induction l with
  | nil => rfl
  | cons a t ih =>
    have := ih fun x hx => h x (List.mem_cons_of_mem _ hx)
    have ha := h a (List.mem_cons_self)
    rw [List.countP_cons, List.countP_cons, List.countP_cons, this]
    cases hp : p a <;> cases hq : q a <;> cases hr : r a <;> simp [hp, hq, hr] at ha ⊢ <;> omega
theorem cntV_cut {T : List Tr} {bays : List Int} {k : Nat} {L : Nat → Int} {F : List Nat} (h : CutIs T bays k L F) (hok : BaysOK T.length bays) (v : Int) : cntV T bays (k + 1) v = cntV T bays k v + (cutV T F).countP (fun x => x == v) := by
  have e1 : (cutV T F).countP (fun x => x == v) = (List.range (3 * T.length)).countP fun c => decide (I! bays (c / 3) = k ∧ L c = c) && (vtx T c == v) := by
    unfold cutV
    rw [List.countP_map, h.perm.countP_eq]
    unfold reps
    rw [List.countP_filter]
    refine List.countP_congr fun c _ => ?_
    simp only [Function.comp, Bool.and_comm]
  rw [e1]
  unfold cntV
  refine countP_add _ _ _ _ fun c hc => ?_
  have hc' := List.mem_range.1 hc
  have hv : vtx T c = vt T (c : Nat) := by unfold vtx; rw [if_pos hc']
  have hr := rep_iff h.least hc'
  simp only [decide_eq_true_eq, Bool.and_eq_true, beq_iff_eq, hv]
  constructor
  · constructor
    · rintro ⟨a, b, c1⟩
      by_cases e : I! bays (c / 3) = k
      · exact .inr ⟨⟨e, hr.2 b⟩, c1⟩
      · exact .inl ⟨by omega, b, c1⟩
    · rintro (⟨a, b, c1⟩ | ⟨⟨a, b⟩, c1⟩)
      · exact ⟨by omega, b, c1⟩
      · exact ⟨by omega, hr.1 b, c1⟩
  · rintro ⟨⟨a, -⟩, ⟨b, -⟩, -⟩
    omega
theorem cntV_none {T : List Tr} {bays : List Int} {k : Nat} (h : (k : Int) ∉ bays) (hok : BaysOK T.length bays) (v : Int) : cntV T bays (k + 1) v = cntV T bays k v := by
  unfold cntV
  refine List.countP_congr fun c hc => ?_
  have hc' := List.mem_range.1 hc
  have : I! bays (c / 3) ≠ k := fun e => h (by
    have hl : c / 3 < bays.length := by rw [hok.1]; omega
    rw [← e]; unfold I!
    rw [List.getD_eq_getElem?_getD, List.getElem?_eq_getElem hl]
    exact List.getElem_mem hl)
  simp only [decide_eq_true_eq]
  constructor
  · rintro ⟨a, b⟩; exact ⟨by omega, b⟩
  · rintro ⟨a, b⟩; exact ⟨by omega, b⟩
theorem cntV_zero {T : List Tr} {bays : List Int} (hok : BaysOK T.length bays) (v : Int) : cntV T bays 0 v = 0 := by
  unfold cntV
  rw [List.countP_eq_zero]
  intro c hc
  have hc' := List.mem_range.1 hc
  simp only [decide_eq_true_eq]
  rintro ⟨a, -⟩
  have hl : c / 3 < bays.length := by rw [hok.1]; omega
  have : I! bays (c / 3) ∈ bays := by
    unfold I!
    rw [List.getD_eq_getElem?_getD, List.getElem?_eq_getElem hl]
    exact List.getElem_mem hl
  have := (hok.2 _ this).1
  omega
theorem countP_two {α : Type} [DecidableEq α] (p : α → Bool) (l : List α) {a b : α} (ha : a ∈ l) (hb : b ∈ l) (hne : a ≠ b) (pa : p a = true) (pb : p b = true) : 2 ≤ l.countP p := by
  induction l with
  | nil => cases ha
  | cons x t ih =>
    rw [List.countP_cons]
    by_cases e1 : a = x
    · subst e1
      have hb' : b ∈ t := by
        rcases List.mem_cons.1 hb with rfl | h
        · exact absurd rfl hne
        · exact h
      have := List.countP_pos_iff.2 ⟨b, hb', pb⟩
      rw [if_pos pa]; omega
    · have ha' : a ∈ t := by
        rcases List.mem_cons.1 ha with rfl | h
        · exact absurd rfl e1
        · exact h
      by_cases e2 : b = x
      · subst e2
        have := List.countP_pos_iff.2 ⟨a, ha', pa⟩
        rw [if_pos pb]; omega
      · have hb' : b ∈ t := by
          rcases List.mem_cons.1 hb with rfl | h
          · exact absurd rfl e2
          · exact h
        have := ih ha' hb'
        omega
theorem countP_one {α : Type} [DecidableEq α] (p : α → Bool) (l : List α) (hn : l.Nodup) {a : α} (ha : a ∈ l) (pa : p a = true) (h : ∀ b, b ∈ l → p b = true → b = a) : l.countP p = 1 := by
  induction l with
  | nil => cases ha
  | cons x t ih =>
    rw [List.countP_cons]
    have hx := (List.nodup_cons.1 hn).1
    rcases List.mem_cons.1 ha with rfl | ha'
    · rw [if_pos pa, List.countP_eq_zero.2 fun b hb pb => hx (h b (List.mem_cons_of_mem _ hb) pb ▸ hb)]
    · have : ¬ p x = true := fun px => hx (h x List.mem_cons_self px ▸ ha')
      rw [if_neg this, ih (List.nodup_cons.1 hn).2 ha' fun b hb => h b (List.mem_cons_of_mem _ hb)]
theorem rep_ex {T : List Tr} {bays : List Int} {c : Nat} (hc : c < 3 * T.length) : ∃ r, r < 3 * T.length ∧ Rep T bays r ∧ Conn (SAdj T (I! bays)) r c := by
  have key : ∀ m : Nat, ∀ c, c < 3 * T.length → c ≤ m → ∃ r, r < 3 * T.length ∧ Rep T bays r ∧ Conn (SAdj T (I! bays)) r c := by
    intro m
    induction m with
    | zero =>
      intro c hc hm
      exact ⟨c, hc, fun d _ _ => by omega, .refl _⟩
    | succ m ih =>
      intro c hc hm
      by_cases hr : Rep T bays c
      · exact ⟨c, hc, hr, .refl _⟩
      · unfold Rep at hr
        simp only [Classical.not_forall] at hr
        obtain ⟨d, hd, hcn, hlt⟩ := hr
        obtain ⟨r, h1, h2, h3⟩ := ih d hd (by omega)
        exact ⟨r, h1, h2, h3.trans hcn⟩
  exact key c c hc (Nat.le_refl _)
/-- On the rim: in two bays or more; else once. -/
theorem cntV_all {n : Nat} {T : List Tr} {bays : List Int} (hs : Surf n T) (hok : BaysOK T.length bays) {v : Nat} (hv : v < n) : (manyB T bays v = true → 2 ≤ cntV T bays 256 v) ∧ (manyB T bays v = false → cntV T bays 256 v = 1) := by
  have low : ∀ c, c < 3 * T.length → I! bays (c / 3) < 256 := fun c hc => by
    have hl : c / 3 < bays.length := by rw [hok.1]; omega
    have : I! bays (c / 3) ∈ bays := by
      unfold I!
      rw [List.getD_eq_getElem?_getD, List.getElem?_eq_getElem hl]
      exact List.getElem_mem hl
    exact (hok.2 _ this).2
  constructor
  · intro h
    obtain ⟨c, d, hc, hd, ec, ed, hne⟩ := manyB_iff.1 h
    obtain ⟨r, r1, r2, r3⟩ := rep_ex (T := T) (bays := bays) hc
    obtain ⟨s, s1, s2, s3⟩ := rep_ex (T := T) (bays := bays) hd
    unfold cntV
    refine countP_two _ _ (List.mem_range.2 r1) (List.mem_range.2 s1) (fun e => ?_) ?_ ?_
    · subst e
      exact hne ((side_bay r3).trans (side_bay s3).symm)
    · simp only [decide_eq_true_eq]
      exact ⟨low r r1, r2, (hs.side_vt r3).symm.trans ec⟩
    · simp only [decide_eq_true_eq]
      exact ⟨low s s1, s2, (hs.side_vt s3).symm.trans ed⟩
  · intro h
    obtain ⟨i, hi, hb⟩ := hs.used v (by omega) (by omega)
    obtain ⟨p, hp, e⟩ := hasB_iff.1 hb
    obtain ⟨r, r1, r2, r3⟩ := rep_ex (T := T) (bays := bays) (c := 3 * i + p) (by omega)
    have er : vt T (r : Nat) = v := (hs.side_vt r3).symm.trans ((vt3 T i hp).trans e)
    unfold cntV
    refine countP_one _ _ List.nodup_range (List.mem_range.2 r1) ?_ fun b hb' hbp => ?_
    · simp only [decide_eq_true_eq]
      exact ⟨low r r1, r2, er⟩
    · simp only [decide_eq_true_eq] at hbp
      have b1 := List.mem_range.1 hb'
      have c1 := one_side hs h b1 r1 hbp.2.2 er
      have := r2 b b1 c1
      have := hbp.2.1 r r1 c1.symm
      omega
/-- How many triangles are of bays below k. -/
def seenN (bays : List Int) (n k : Nat) : Nat := (List.range n).countP fun t => decide (I! bays t < k)
theorem seenN_succ (bays : List Int) (n k : Nat) : seenN bays n (k + 1) = seenN bays n k + (sel bays k n).length := by
  unfold seenN sel
  rw [← List.countP_eq_length_filter]
  refine countP_add _ _ _ _ fun t _ => ?_
  simp only [decide_eq_true_eq]
  omega
theorem I!_in {bays : List Int} {t : Nat} (h : t < bays.length) : I! bays t ∈ bays := by
  unfold I!
  rw [List.getD_eq_getElem?_getD, List.getElem?_eq_getElem h]
  exact List.getElem_mem h
theorem sel_none {bays : List Int} {k : Int} {n : Nat} (h : k ∉ bays) (hn : n ≤ bays.length) : sel bays k n = [] := by
  unfold sel
  rw [List.filter_eq_nil_iff]
  intro t ht
  have := List.mem_range.1 ht
  simp only [decide_eq_true_eq]
  exact fun e => h (e ▸ I!_in (by omega))
theorem seenN_zero {bays : List Int} {n : Nat} (hok : BaysOK n bays) : seenN bays n 0 = 0 := by
  unfold seenN
  rw [List.countP_eq_zero]
  intro t ht
  have := (hok.2 _ (I!_in (bays := bays) (t := t) (by have := List.mem_range.1 ht; rw [hok.1]; omega))).1
  simp only [decide_eq_true_eq]
  omega
theorem seenN_all {bays : List Int} {n : Nat} (hok : BaysOK n bays) : seenN bays n 256 = n := by
  unfold seenN
  rw [List.countP_eq_length.2, List.length_range]
  intro t ht
  have := (hok.2 _ (I!_in (bays := bays) (t := t) (by have := List.mem_range.1 ht; rw [hok.1]; omega))).2
  simp only [decide_eq_true_eq]
  omega
theorem rimL_mem {T : List Tr} {bays : List Int} {n v : Nat} : v ∈ rimL T bays n ↔ v < n ∧ manyB T bays v = true := by simp [rimL]
/-- Which are among the first i of a list. -/
def onN (R : List Nat) (i : Nat) (v : Nat) : Bool := decide (v ∈ R.take i)
theorem onN_zero (R : List Nat) : onN R 0 = fun _ => false := by funext v; simp [onN]
theorem onN_step {R : List Nat} {i r : Nat} (h : R[i]? = some r) : updB (onN R i) r true = onN R (i + 1) := by
  funext v
  unfold updB onN
  rw [List.take_add_one, h]
  by_cases e : v = r <;> simp [e]
theorem onN_all (R : List Nat) (v : Nat) : onN R R.length v = decide (v ∈ R) := by unfold onN; rw [List.take_length]
theorem idx_on {R : List Nat} {v : Nat} (h : v ∈ R) : ∃ k : Nat, Lib.idxOf (nl R) (v : Int) = k ∧ k < R.length ∧ R[k]? = some v := by
  have hk := List.idxOf_lt_length_iff.2 h
  have hget : R[R.idxOf v] = v := List.getElem_idxOf hk
  refine ⟨R.idxOf v, ?_, hk, by rw [List.getElem?_eq_getElem hk, hget]⟩
  have := Lib.idxOf_hit (nl R) R.length (R.idxOf v) (v : Int) hk (by simp [nl]) (by simp [nl, List.getD_eq_getElem?_getD, List.getElem?_eq_getElem hk]) fun j hj e => by
    have hj' : j < R.length := by omega
    have e' : R[j] = v := by
      simp only [nl, List.getD_eq_getElem?_getD, List.getElem?_map, List.getElem?_eq_getElem hj', Option.map_some, Option.getD_some] at e
      omega
    have := List.not_of_lt_findIdx (p := (· == v)) (xs := R) (i := j) hj
    simp [e'] at this
  rwa [show R.length = (nl R).length by simp [nl], List.take_length] at this
theorem idx_off {R : List Nat} {v : Nat} (h : v ∉ R) : Lib.idxOf (nl R) (v : Int) = -1 := by
  have := Lib.idxOf_miss (nl R) R.length (v : Int) fun j hj e => by
    simp only [nl, List.getD_eq_getElem?_getD, List.getElem?_map, List.getElem?_eq_getElem hj, Option.map_some, Option.getD_some] at e
    exact h (by
      have : R[j] = v := by omega
      rw [← this]; exact List.getElem_mem hj)
  rwa [show R.length = (nl R).length by simp [nl], List.take_length] at this
/-- How often a vertex came, in the bays ahead and in the first i of a bay's vertices. -/
noncomputable def cntI (T : List Tr) (bays : List Int) (k : Nat) (V : List Int) (i : Nat) (v : Nat) : Int := ((cntV T bays k v + (V.take i).countP (fun x => x == (v : Int)) : Nat) : Int)
theorem cntI_zero (T : List Tr) (bays : List Int) (k : Nat) (V : List Int) : cntI T bays k V 0 = fun (v : Nat) => (cntV T bays k v : Int) := by
  funext v; simp [cntI]
theorem cntI_step {T : List Tr} {bays : List Int} {k : Nat} {V : List Int} {i v : Nat} (hi : i < V.length) (h : I! V i = (v : Int)) : upd (cntI T bays k V i) v (cntI T bays k V i v + 1) = cntI T bays k V (i + 1) := by
  have hg : V[i]? = some (v : Int) := by rw [I!_get hi, h]
  funext x
  unfold upd cntI
  rw [List.take_add_one, hg, List.countP_append]
  by_cases e : x = v
  · subst e; simp; omega
  · rw [if_neg e]
    have : ¬ ((v : Int) = (x : Int)) := by omega
    simp [this]
theorem cntI_all {T : List Tr} {bays : List Int} {k : Nat} {L : Nat → Int} {F : List Nat} (h : CutIs T bays k L F) (hok : BaysOK T.length bays) {m : Nat} (hm : m = F.length) : cntI T bays k (cutV T F) m = fun (v : Nat) => (cntV T bays (k + 1) v : Int) := by
  funext v
  unfold cntI
  rw [List.take_of_length_le (by simp [cutV]; omega), cntV_cut h hok]
theorem cntV_le (T : List Tr) (bays : List Int) (k : Nat) (v : Int) : cntV T bays k v ≤ 3 * T.length := by
  unfold cntV
  exact Nat.le_trans List.countP_le_length (by simp)
theorem cntI_le (T : List Tr) (bays : List Int) (k : Nat) (V : List Int) (i v : Nat) : 0 ≤ cntI T bays k V i v ∧ cntI T bays k V i v ≤ 3 * T.length + V.length := by
  unfold cntI
  have h1 := List.countP_le_length (p := fun x => x == (v : Int)) (l := V.take i)
  have h2 : (V.take i).length ≤ V.length := by simp; omega
  have h3 := cntV_le T bays k v
  omega
theorem CutIs.back {n : Nat} {T : List Tr} {bays : List Int} {bay : Int} {L : Nat → Int} {F : List Nat} (hc : CutIs T bays bay L F) (hs : Surf n T) {t : Nat} (ht : t < T.length) (hb : I! bays t = bay) :
    ∃ u0 u1 u2 : Nat, cutTri L F t = ((u0 : Int), (u1 : Int), (u2 : Int)) ∧ u0 < F.length ∧ u1 < F.length ∧ u2 < F.length ∧ T! T t = (I! (cutV T F) u0, I! (cutV T F) u1, I! (cutV T F) u2) := by
  obtain ⟨u0, q0, h0, e0⟩ := hc.old hs (c := 3 * t + 0) (by omega) (by rw [show (3 * t + 0) / 3 = t by omega]; exact hb)
  obtain ⟨u1, q1, h1, e1⟩ := hc.old hs (c := 3 * t + 1) (by omega) (by rw [show (3 * t + 1) / 3 = t by omega]; exact hb)
  obtain ⟨u2, q2, h2, e2⟩ := hc.old hs (c := 3 * t + 2) (by omega) (by rw [show (3 * t + 2) / 3 = t by omega]; exact hb)
  rw [vt3 T t (by omega)] at e0 e1 e2
  refine ⟨u0, u1, u2, ?_, h0, h1, h2, ?_⟩
  · unfold cutTri
    rw [show 3 * t = 3 * t + 0 from rfl, q0, q1, q2]
  · rw [e0, e1, e2]; rfl
theorem CutIs.nth {n : Nat} {T P : List Tr} {bays : List Int} {bay : Int} {L : Nat → Int} {F : List Nat} (hc : CutIs T bays bay L F) (hs : Surf n T) {i : Nat} (hi : i < F.length) :
    ∃ v : Nat, v < n ∧ I! (cutV T F) i = v ∧ I! (cutR T bays n F) i = Lib.idxOf (nl (rimL T bays n)) (v : Int) ∧ T! (cutP P T F) i = T! P v := by
  have hm := hc.mem.1 (List.getElem_mem hi)
  have hv : vtx T F[i] = vt T ((F[i] : Nat) : Int) := by unfold vtx; rw [if_pos hm.1]
  have hin := hs.vin (F[i] / 3) (by omega) (F[i] % 3)
  rw [← vt_nat, ← hv] at hin
  obtain ⟨v, e⟩ := Int.eq_ofNat_of_zero_le hin.1
  refine ⟨v, by omega, ?_, ?_, ?_⟩
  · simp [I!, cutV, List.getD_eq_getElem?_getD, List.getElem?_eq_getElem hi, e]
  · simp [I!, cutR, List.getD_eq_getElem?_getD, List.getElem?_eq_getElem hi, e]
  · simp [T!, cutP, List.getD_eq_getElem?_getD, List.getElem?_eq_getElem hi, e]
theorem ptsL_get {n v : Nat} (h : v < n) : T! (ptsL n) v = ((v : Int), -(v : Int), 7) := by
  simp [T!, ptsL, List.getD_eq_getElem?_getD, h]
/-- All cells but a block's are the same. -/
def Off (g : Nat) (a b : World) : Prop := ∀ k j, k ≠ g → b.cell? ⟨k, j, none⟩ = a.cell? ⟨k, j, none⟩
theorem Off.refl (g : Nat) (a : World) : Off g a a := fun _ _ _ => rfl
theorem Off.set {g : Nat} {a b : World} (h : Off g a b) (i : Nat) (v : Value) : Off g a (b.setCell ⟨g, i, none⟩ v) := fun k j hk => by
  rw [← h k j hk]
  simp [World.cell?, World.setCell, Array.getElem?_modify, Ne.symm hk]
theorem Off.ints {g : Nat} {a b : World} (h : Off g a b) {bb off : Nat} {xs : List Int} (hne : bb ≠ g) (hc : ∀ i, i < xs.length → a.cell? ⟨bb, off + i, none⟩ = some (.int .i64 (I! xs i))) {i : Nat} (hi : i < xs.length) : b.cell? ⟨bb, off + i, none⟩ = some (.int .i64 (I! xs i)) := (h _ _ hne).trans (hc i hi)
theorem part_tri (a b c : Value) (w : World) : (part 3 #[a, b, c] 0).run Tryz.prog w = .ok a w ∧ (part 3 #[a, b, c] 1).run Tryz.prog w = .ok b w ∧ (part 3 #[a, b, c] 2).run Tryz.prog w = .ok c w := ⟨by kernel_rfl, by kernel_rfl, by kernel_rfl⟩
theorem tri_equal (x y z x' y' z' : Int) (w : World) :
    (Op.equalIn 10000 65 (.agg #[.int .i64 x, .int .i64 y, .int .i64 z]) (.agg #[.int .i64 x', .int .i64 y', .int .i64 z'])).run Tryz.prog w = .ok (x == x' && (y == y' && z == z')) w := by
  obtain ⟨i0, hi, -⟩ := info_parts info3
  have hc : Tryz.prog.cellsOf 3 = 1 := by kernel_rfl
  have hu : Tryz.prog.underlying 3 = some (.int .i64) := by kernel_rfl
  rw [run_equalIn_array (P := Tryz.prog) w 9999 (t := 65) (e := 3) (n := 3) (i := i0) _ _ (by kernel_rfl) hi, hc]
  simp only [List.range_succ, List.range_zero, List.nil_append, List.cons_append, Op.eqItems, Sem.run_bind, Nat.mul_one, (part_tri _ _ _ _).1, (part_tri _ _ _ _).2.1, (part_tri _ _ _ _).2.2, Result.andThen_ok, run_equalIn_int (P := Tryz.prog) _ _ _ _ _ _ _ hu]
  by_cases h1 : x = x' <;> by_cases h2 : y = y' <;> by_cases h3 : z = z' <;> simp [h1, h2, h3, (part_tri _ _ _ _).2.1, (part_tri _ _ _ _).2.2, run_equalIn_int (P := Tryz.prog) _ _ _ _ _ _ _ hu]
theorem pt_equal (x y z x' y' z' : Int) (w : World) :
    (Op.equalIn 10000 80 (.agg #[.int .i64 x, .int .i64 y, .int .i64 z]) (.agg #[.int .i64 x', .int .i64 y', .int .i64 z'])).run Tryz.prog w = .ok (x == x' && (y == y' && z == z')) w := by
  obtain ⟨i0, hi, -⟩ := info_parts info3
  have hc : Tryz.prog.cellsOf 3 = 1 := by kernel_rfl
  have hu : Tryz.prog.underlying 3 = some (.int .i64) := by kernel_rfl
  rw [run_equalIn_array (P := Tryz.prog) w 9999 (t := 80) (e := 3) (n := 3) (i := i0) _ _ (by kernel_rfl) hi, hc]
  simp only [List.range_succ, List.range_zero, List.nil_append, List.cons_append, Op.eqItems, Sem.run_bind, Nat.mul_one, (part_tri _ _ _ _).1, (part_tri _ _ _ _).2.1, (part_tri _ _ _ _).2.2, Result.andThen_ok, run_equalIn_int (P := Tryz.prog) _ _ _ _ _ _ _ hu]
  by_cases h1 : x = x' <;> by_cases h2 : y = y' <;> by_cases h3 : z = z' <;> simp [h1, h2, h3, (part_tri _ _ _ _).2.1, (part_tri _ _ _ _).2.2, run_equalIn_int (P := Tryz.prog) _ _ _ _ _ _ _ hu]
end Go.Proofs.YtknioobpoieohaaGreat

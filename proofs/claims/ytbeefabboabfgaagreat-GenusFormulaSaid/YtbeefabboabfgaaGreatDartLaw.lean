/- Plain: the edges of a shell, from both their ends; how many there are; loops and borders. Plain: gypsumlaw14.GenusFew. -/
import Derived.Test.YtbeefabboabfgaaGreatGenusOf
namespace Go.Proofs.YtbeefabboabfgaaGreat
set_option linter.unusedVariables false
set_option linter.unusedSimpArgs false
open Go.RowKit
theorem nodup_rf (p : Nat → Bool) (n : Nat) : ((List.range n).filter p).Nodup := List.Pairwise.filter _ List.nodup_range
theorem filt_split {α : Type} (p : α → Bool) : ∀ l : List α, l.length = (l.filter p).length + (l.filter fun x => !p x).length
  | [] => rfl
  | a :: l => by
    have := filt_split p l
    by_cases h : p a = true <;> simp [h] <;> omega
theorem nodup_on {α β : Type} {f : α → β} {l : List α} (h : ∀ a, a ∈ l → ∀ b, b ∈ l → f a = f b → a = b) (hn : l.Nodup) : (l.map f).Nodup := by
  rw [List.nodup_iff_pairwise_ne, List.pairwise_map]
  exact List.Pairwise.imp_of_mem (fun ha hb hne e => hne (h _ ha _ hb e)) (List.nodup_iff_pairwise_ne.1 hn)
section
variable {n : Nat} {T : List Tr} {L : Nat → Int}
theorem shV_at (hs : Surf n T) (hL : IsShells (Adj T) T.length L) {v : Nat} {c : Nat} (hc : c < 3 * T.length) (h : vt T (c : Nat) = (v : Int)) : v < n ∧ shV T L v = L (c / 3) := by
  have hv := hs.vin.vt (c := ((c : Nat) : Int)) (by omega) (by omega)
  rw [h] at hv
  refine ⟨by omega, ?_⟩
  obtain ⟨d, hd, hd3, hdv⟩ := firstF_has hs (v := v) (by omega)
  unfold shV
  rw [hd, Int.toNat_natCast]
  refine hs.at_vertex hL (v := (v : Int)) (by omega) (by omega) ?_ ?_
  · rw [← hdv]; exact has_corner
  · rw [← h]; exact has_corner
theorem shV_corner (hs : Surf n T) {v : Nat} (hv : v < n) : ∃ c : Nat, c < 3 * T.length ∧ vt T (c : Nat) = (v : Int) ∧ shV T L v = L (c / 3) := by
  obtain ⟨d, hd, hd3, hdv⟩ := firstF_has hs (v := v) (by omega)
  exact ⟨d, hd3, hdv, by unfold shV; rw [hd, Int.toNat_natCast]⟩
theorem shell_opp (hs : Surf n T) (hL : IsShells (Adj T) T.length L) {c o : Nat} (hc : c < 3 * T.length) (h : opp T (c : Nat) = (o : Int)) : L (o / 3) = L (c / 3) := by
  obtain ⟨o', e, ho, -⟩ := hs.opp_opp hc (by omega)
  have : o' = o := by omega
  subst this
  refine hL.clo _ _ (by omega) (by omega) ⟨c % 3, by omega, ?_, ?_⟩
  · rw [← corner_of]; omega
  · rw [← corner_of, h, Int.toNat_natCast]
/-- The edges of the shell k, each from both its ends. -/
def dartsOf (T : List Tr) (L : Nat → Int) (k : Int) : List (Int × Int) :=
  (((List.range (3 * T.length)).filter fun x => decide (L (x / 3) = k)).map fun (c : Nat) => (vt T (nxn c : Nat), vt T (pvn c : Nat))) ++
  (((List.range (3 * T.length)).filter fun x => decide (L (x / 3) = k) && decide (opp T (x : Nat) < 0)).map fun (c : Nat) => (vt T (pvn c : Nat), vt T (nxn c : Nat)))
theorem darts_length (T : List Tr) (L : Nat → Int) (k : Nat) : (dartsOf T L (k : Int)).length = nT T L k := by
  unfold dartsOf nT twn cntK
  simp
theorem darts_mem {k : Int} {p : Int × Int} : p ∈ dartsOf T L k ↔ ∃ c : Nat, c < 3 * T.length ∧ L (c / 3) = k ∧ (p = (vt T (nxn c : Nat), vt T (pvn c : Nat)) ∨ (opp T (c : Nat) < 0 ∧ p = (vt T (pvn c : Nat), vt T (nxn c : Nat)))) := by
  unfold dartsOf
  simp only [List.mem_append, List.mem_map, List.mem_filter, List.mem_range, Bool.and_eq_true, decide_eq_true_eq]
  constructor
  · rintro (⟨c, ⟨h1, h2⟩, rfl⟩ | ⟨c, ⟨h1, h2, h3⟩, rfl⟩)
    · exact ⟨c, h1, h2, .inl rfl⟩
    · exact ⟨c, h1, h2, .inr ⟨h3, rfl⟩⟩
  · rintro ⟨c, h1, h2, rfl | ⟨h3, rfl⟩⟩
    · exact .inl ⟨c, ⟨h1, h2⟩, rfl⟩
    · exact .inr ⟨c, ⟨h1, h2, h3⟩, rfl⟩
theorem edge_one (hs : Surf n T) {c d : Nat} (hc : c < 3 * T.length) (hd : d < 3 * T.length) (h1 : vt T (nxn c : Nat) = vt T (nxn d : Nat)) (h2 : vt T (pvn c : Nat) = vt T (pvn d : Nat)) : c = d :=
  hs.edge_c hc hd (by rw [edgeAt_nat, edgeAt_nat, h1, h2])
theorem no_opp (hs : Surf n T) {c d : Nat} (hc : c < 3 * T.length) (hd : d < 3 * T.length) (h : opp T (c : Nat) < 0) : ¬ (vt T (nxn d : Nat) = vt T (pvn c : Nat) ∧ vt T (pvn d : Nat) = vt T (nxn c : Nat)) := by
  rintro ⟨h1, h2⟩
  rw [opp_nat] at h
  have := facing_of hd (show edgeAt T (d : Int) = (vt T (pvn c : Nat), vt T (nxn c : Nat)) from by rw [edgeAt_nat, h1, h2])
  omega
theorem ends_ne (hs : Surf n T) {c : Nat} (hc : c < 3 * T.length) : vt T (nxn c : Nat) ≠ vt T (pvn c : Nat) := by
  intro e
  have := hs.corner_one (x := nxn c) (y := pvn c) (nxn_lt hc) (by rw [nxn_div, pvn_div]) e
  unfold nxn pvn at this
  omega
theorem darts_nodup (hs : Surf n T) (k : Int) : (dartsOf T L k).Nodup := by
  unfold dartsOf
  refine List.nodup_append.2 ⟨?_, ?_, ?_⟩
  · refine nodup_on (fun a ha b hb e => ?_) (nodup_rf _ _)
    rw [Prod.mk.injEq] at e
    exact edge_one hs (List.mem_range.1 (List.mem_filter.1 ha).1) (List.mem_range.1 (List.mem_filter.1 hb).1) e.1 e.2
  · refine nodup_on (fun a ha b hb e => ?_) (nodup_rf _ _)
    rw [Prod.mk.injEq] at e
    exact edge_one hs (List.mem_range.1 (List.mem_filter.1 ha).1) (List.mem_range.1 (List.mem_filter.1 hb).1) e.2 e.1
  · intro a ha b hb e
    obtain ⟨c, hc, rfl⟩ := List.mem_map.1 ha
    obtain ⟨d, hd, rfl⟩ := List.mem_map.1 hb
    rw [Prod.mk.injEq] at e
    have hd' := (List.mem_filter.1 hd).2
    simp only [Bool.and_eq_true, decide_eq_true_eq] at hd'
    exact no_opp hs (List.mem_range.1 (List.mem_filter.1 hd).1) (List.mem_range.1 (List.mem_filter.1 hc).1) hd'.2 e
theorem darts_swap (hs : Surf n T) (hL : IsShells (Adj T) T.length L) {k : Int} {p : Int × Int} (h : p ∈ dartsOf T L k) : (p.2, p.1) ∈ dartsOf T L k := by
  obtain ⟨c, h1, h2, rfl | ⟨h3, rfl⟩⟩ := darts_mem.1 h
  · by_cases ho : opp T (c : Nat) < 0
    · exact darts_mem.2 ⟨c, h1, h2, .inr ⟨ho, rfl⟩⟩
    · obtain ⟨o, e, ho3, -, e1, e2⟩ := hs.opp_opp h1 (by omega)
      exact darts_mem.2 ⟨o, ho3, by rw [shell_opp hs hL h1 e, h2], .inl (by rw [e1, e2])⟩
  · exact darts_mem.2 ⟨c, h1, h2, .inl rfl⟩
theorem darts_ne (hs : Surf n T) {k : Int} {p : Int × Int} (h : p ∈ dartsOf T L k) : p.1 ≠ p.2 := by
  obtain ⟨c, h1, h2, rfl | ⟨h3, rfl⟩⟩ := darts_mem.1 h
  · exact ends_ne hs h1
  · exact fun e => ends_ne hs h1 e.symm
/-- What has a mate is even. -/
theorem even_swap {D : List (Int × Int)} (hn : D.Nodup) (hsw : ∀ p, p ∈ D → (p.2, p.1) ∈ D) (hne : ∀ p, p ∈ D → p.1 ≠ p.2) : D.length = 2 * (D.filter fun p => decide (p.1 < p.2)).length := by
  have h1 : D.length = (D.filter fun p => decide (p.1 < p.2)).length + (D.filter fun p => !decide (p.1 < p.2)).length := by
    exact filt_split (fun p => decide (p.1 < p.2)) D
  have sw : Function.Injective (fun p : Int × Int => (p.2, p.1)) := fun a b e => by
    simp only [Prod.mk.injEq] at e
    exact Prod.ext e.2 e.1
  have h2 : (D.filter fun p => decide (p.1 < p.2)).length ≤ (D.filter fun p => !decide (p.1 < p.2)).length := by
    have := sub_len ((D.filter fun p => decide (p.1 < p.2)).map fun p => (p.2, p.1)) (D.filter fun p => !decide (p.1 < p.2)) (nodup_on (fun a _ b _ e => sw e) (List.Pairwise.filter _ hn)) (fun x hx => by
      obtain ⟨p, hp, rfl⟩ := List.mem_map.1 hx
      obtain ⟨g1, g2⟩ := List.mem_filter.1 hp
      refine List.mem_filter.2 ⟨hsw p g1, ?_⟩
      simp only [decide_eq_true_eq] at g2
      simp only [Bool.not_eq_true', decide_eq_false_iff_not]
      omega)
    simpa using this
  have h3 : (D.filter fun p => !decide (p.1 < p.2)).length ≤ (D.filter fun p => decide (p.1 < p.2)).length := by
    have := sub_len ((D.filter fun p => !decide (p.1 < p.2)).map fun p => (p.2, p.1)) (D.filter fun p => decide (p.1 < p.2)) (nodup_on (fun a _ b _ e => sw e) (List.Pairwise.filter _ hn)) (fun x hx => by
      obtain ⟨p, hp, rfl⟩ := List.mem_map.1 hx
      obtain ⟨g1, g2⟩ := List.mem_filter.1 hp
      refine List.mem_filter.2 ⟨hsw p g1, ?_⟩
      have := hne p g1
      simp only [Bool.not_eq_true', decide_eq_false_iff_not] at g2
      simp only [decide_eq_true_eq]
      omega)
    simpa using this
  omega
theorem nT_even (hs : Surf n T) (hL : IsShells (Adj T) T.length L) (k : Nat) : nT T L k % 2 = 0 := by
  have := even_swap (darts_nodup (L := L) hs (k : Int)) (fun p h => darts_swap hs hL h) (fun p h => darts_ne hs h)
  rw [darts_length] at this
  omega
/-- The vertices of a shell. -/
def vertsOf (T : List Tr) (L : Nat → Int) (n k : Nat) : List Nat := (List.range n).filter fun v => decide (shV T L v = (k : Int))
theorem verts_length (T : List Tr) (L : Nat → Int) (n k : Nat) : (vertsOf T L n k).length = nV T L n k := rfl
/-- Pairs of two that are not one. -/
def pairsOf (V : List Nat) : List (Int × Int) := V.flatMap fun u => (V.filter fun v => decide (v ≠ u)).map fun (v : Nat) => ((u : Int), (v : Int))
theorem pairs_length {V : List Nat} (hn : V.Nodup) : (pairsOf V).length = V.length * (V.length - 1) := by
  unfold pairsOf
  have one : ∀ u, u ∈ V → ((V.filter fun v => decide (v ≠ u)).map fun (v : Nat) => ((u : Int), (v : Int))).length = V.length - 1 := fun u hu => by
    rw [List.length_map]
    have := List.Nodup.erase_eq_filter hn u
    have h2 := List.length_erase_of_mem hu
    rw [this] at h2
    rw [← h2]
    congr 1
    refine List.filter_congr fun x _ => ?_
    by_cases e : x = u <;> simp [e]
  have key : ∀ (W : List Nat), (∀ u, u ∈ W → u ∈ V) → (W.flatMap fun u => (V.filter fun v => decide (v ≠ u)).map fun (v : Nat) => ((u : Int), (v : Int))).length = W.length * (V.length - 1) := by
    intro W
    induction W with
    | nil => intro _; simp
    | cons a l ih =>
      intro h
      rw [List.flatMap_cons, List.length_append, one a (h a (by simp)), ih (fun u hu => h u (by simp [hu])), List.length_cons, Nat.succ_mul]
      omega
  exact key V (fun u hu => hu)
theorem pairs_mem {V : List Nat} {u v : Nat} (hu : u ∈ V) (hv : v ∈ V) (h : u ≠ v) : ((u : Int), (v : Int)) ∈ pairsOf V :=
  List.mem_flatMap.2 ⟨u, hu, List.mem_map.2 ⟨v, List.mem_filter.2 ⟨hv, by simpa using fun e => h e.symm⟩, rfl⟩⟩
theorem end_in (hs : Surf n T) (hL : IsShells (Adj T) T.length L) {k : Nat} {c x : Nat} (hc : c < 3 * T.length) (hx : x < 3 * T.length) (hd : x / 3 = c / 3) (h : L (c / 3) = (k : Int)) : ∃ v : Nat, vt T (x : Nat) = (v : Int) ∧ v ∈ vertsOf T L n k := by
  have hv := hs.vin.vt (c := ((x : Nat) : Int)) (by omega) (by omega)
  obtain ⟨v, hv'⟩ := Int.eq_ofNat_of_zero_le hv.1
  have := shV_at hs hL hx hv'
  refine ⟨v, hv', List.mem_filter.2 ⟨List.mem_range.2 this.1, ?_⟩⟩
  rw [this.2, hd, h]
  simp
theorem darts_in (hs : Surf n T) (hL : IsShells (Adj T) T.length L) {k : Nat} {p : Int × Int} (h : p ∈ dartsOf T L (k : Int)) : p ∈ pairsOf (vertsOf T L n k) := by
  have hne := darts_ne hs h
  obtain ⟨c, h1, h2, e⟩ := darts_mem.1 h
  obtain ⟨u, hu, mu⟩ := end_in hs hL h1 (nxn_lt h1) (nxn_div c) h2
  obtain ⟨v, hv, mv⟩ := end_in hs hL h1 (pvn_lt h1) (pvn_div c) h2
  rw [hu, hv] at e
  rcases e with rfl | ⟨-, rfl⟩
  · exact pairs_mem mu mv (fun e => hne (by rw [e]))
  · exact pairs_mem mv mu (fun e => hne (by rw [e]))
/-- No more ends of edges than pairs of vertices. -/
theorem nT_pairs (hs : Surf n T) (hL : IsShells (Adj T) T.length L) (k : Nat) : nT T L k ≤ nV T L n k * (nV T L n k - 1) := by
  have h := sub_len (dartsOf T L (k : Int)) (pairsOf (vertsOf T L n k)) (darts_nodup hs _) (fun p hp => darts_in hs hL hp)
  rw [darts_length, pairs_length (V := vertsOf T L n k) (nodup_rf _ _), verts_length] at h
  exact h
theorem cntK_three (L : Nat → Int) (k : Nat) : ∀ i, cntK (fun x => L (x / 3)) (3 * i) k = 3 * cntK L i k
  | 0 => rfl
  | i + 1 => by
    have e : 3 * (i + 1) = 3 * i + 1 + 1 + 1 := by omega
    rw [e, cntK_succ, cntK_succ, cntK_succ, cntK_three L k i, cntK_succ]
    rw [show 3 * i / 3 = i by omega, show (3 * i + 1) / 3 = i by omega, show (3 * i + 1 + 1) / 3 = i by omega]
    split <;> omega
/-- The border edges of a shell. -/
def bordOf (T : List Tr) (L : Nat → Int) (k : Int) : List Nat := (List.range (3 * T.length)).filter fun x => decide (L (x / 3) = k) && decide (opp T (x : Nat) < 0)
theorem nT_bord (T : List Tr) (L : Nat → Int) (k : Nat) : nT T L k = 3 * nF T L k + (bordOf T L k).length := by
  unfold nT twn nF bordOf
  rw [cntK_three]
theorem bord_mem_edges {e : Int × Int} : e ∈ bordE T (3 * T.length) ↔ ∃ c : Nat, c < 3 * T.length ∧ opp T (c : Nat) < 0 ∧ e = (vt T (nxn c : Nat), vt T (pvn c : Nat)) := by
  unfold bordE
  simp only [List.mem_map, List.mem_filter, List.mem_range, decide_eq_true_eq]
  constructor
  · rintro ⟨c, ⟨h1, h2⟩, rfl⟩
    exact ⟨c, h1, h2, edgeAt_nat T c⟩
  · rintro ⟨c, h1, h2, rfl⟩
    exact ⟨c, ⟨h1, h2⟩, edgeAt_nat T c⟩
/-- The shell of a vertex, the vertex as an integer. -/
def shI (T : List Tr) (L : Nat → Int) (v : Int) : Int := shV T L v.toNat
theorem bord_shell (hs : Surf n T) (hL : IsShells (Adj T) T.length L) {e : Int × Int} (h : e ∈ bordE T (3 * T.length)) : shI T L e.1 = shI T L e.2 := by
  obtain ⟨c, hc, -, rfl⟩ := bord_mem_edges.1 h
  have h1 := hs.vin.vt (c := ((nxn c : Nat) : Int)) (by omega) (by have := nxn_lt hc; omega)
  have h2 := hs.vin.vt (c := ((pvn c : Nat) : Int)) (by omega) (by have := pvn_lt hc; omega)
  have e1 := shV_at hs hL (v := (vt T (nxn c : Nat)).toNat) (nxn_lt hc) (by omega)
  have e2 := shV_at hs hL (v := (vt T (pvn c : Nat)).toNat) (pvn_lt hc) (by omega)
  show shV T L _ = shV T L _
  rw [e1.2, e2.2, nxn_div, pvn_div]
theorem it_shell (hs : Surf n T) (hL : IsShells (Adj T) T.length L) {v : Int} (hv : v ∈ (bordE T (3 * T.length)).map Prod.snd) : ∀ k, shI T L (it (bordE T (3 * T.length)) k v) = shI T L v
  | 0 => rfl
  | k + 1 => by
    have hin := hs.oneIn.it_in hv k
    have := bord_shell hs hL (hs.oneIn.sg_mem hin)
    show shI T L (sg _ (it _ k v)) = _
    rw [this, it_shell hs hL hv k]
theorem least_int {P : Int → Prop} (h : ∃ v, P v) (h0 : ∀ v, P v → 0 ≤ v) : ∃ v, P v ∧ ∀ u, P u → v ≤ u := by
  obtain ⟨n, hn, hm⟩ := least_nat (P := fun n : Nat => P n) (by
    obtain ⟨v, hv⟩ := h
    obtain ⟨n, rfl⟩ := Int.eq_ofNat_of_zero_le (h0 v hv)
    exact ⟨n, hv⟩)
  refine ⟨n, hn, fun u hu => ?_⟩
  obtain ⟨m, rfl⟩ := Int.eq_ofNat_of_zero_le (h0 u hu)
  have : ¬ m < n := fun h => hm m h hu
  omega
/-- Each border vertex has the first of its loop. -/
theorem head_of (hs : Surf n T) {v : Int} (hv : v ∈ (bordE T (3 * T.length)).map Prod.snd) : ∃ w : Nat, (w : Int) ∈ orb (bordE T (3 * T.length)) v ∧ minB (bordE T (3 * T.length)) (w : Int) = true ∧ w < n := by
  obtain ⟨w, hw, hm⟩ := least_int (P := fun u => u ∈ orb (bordE T (3 * T.length)) v) ⟨v, hs.oneIn.orb_self hv⟩ (fun u hu => (hs.bord_in (hs.oneIn.orb_sub hu)).1)
  have hb := hs.bord_in (hs.oneIn.orb_sub hw)
  obtain ⟨x, rfl⟩ := Int.eq_ofNat_of_zero_le hb.1
  exact ⟨x, hw, minB_iff.2 ⟨hs.oneIn.orb_sub hw, fun u hu => hm u (hs.oneIn.orb_trans hw hu)⟩, by omega⟩
theorem orb_shell (hs : Surf n T) (hL : IsShells (Adj T) T.length L) {v u : Int} (h : u ∈ orb (bordE T (3 * T.length)) v) : shI T L u = shI T L v := by
  have hv := orb_in h
  obtain ⟨k, rfl⟩ := (hs.oneIn.orb_mem hv).1 h
  exact it_shell hs hL hv k
theorem cntK_pos {key : Nat → Int} {i k : Nat} : 0 < cntK key i k ↔ ∃ j, j < i ∧ key j = (k : Int) := by
  unfold cntK
  rw [List.length_pos_iff_exists_mem]
  simp
/-- The loops of a shell, by their first vertices. -/
def loopsOf (T : List Tr) (L : Nat → Int) (n k : Nat) : List Nat := (headsB (bordE T (3 * T.length)) n).filter fun v => decide (shV T L v = (k : Int))
theorem filter_idx {p : Nat → Bool} : ∀ (l : List Nat), ((List.range l.length).filter fun j => p (l.getD j 0)).length = (l.filter p).length
  | [] => rfl
  | a :: l => by
    have ih := filter_idx (p := p) l
    rw [List.length_cons, List.range_succ_eq_map, List.filter_cons, List.filter_cons, List.filter_map]
    have e : (fun j => p ((a :: l).getD j 0)) ∘ Nat.succ = fun j => p (l.getD j 0) := by
      funext j
      simp
    rw [e]
    have e0 : p ((a :: l).getD 0 0) = p a := rfl
    rw [e0]
    by_cases h : p a = true
    · rw [if_pos h, if_pos h, List.length_cons, List.length_cons, List.length_map, ih]
    · rw [if_neg h, if_neg h, List.length_map, ih]
theorem loops_length (T : List Tr) (L : Nat → Int) (n k : Nat) : (loopsOf T L n k).length = nB T L n k := by
  unfold loopsOf nB cntK keyB
  exact (filter_idx (p := fun v => decide (shV T L v = (k : Int))) _).symm
theorem loops_mem {k v : Nat} : v ∈ loopsOf T L n k ↔ v < n ∧ minB (bordE T (3 * T.length)) (v : Int) = true ∧ shV T L v = (k : Int) := by
  unfold loopsOf
  simp [headsB_mem, and_assoc]
/-- Where there is a border edge there is a loop. -/
theorem bord_loop (hs : Surf n T) (hL : IsShells (Adj T) T.length L) {k : Nat} {c : Nat} (hc : c ∈ bordOf T L (k : Int)) : ∃ w, w ∈ loopsOf T L n k := by
  obtain ⟨h1, h2⟩ := List.mem_filter.1 hc
  simp only [Bool.and_eq_true, decide_eq_true_eq] at h2
  have hc3 := List.mem_range.1 h1
  have he : (vt T (nxn c : Nat), vt T (pvn c : Nat)) ∈ bordE T (3 * T.length) := bord_mem_edges.2 ⟨c, hc3, h2.2, rfl⟩
  obtain ⟨w, g1, g2, g3⟩ := head_of hs (v := vt T (pvn c : Nat)) (List.mem_map.2 ⟨_, he, rfl⟩)
  refine ⟨w, loops_mem.2 ⟨g3, g2, ?_⟩⟩
  have e1 := orb_shell hs hL g1
  have hv := hs.vin.vt (c := ((pvn c : Nat) : Int)) (by omega) (by have := pvn_lt hc3; omega)
  have e2 := shV_at hs hL (v := (vt T (pvn c : Nat)).toNat) (pvn_lt hc3) (by omega)
  have : shI T L (w : Int) = shV T L w := by unfold shI; rw [Int.toNat_natCast]
  rw [← this, e1]
  show shV T L _ = _
  rw [e2.2, pvn_div, h2.1]
theorem no_loop (hs : Surf n T) (hL : IsShells (Adj T) T.length L) {k : Nat} (h : nB T L n k = 0) : bordOf T L (k : Int) = [] := by
  rw [← loops_length, List.length_eq_zero_iff] at h
  refine List.eq_nil_iff_forall_not_mem.2 fun c hc => ?_
  obtain ⟨w, hw⟩ := bord_loop hs hL hc
  rw [h] at hw
  cases hw
end
section
variable {n : Nat} {T : List Tr} {L : Nat → Int}
theorem IsShells.has {A : Nat → Nat → Prop} {n : Nat} {L : Nat → Int} (h : IsShells A n L) {k : Nat} (hk : (k : Int) < cnt L n) : ∃ i, i < n ∧ L i = (k : Int) := by
  obtain ⟨i, hi, e⟩ := cnt_has L n (by omega)
  by_cases g : L i = (k : Int)
  · exact ⟨i, hi, g⟩
  · obtain ⟨j, hj, ej⟩ := h.rg i hi k (by omega) (by omega)
    exact ⟨j, by omega, ej⟩
theorem mir_of {i : Nat} {u : Tr} (hi : i < T.length) (h : ∀ x : Nat, x / 3 = i → hasB u (vt T (x : Nat)) = true) : mirB (T! T i) u = true := by
  have h0 := h (3 * i) (by omega)
  have h1 := h (3 * i + 1) (by omega)
  have h2 := h (3 * i + 2) (by omega)
  rw [vt_nat3] at h0 h1 h2
  rw [show 3 * i / 3 = i by omega, show 3 * i % 3 = 0 by omega] at h0
  rw [show (3 * i + 1) / 3 = i by omega, show (3 * i + 1) % 3 = 1 by omega] at h1
  rw [show (3 * i + 2) / 3 = i by omega, show (3 * i + 2) % 3 = 2 by omega] at h2
  simp only [tg] at h0 h1 h2
  unfold mirB
  rw [h0, h1, h2]
  rfl
theorem three_of (c x : Nat) (h : x / 3 = c / 3) : x = c ∨ x = nxn c ∨ x = pvn c := by
  unfold nxn pvn
  omega
/-- A corner and the one across its edge are not at one vertex. -/
theorem opp_ne (hs : Surf n T) {c o : Nat} (hc : c < 3 * T.length) (ho : o < 3 * T.length) (e1 : vt T (nxn o : Nat) = vt T (pvn c : Nat)) (e2 : vt T (pvn o : Nat) = vt T (nxn c : Nat)) : vt T (o : Nat) ≠ vt T (c : Nat) := by
  intro e
  have hij : o / 3 ≠ c / 3 := by
    intro h
    have a1 := hs.corner_one (x := nxn o) (y := pvn c) (nxn_lt ho) (by rw [nxn_div, pvn_div, h]) e1
    have a2 := hs.corner_one (x := o) (y := c) ho h e
    subst a2
    unfold nxn pvn at a1
    omega
  have fwd : ∀ x : Nat, x / 3 = c / 3 → hasB (T! T (o / 3)) (vt T (x : Nat)) = true := fun x hx => by
    rcases three_of c x hx with rfl | rfl | rfl
    · rw [← e]; exact has_corner
    · rw [← e2, ← pvn_div o]; exact has_corner
    · rw [← e1, ← nxn_div o]; exact has_corner
  have bwd : ∀ x : Nat, x / 3 = o / 3 → hasB (T! T (c / 3)) (vt T (x : Nat)) = true := fun x hx => by
    rcases three_of o x hx with rfl | rfl | rfl
    · rw [e]; exact has_corner
    · rw [e1, ← pvn_div c]; exact has_corner
    · rw [e2, ← nxn_div c]; exact has_corner
  by_cases h : c / 3 < o / 3
  · have := hs.mir (o / 3) (c / 3) (by omega) h
    rw [mir_of (by omega) fwd] at this
    cases this
  · have := hs.mir (c / 3) (o / 3) (by omega) (by omega)
    rw [mir_of (by omega) bwd] at this
    cases this
theorem nV_four (hs : Surf n T) (hL : IsShells (Adj T) T.length L) {k : Nat} (hk : (k : Int) < cnt L T.length) (hb : nB T L n k = 0) : 4 ≤ nV T L n k := by
  obtain ⟨i, hi, hLi⟩ := hL.has hk
  obtain ⟨c, hc⟩ : ∃ c, c = 3 * i := ⟨_, rfl⟩
  have hc3 : c < 3 * T.length := by omega
  have hci : L (c / 3) = (k : Int) := by rw [show c / 3 = i by omega]; exact hLi
  have hno := no_loop hs hL hb
  have hop : 0 ≤ opp T (c : Nat) := by
    apply Classical.byContradiction
    intro h
    have : c ∈ bordOf T L (k : Int) := List.mem_filter.2 ⟨List.mem_range.2 hc3, by simp [hci]; omega⟩
    rw [hno] at this
    cases this
  obtain ⟨o, eo, ho, -, e1, e2⟩ := hs.opp_opp hc3 hop
  have hoL : L (o / 3) = (k : Int) := by rw [shell_opp hs hL hc3 eo]; exact hci
  obtain ⟨a, ha, ma⟩ := end_in hs hL hc3 hc3 rfl hci
  obtain ⟨u, hu, mu⟩ := end_in hs hL hc3 (nxn_lt hc3) (nxn_div c) hci
  obtain ⟨v, hv, mv⟩ := end_in hs hL hc3 (pvn_lt hc3) (pvn_div c) hci
  obtain ⟨d, hd, md⟩ := end_in hs hL ho ho rfl hoL
  have n1 : a ≠ u := fun e => by
    have := hs.corner_one (x := c) (y := nxn c) hc3 (by rw [nxn_div]) (by rw [ha, hu, e])
    unfold nxn at this; omega
  have n2 : a ≠ v := fun e => by
    have := hs.corner_one (x := c) (y := pvn c) hc3 (by rw [pvn_div]) (by rw [ha, hv, e])
    unfold pvn at this; omega
  have n3 : u ≠ v := fun e => ends_ne hs hc3 (by rw [hu, hv, e])
  have n4 : d ≠ a := fun e => opp_ne hs hc3 ho e1 e2 (by rw [hd, ha, e])
  have n5 : d ≠ v := fun e => by
    have := hs.corner_one (x := o) (y := nxn o) ho (by rw [nxn_div]) (by rw [e1, hd, hv, e])
    unfold nxn at this; omega
  have n6 : d ≠ u := fun e => by
    have := hs.corner_one (x := o) (y := pvn o) ho (by rw [pvn_div]) (by rw [e2, hd, hu, e])
    unfold pvn at this; omega
  have := sub_len [a, u, v, d] (vertsOf T L n k) (by simp [n1, n2, n3, Ne.symm n4, Ne.symm n5, Ne.symm n6]) (fun x hx => by
    simp only [List.mem_cons, List.not_mem_nil, or_false] at hx
    rcases hx with rfl | rfl | rfl | rfl <;> assumption)
  rw [verts_length] at this
  exact this
/-- The Euler number of a shell and its genus, as genus.Of reckons them. -/
def euK (T : List Tr) (L : Nat → Int) (n k : Nat) : Int := (nV T L n k : Int) - ((nT T L k / 2 : Nat) : Int) + (nF T L k : Int)
def gnK (T : List Tr) (L : Nat → Int) (n k : Nat) : Int := ((2 : Int) - (nB T L n k : Int) - euK T L n k).tdiv 2
theorem gen0 (T : List Tr) (L : Nat → Int) (n k : Nat) : genF T L n (k * 6) = (nV T L n k : Int) := by
  unfold genF finF
  dsimp only
  rw [if_pos (by omega), show k * 6 / 6 = k by omega]
theorem gen1 (T : List Tr) (L : Nat → Int) (n k : Nat) : genF T L n (k * 6 + 1) = ((nT T L k / 2 : Nat) : Int) := by
  unfold genF finF
  dsimp only
  rw [if_neg (by omega), if_pos (by omega), show (k * 6 + 1) / 6 = k by omega]
theorem gen2 (T : List Tr) (L : Nat → Int) (n k : Nat) : genF T L n (k * 6 + 2) = (nF T L k : Int) := by
  unfold genF finF
  dsimp only
  rw [if_neg (by omega), if_neg (by omega), if_pos (by omega), show (k * 6 + 2) / 6 = k by omega]
theorem gen3 (T : List Tr) (L : Nat → Int) (n k : Nat) : genF T L n (k * 6 + 3) = (nB T L n k : Int) := by
  unfold genF finF
  dsimp only
  rw [if_neg (by omega), if_neg (by omega), if_neg (by omega), if_pos (by omega), show (k * 6 + 3) / 6 = k by omega]
theorem gen4 (T : List Tr) (L : Nat → Int) (n k : Nat) : genF T L n (k * 6 + 4) = euK T L n k := by
  unfold genF finF euK
  dsimp only
  rw [if_neg (by omega), if_neg (by omega), if_neg (by omega), if_neg (by omega), if_pos (by omega), show (k * 6 + 4) / 6 = k by omega]
theorem gen5 (T : List Tr) (L : Nat → Int) (n k : Nat) : genF T L n (k * 6 + 5) = gnK T L n k := by
  unfold genF finF gnK euK
  dsimp only
  rw [if_neg (by omega), if_neg (by omega), if_neg (by omega), if_neg (by omega), if_neg (by omega), show (k * 6 + 5) / 6 = k by omega]
/-- What GenusFew asks of a shell. -/
def FewOK (V E F B G : Int) : Prop := E ≤ (V * (V - 1)).tdiv 2 ∧ (B = 0 → 2 * E = 3 * F ∧ 4 ≤ V) ∧ (0 < G → B = 0 → 7 ≤ V)
theorem tdiv_two {a : Int} (h : 0 ≤ a) : a.tdiv 2 = a / 2 := Int.tdiv_eq_ediv_of_nonneg h
theorem few_ok (hs : Surf n T) (hL : IsShells (Adj T) T.length L) {k : Nat} (hk : (k : Int) < cnt L T.length) : FewOK (nV T L n k) ((nT T L k / 2 : Nat) : Int) (nF T L k) (nB T L n k) (gnK T L n k) := by
  have hp := nT_pairs hs hL k
  have he := nT_even hs hL k
  have hb := nT_bord T L k
  obtain ⟨V, hV⟩ : ∃ V, V = nV T L n k := ⟨_, rfl⟩
  obtain ⟨t, ht⟩ : ∃ t, t = nT T L k := ⟨_, rfl⟩
  obtain ⟨F, hF⟩ : ∃ F, F = nF T L k := ⟨_, rfl⟩
  obtain ⟨B, hB⟩ : ∃ B, B = nB T L n k := ⟨_, rfl⟩
  have h4 : B = 0 → 4 ≤ V := fun h => by rw [hV]; exact nV_four hs hL hk (by rw [← hB]; exact h)
  have h3 : B = 0 → t = 3 * F := fun h => by
    have := no_loop hs hL (k := k) (by rw [← hB]; exact h)
    rw [this, ← ht, ← hF] at hb
    simpa using hb
  unfold gnK euK
  rw [← hV, ← ht] at hp
  rw [← ht] at he
  rw [← hV, ← ht, ← hF, ← hB]
  have hVV : (0 : Int) ≤ (V : Int) * ((V : Int) - 1) := by
    rcases Nat.eq_zero_or_pos V with rfl | h
    · simp
    · exact Int.mul_nonneg (by omega) (by omega)
  have hVm : ((V * (V - 1) : Nat) : Int) = (V : Int) * ((V : Int) - 1) := by
    rcases Nat.eq_zero_or_pos V with rfl | h
    · simp
    · rw [Int.natCast_mul, Int.natCast_sub h]; rfl
  have hp' : (t : Int) ≤ (V : Int) * ((V : Int) - 1) := by rw [← hVm]; omega
  refine ⟨?_, ?_, ?_⟩
  · rw [tdiv_two hVV]
    omega
  · intro h
    have := h3 (by omega)
    have := h4 (by omega)
    omega
  · intro hg h0
    have e3 := h3 (by omega)
    have e4 := h4 (by omega)
    have hpos : (2 : Int) ≤ 2 - (B : Int) - ((V : Int) - ((t / 2 : Nat) : Int) + (F : Int)) := by
      apply Classical.byContradiction
      intro hn
      rcases Int.le_total 0 (2 - (B : Int) - ((V : Int) - ((t / 2 : Nat) : Int) + (F : Int))) with h | h
      · rw [tdiv_two h] at hg
        omega
      · have := Int.neg_tdiv (2 - (B : Int) - ((V : Int) - ((t / 2 : Nat) : Int) + (F : Int))) 2
        rw [tdiv_two (by omega)] at this
        omega
    -- three edges a vertex at least, as many as pairs at most
    have h6 : 6 * (V : Int) ≤ (t : Int) := by omega
    have : 6 * (V : Int) ≤ (V : Int) * ((V : Int) - 1) := by omega
    apply Classical.byContradiction
    intro hn
    have hlt : (V : Int) - 1 ≤ 5 := by omega
    have := Int.mul_le_mul_of_nonneg_left hlt (show (0 : Int) ≤ (V : Int) by omega)
    omega
end
end Go.Proofs.YtbeefabboabfgaaGreat

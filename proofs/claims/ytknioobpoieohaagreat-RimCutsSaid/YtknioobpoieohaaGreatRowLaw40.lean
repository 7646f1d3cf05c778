/- The sides of a bay by vertex, then by corner: one list, however it is made. Plain. A search that keeps the last place found: in a list with no number twice it is the only place. Plain. gypsumref40.Cut: what its loops hold; their state. Plain. -/
import Derived.Test.YtknioobpoieohaaGreatBaySurf
import Derived.Test.YtknioobpoieohaaGreatButLaw
import Derived.WalkSmall
namespace Go.Proofs.YtknioobpoieohaaGreat
set_option linter.unusedVariables false
set_option linter.unusedSimpArgs false
open Go.RowKit
/-- Is a corner the least on its side, of that bay, at that vertex? -/
def isRep (T : List Tr) (bays : List Int) (bay : Int) (L : Nat → Int) (v : Int) (c : Nat) : Bool := decide (vt T (c : Int) = v) && decide (I! bays (c / 3) = bay) && decide (L c = (c : Int))
/-- Those of one vertex among the first corners. -/
def repV (T : List Tr) (bays : List Int) (bay : Int) (L : Nat → Int) (v : Int) (k : Nat) : List Nat := (List.range k).filter fun c => isRep T bays bay L v c
theorem repV_yes {T : List Tr} {bays : List Int} {bay : Int} {L : Nat → Int} {v : Int} {k : Nat} (h : isRep T bays bay L v k = true) : repV T bays bay L v (k + 1) = repV T bays bay L v k ++ [k] := by simp [repV, List.range_succ, h]
theorem repV_no {T : List Tr} {bays : List Int} {bay : Int} {L : Nat → Int} {v : Int} {k : Nat} (h : isRep T bays bay L v k = false) : repV T bays bay L v (k + 1) = repV T bays bay L v k := by simp [repV, List.range_succ, h]
theorem repV_mem {T : List Tr} {bays : List Int} {bay : Int} {L : Nat → Int} {v : Int} {k c : Nat} : c ∈ repV T bays bay L v k ↔ c < k ∧ vt T (c : Int) = v ∧ I! bays (c / 3) = bay ∧ L c = (c : Int) := by
  simp [repV, isRep, and_assoc]
/-- Those of the first vertices. -/
def rowL (T : List Tr) (bays : List Int) (bay : Int) (L : Nat → Int) (m : Nat) : List Nat := (List.range m).flatMap fun (v : Nat) => repV T bays bay L (v : Int) (3 * T.length)
theorem rowL_succ (T : List Tr) (bays : List Int) (bay : Int) (L : Nat → Int) (m : Nat) : rowL T bays bay L (m + 1) = rowL T bays bay L m ++ repV T bays bay L (m : Int) (3 * T.length) := by simp [rowL, List.range_succ]
theorem rowL_mem {T : List Tr} {bays : List Int} {bay : Int} {L : Nat → Int} {m c : Nat} : c ∈ rowL T bays bay L m ↔ ∃ v : Nat, v < m ∧ c < 3 * T.length ∧ vt T (c : Int) = (v : Int) ∧ I! bays (c / 3) = bay ∧ L c = (c : Int) := by
  simp only [rowL, List.mem_flatMap, List.mem_range, repV_mem]
theorem rowL_sorted (T : List Tr) (bays : List Int) (bay : Int) (L : Nat → Int) : ∀ m, (rowL T bays bay L m).Pairwise (fun a b => ltC T a b)
  | 0 => by simp [rowL]
  | m + 1 => by
    rw [rowL_succ]
    refine List.pairwise_append.2 ⟨rowL_sorted T bays bay L m, ?_, fun a ha b hb => ?_⟩
    · have hp : ((List.range (3 * T.length)).filter fun c => isRep T bays bay L (m : Int) c).Pairwise (· < ·) := List.Pairwise.filter _ (List.pairwise_lt_range)
      rw [List.pairwise_iff_getElem]
      intro i j hi hj hij
      have h1 := List.pairwise_iff_getElem.1 hp i j hi hj hij
      have mi := repV_mem.1 (List.getElem_mem hi)
      have mj := repV_mem.1 (List.getElem_mem hj)
      right
      unfold vtx
      rw [if_pos mi.1, if_pos mj.1, mi.2.1, mj.2.1]
      exact ⟨rfl, h1⟩
    · obtain ⟨v, hv, hc, h1, -⟩ := rowL_mem.1 ha
      have h2 := repV_mem.1 hb
      left
      unfold vtx
      rw [if_pos hc, if_pos h2.1, h1, h2.2.1]
      omega
theorem CutIs.row {n : Nat} {T : List Tr} {bays : List Int} {bay : Int} {L : Nat → Int} {F : List Nat} (hc : CutIs T bays bay L F) (hs : Surf n T) : F = rowL T bays bay L n := by
  have hso := rowL_sorted T bays bay L n
  have hnd : (rowL T bays bay L n).Nodup := List.nodup_iff_pairwise_ne.2 (List.pairwise_iff_getElem.2 fun i j hi hj hij e => by
    have := List.pairwise_iff_getElem.1 hso i j hi hj hij
    rw [e] at this
    unfold ltC at this
    omega)
  have p : F.Perm (rowL T bays bay L n) := (List.perm_ext_iff_of_nodup hc.nodup hnd).2 fun c => by
    rw [hc.mem, rowL_mem]
    constructor
    · rintro ⟨h1, h2, h3⟩
      have := hs.vin.vt (c := (c : Int)) (by omega) (by omega)
      exact ⟨(vt T (c : Int)).toNat, by omega, h1, by omega, h2, h3⟩
    · rintro ⟨v, hv, h1, -, h2, h3⟩
      exact ⟨h1, h2, h3⟩
  refine p.eq_of_pairwise (le := fun a b => ¬ ltC T b a) (fun a b _ _ h1 h2 => ?_) hc.sorted ?_
  · unfold ltC at h1 h2
    omega
  · refine List.pairwise_iff_getElem.2 fun i j hi hj hij => ?_
    have := List.pairwise_iff_getElem.1 hso i j hi hj hij
    unfold ltC at this ⊢
    omega
theorem idx_at {R : List Nat} {v : Nat} (h : v ∈ R) : ∃ k : Nat, Lib.idxOf (nl R) (v : Int) = k ∧ k < R.length ∧ R[k]? = some v := by
  have hk := List.idxOf_lt_length_iff.2 h
  have hget : R[R.idxOf v] = v := List.getElem_idxOf hk
  refine ⟨R.idxOf v, ?_, hk, by rw [List.getElem?_eq_getElem hk, hget]⟩
  have := Lib.idxOf_hit (nl R) R.length (R.idxOf v) (v : Int) hk (by simp [nl]) (by simp [nl, List.getD_eq_getElem?_getD, List.getElem?_eq_getElem hk]) fun j hj e => by
    have hj' : j < R.length := by omega
    have e' : R[j] = v := by
      simp only [nl, List.getD_eq_getElem?_getD, List.getElem?_map, List.getElem?_eq_getElem hj', Option.map_some, Option.getD_some] at e
      omega
    have := List.not_of_lt_findIdx (p := (· == v)) (xs := R) (i := j) hj
    simp [e'] at this
  rwa [show R.length = (nl R).length by simp [nl], List.take_length] at this
theorem idx_no {R : List Nat} {v : Nat} (h : v ∉ R) : Lib.idxOf (nl R) (v : Int) = -1 := by
  have := Lib.idxOf_miss (nl R) R.length (v : Int) fun j hj e => by
    simp only [nl, List.getD_eq_getElem?_getD, List.getElem?_map, List.getElem?_eq_getElem hj, Option.map_some, Option.getD_some] at e
    exact h (by
      have : R[j] = v := by omega
      rw [← this]; exact List.getElem_mem hj)
  rwa [show R.length = (nl R).length by simp [nl], List.take_length] at this
/-- The last place below k at which x stands, or d. -/
def lastIdx (R : List Nat) (x : Int) (d : Int) : Nat → Int
  | 0 => d
  | k + 1 => if (R[k]?.map fun (a : Nat) => (a : Int)) = some x then (k : Int) else lastIdx R x d k
theorem lastIdx_only {R : List Nat} {x : Nat} {d : Int} (hn : R.Nodup) {j : Nat} (hj : R[j]? = some x) : ∀ k, j < k → lastIdx R (x : Int) d k = (j : Int)
  | 0, h => absurd h (Nat.not_lt_zero _)
  | k + 1, h => by
    unfold lastIdx
    by_cases hk : k = j
    · subst hk
      rw [if_pos (by rw [hj]; rfl)]
    · rw [if_neg, lastIdx_only hn hj k (by omega)]
      intro e
      rw [Option.map_eq_some_iff] at e
      obtain ⟨a, ha, hax⟩ := e
      have hax' : a = x := by omega
      subst hax'
      obtain ⟨h1, e1⟩ := List.getElem?_eq_some_iff.1 ha
      obtain ⟨h2, e2⟩ := List.getElem?_eq_some_iff.1 hj
      have hp := List.pairwise_iff_getElem.1 (List.nodup_iff_pairwise_ne.1 hn)
      rcases Nat.lt_or_gt_of_ne hk with hlt | hlt
      · exact hp k j h1 h2 hlt (e1.trans e2.symm)
      · exact hp j k h2 h1 hlt (e2.trans e1.symm)
theorem lastIdx_none {R : List Nat} {x d : Int} (hx : ∀ a ∈ R, (a : Int) ≠ x) : ∀ k, lastIdx R x d k = d
  | 0 => rfl
  | k + 1 => by
    unfold lastIdx
    rw [if_neg, lastIdx_none hx k]
    intro e
    rw [Option.map_eq_some_iff] at e
    obtain ⟨a, ha, hax⟩ := e
    exact hx a (List.mem_of_getElem? ha) hax
theorem lastIdx_rim {R : List Nat} (hn : R.Nodup) (v : Nat) : lastIdx R (v : Int) (-1) R.length = Lib.idxOf (nl R) (v : Int) := by
  by_cases h : v ∈ R
  · obtain ⟨k, e, hk, hv⟩ := idx_at h
    rw [e, lastIdx_only hn hv _ hk]
  · rw [idx_no h]
    refine lastIdx_none (fun a ha e => h ?_) _
    have e2 : a = v := by omega
    rw [← e2]; exact ha
theorem lastIdx_ix {F : List Nat} (hn : F.Nodup) {x d : Int} (h0 : 0 ≤ x) (h : x.toNat ∈ F) : lastIdx F x d F.length = ixF F x := by
  have hl := List.idxOf_lt_length_iff.2 h
  have e : x = ((x.toNat : Nat) : Int) := by omega
  have := lastIdx_only (d := d) hn (j := F.idxOf x.toNat) (x := x.toNat) (by rw [List.getElem?_eq_getElem hl, List.getElem_idxOf hl]) F.length hl
  rw [← e] at this
  exact this
theorem repV_le (T : List Tr) (bays : List Int) (bay : Int) (L : Nat → Int) (v : Int) (k : Nat) : (repV T bays bay L v k).length ≤ k := by
  have := List.length_filter_le (fun c => isRep T bays bay L v c) (List.range k)
  simpa [repV] using this
theorem rowL_le {T : List Tr} {bays : List Int} {bay : Int} {L : Nat → Int} (hl : T.length ≤ 1000) : ∀ m, (rowL T bays bay L m).length ≤ 3000 * m
  | 0 => by simp [rowL]
  | m + 1 => by
    rw [rowL_succ, List.length_append]
    have h1 := rowL_le (bays := bays) (bay := bay) (L := L) hl m
    have h2 := repV_le T bays bay L (m : Int) (3 * T.length)
    omega
def kpart (K bays : List Int) (bay : Int) (t s : Nat) : List Int := if K.length = 0 then [] else cutK K bays bay t ++ (List.range s).map fun j => I! K (3 * t + j)
theorem kpart_zero (K bays : List Int) (bay : Int) (t : Nat) : kpart K bays bay t 0 = cutK K bays bay t := by
  unfold kpart
  by_cases h : K.length = 0
  · rw [if_pos h]; unfold cutK; rw [if_pos h]
  · rw [if_neg h]; simp
theorem kpart_none {K : List Int} (h : K.length = 0) (bays : List Int) (bay : Int) (t s : Nat) : kpart K bays bay t s = [] := by unfold kpart; rw [if_pos h]
theorem kpart_succ {K : List Int} (h : K.length ≠ 0) (bays : List Int) (bay : Int) (t s : Nat) : kpart K bays bay t (s + 1) = kpart K bays bay t s ++ [I! K (3 * t + s)] := by
  unfold kpart
  rw [if_neg h, if_neg h, List.range_succ, List.map_append, List.append_assoc]
  rfl
theorem kpart_three (K : List Int) {bays : List Int} {bay : Int} {t : Nat} (hb : I! bays t = bay) : kpart K bays bay t 3 = cutK K bays bay (t + 1) := by
  unfold kpart cutK
  by_cases h : K.length = 0
  · rw [if_pos h, if_pos h]
  · rw [if_neg h, if_neg h, if_neg h, sel_succ, if_pos hb, List.flatMap_append]
    rfl
theorem cutK_not (K : List Int) {bays : List Int} {bay : Int} {t : Nat} (hb : I! bays t ≠ bay) : cutK K bays bay (t + 1) = cutK K bays bay t := by
  unfold cutK
  rw [sel_succ, if_neg hb]
theorem cutT_not {bays : List Int} {bay : Int} {t : Nat} (L : Nat → Int) (F : List Nat) (hb : I! bays t ≠ bay) : cutT bays bay L F (t + 1) = cutT bays bay L F t := by
  unfold cutT
  rw [sel_succ, if_neg hb]
theorem cutT_yes {bays : List Int} {bay : Int} {t : Nat} (L : Nat → Int) (F : List Nat) (hb : I! bays t = bay) : cutT bays bay L F (t + 1) = cutT bays bay L F t ++ [cutTri L F t] := by
  unfold cutT
  rw [sel_succ, if_pos hb, List.map_append]
  rfl
theorem cutK_zero (K bays : List Int) (bay : Int) : cutK K bays bay 0 = [] := by unfold cutK sel; simp
theorem cutT_zero (bays : List Int) (bay : Int) (L : Nat → Int) (F : List Nat) : cutT bays bay L F 0 = [] := by unfold cutT sel; simp
theorem rowL_nodup (T : List Tr) (bays : List Int) (bay : Int) (L : Nat → Int) (m : Nat) : (rowL T bays bay L m).Nodup := List.nodup_iff_pairwise_ne.2 (List.pairwise_iff_getElem.2 fun i j hi hj hij e => by
  have := List.pairwise_iff_getElem.1 (rowL_sorted T bays bay L m) i j hi hj hij
  rw [e] at this
  unfold ltC at this
  omega)
theorem rowL_has {n : Nat} {T : List Tr} {bays : List Int} {bay : Int} {L : Nat → Int} (hs : Surf n T) (hle : IsLeast (SAdj T (I! bays)) (3 * T.length) L) {c : Nat} (hc : c < 3 * T.length) (hb : I! bays (c / 3) = bay) : 0 ≤ L c ∧ L c < 3 * T.length ∧ (L c).toNat ∈ rowL T bays bay L n := by
  have hA : ∀ i j, SAdj T (I! bays) i j → i < 3 * T.length ∧ j < 3 * T.length := fun i j h => ⟨h.1, h.2.1⟩
  have h0 := hle.nonneg c hc
  have h1 := hle.top hA hc
  have h2 := hs.vin.vt (c := (((L c).toNat : Nat) : Int)) (by omega) (by omega)
  refine ⟨h0, by omega, rowL_mem.2 ⟨(vt T (((L c).toNat : Nat) : Int)).toNat, by omega, h1.1, by omega, ?_, ?_⟩⟩
  · rw [← side_bay (hle.con c hc), hb]
  · rw [h1.2]; omega
/-- The triangle under way: s numbers done, the next one m. -/
def triF (F : List Nat) (L : Nat → Int) (t s : Nat) (m : Int) : Nat → Int := fun j => if j < s then ixF F (L (3 * t + j)) else if j = s then m else 0
theorem triF_upd (F : List Nat) (L : Nat → Int) (t s : Nat) (m x : Int) : upd (triF F L t s m) s x = triF F L t s x := by
  funext j
  unfold upd triF
  by_cases h : j = s
  · subst h; simp
  · by_cases h2 : j < s <;> simp [h, h2]
theorem triF_next (F : List Nat) (L : Nat → Int) (t s : Nat) : triF F L t s (ixF F (L (3 * t + s))) = triF F L t (s + 1) 0 := by
  funext j
  unfold triF
  by_cases h : j = s
  · subst h; simp
  · by_cases h2 : j < s
    · have : j < s + 1 := by omega
      simp [h2, this]
    · have : ¬ j < s + 1 := by omega
      simp [h2, h, this]
theorem triF_zero (F : List Nat) (L : Nat → Int) (t : Nat) : triF F L t 0 0 = fun _ => 0 := by
  funext j
  unfold triF
  by_cases h : j = 0 <;> simp [h]
theorem lastIdx_yes {R : List Nat} {x d : Int} {k c : Nat} (h : R[k]? = some c) (hx : (c : Int) = x) : lastIdx R x d (k + 1) = (k : Int) := by
  unfold lastIdx
  rw [if_pos]
  rw [h, ← hx]
  rfl
theorem lastIdx_no {R : List Nat} {x d : Int} {k c : Nat} (h : R[k]? = some c) (hx : ¬ (c : Int) = x) : lastIdx R x d (k + 1) = lastIdx R x d k := by
  conv => lhs; unfold lastIdx
  rw [if_neg]
  rw [h]
  intro e
  exact hx (by simpa using e)
/-- The state: the struct's block and its rows, and the row of corners. -/
def RS (W X : World) (ob base : Nat) (N0 : Int) (vT vP vK vV vR vF : Value) (nT nP nK nV nR nF : Nat) (TT PP : List Tr) (KK VV RR : List Int) (F : List Nat) : Prop :=
  RSt W X ob base 37 [.int .i64 N0, vT, vP, vK, vV, vR] [⟨65, 3, vT, nT, tcells TT⟩, ⟨80, 3, vP, nP, tcells PP⟩, ⟨3, 1, vK, nK, ic KK⟩, ⟨3, 1, vV, nV, ic VV⟩, ⟨3, 1, vR, nR, ic RR⟩, ⟨3, 1, vF, nF, nv F⟩]
section
variable {W X Y : World} {ob base : Nat} {N0 : Int} {vT vP vK vV vR vF : Value} {nT nP nK nV nR nF : Nat} {TT PP : List Tr} {KK VV RR : List Int} {F : List Nat}
theorem RS.st (h : RS W X ob base N0 vT vP vK vV vR vF nT nP nK nV nR nF TT PP KK VV RR F) : RSt W X ob base 37 [.int .i64 N0, vT, vP, vK, vV, vR] [⟨65, 3, vT, nT, tcells TT⟩, ⟨80, 3, vP, nP, tcells PP⟩, ⟨3, 1, vK, nK, ic KK⟩, ⟨3, 1, vV, nV, ic VV⟩, ⟨3, 1, vR, nR, ic RR⟩, ⟨3, 1, vF, nF, nv F⟩] := h
theorem RS.more (h : RS W X ob base N0 vT vP vK vV vR vF nT nP nK nV nR nF TT PP KK VV RR F) (hb : Below X.heap.size X Y) : RS W Y ob base N0 vT vP vK vV vR vF nT nP nK nV nR nF TT PP KK VV RR F := RSt.more h hb
theorem RS.alloc (h : RS W X ob base N0 vT vP vK vV vR vF nT nP nK nV nR nF TT PP KK VV RR F) (o : Obj) : RS W (X.alloc o) ob base N0 vT vP vK vV vR vF nT nP nK nV nR nF TT PP KK VV RR F := RSt.alloc h o
theorem RS.drew (h : RS W X ob base N0 vT vP vK vV vR vF nT nP nK nV nR nF TT PP KK VV RR F) : RS W X.drew ob base N0 vT vP vK vV vR vF nT nP nK nV nR nF TT PP KK VV RR F := RSt.drew h
theorem RS.drewN (h : RS W X ob base N0 vT vP vK vV vR vF nT nP nK nV nR nF TT PP KK VV RR F) (q : Nat) : RS W (X.drewN q) ob base N0 vT vP vK vV vR vF nT nP nK nV nR nF TT PP KK VV RR F := RSt.more h (below_drewN (Below.refl _ _) q)
theorem RS.rowT (h : RS W X ob base N0 vT vP vK vV vR vF nT nP nK nV nR nF TT PP KK VV RR F) : X.ownsRow base 65 3 vT nT (tcells TT) := h.st.rows.own ⟨65, 3, vT, nT, tcells TT⟩ (by simp)
theorem RS.rowP (h : RS W X ob base N0 vT vP vK vV vR vF nT nP nK nV nR nF TT PP KK VV RR F) : X.ownsRow base 80 3 vP nP (tcells PP) := h.st.rows.own ⟨80, 3, vP, nP, tcells PP⟩ (by simp)
theorem RS.rowK (h : RS W X ob base N0 vT vP vK vV vR vF nT nP nK nV nR nF TT PP KK VV RR F) : X.ownsRow base 3 1 vK nK (ic KK) := h.st.rows.own ⟨3, 1, vK, nK, ic KK⟩ (by simp)
theorem RS.rowV (h : RS W X ob base N0 vT vP vK vV vR vF nT nP nK nV nR nF TT PP KK VV RR F) : X.ownsRow base 3 1 vV nV (ic VV) := h.st.rows.own ⟨3, 1, vV, nV, ic VV⟩ (by simp)
theorem RS.rowR (h : RS W X ob base N0 vT vP vK vV vR vF nT nP nK nV nR nF TT PP KK VV RR F) : X.ownsRow base 3 1 vR nR (ic RR) := h.st.rows.own ⟨3, 1, vR, nR, ic RR⟩ (by simp)
theorem RS.rowF (h : RS W X ob base N0 vT vP vK vV vR vF nT nP nK nV nR nF TT PP KK VV RR F) : X.ownsRow base 3 1 vF nF (nv F) := h.st.rows.own ⟨3, 1, vF, nF, nv F⟩ (by simp)
/-- Between an append and its store. -/
theorem RS.mid (h : RS W X ob base N0 vT vP vK vV vR vF nT nP nK nV nR nF TT PP KK VV RR F) {v : Value} {e : TypeId} {size n : Nat} {xs : List Value} (ho : X.ownsRow base e size v n xs) (hg : X.grownBy Y v.ownBlock) : RowIs Y ob 37 [.int .i64 N0, vT, vP, vK, vV, vR] :=
  h.st.row.grown hg (fun q => by have := (ho.lt ob q.symm).1; have := h.st.ob; omega)
theorem RS.pushF (h : RS W X ob base N0 vT vP vK vV vR vF nT nP nK nV nR nF TT PP KK VV RR F) {g cap n' : Nat} {F' : List Nat} (hown : Y.ownsRow base 3 1 (.slice (some ⟨g, 0, none⟩) n' cap) n' (nv F')) (hg : X.grownBy Y vF.ownBlock) (hat : vF.ownBlock = some g ∨ X.heap.size ≤ g) :
    RS W Y ob base N0 vT vP vK vV vR (.slice (some ⟨g, 0, none⟩) n' cap) nT nP nK nV nR n' TT PP KK VV RR F' := h.st.push 5 ⟨3, 1, vF, nF, nv F⟩ rfl hown hg hat
theorem RS.pushT (h : RS W X ob base N0 vT vP vK vV vR vF nT nP nK nV nR nF TT PP KK VV RR F) {g cap n' : Nat} {TT' : List Tr} (hown : Y.ownsRow base 65 3 (.slice (some ⟨g, 0, none⟩) n' cap) n' (tcells TT')) (hg : X.grownBy Y vT.ownBlock) (hat : vT.ownBlock = some g ∨ X.heap.size ≤ g) :
    RS W (Y.setCell ⟨ob, 1, none⟩ (.slice (some ⟨g, 0, none⟩) n' cap)) ob base N0 (.slice (some ⟨g, 0, none⟩) n' cap) vP vK vV vR vF n' nP nK nV nR nF TT' PP KK VV RR F := (h.st.push 0 ⟨65, 3, vT, nT, tcells TT⟩ rfl hown hg hat).store 1 _
theorem RS.pushP (h : RS W X ob base N0 vT vP vK vV vR vF nT nP nK nV nR nF TT PP KK VV RR F) {g cap n' : Nat} {PP' : List Tr} (hown : Y.ownsRow base 80 3 (.slice (some ⟨g, 0, none⟩) n' cap) n' (tcells PP')) (hg : X.grownBy Y vP.ownBlock) (hat : vP.ownBlock = some g ∨ X.heap.size ≤ g) :
    RS W (Y.setCell ⟨ob, 2, none⟩ (.slice (some ⟨g, 0, none⟩) n' cap)) ob base N0 vT (.slice (some ⟨g, 0, none⟩) n' cap) vK vV vR vF nT n' nK nV nR nF TT PP' KK VV RR F := (h.st.push 1 ⟨80, 3, vP, nP, tcells PP⟩ rfl hown hg hat).store 2 _
theorem RS.pushK (h : RS W X ob base N0 vT vP vK vV vR vF nT nP nK nV nR nF TT PP KK VV RR F) {g cap n' : Nat} {KK' : List Int} (hown : Y.ownsRow base 3 1 (.slice (some ⟨g, 0, none⟩) n' cap) n' (ic KK')) (hg : X.grownBy Y vK.ownBlock) (hat : vK.ownBlock = some g ∨ X.heap.size ≤ g) :
    RS W (Y.setCell ⟨ob, 3, none⟩ (.slice (some ⟨g, 0, none⟩) n' cap)) ob base N0 vT vP (.slice (some ⟨g, 0, none⟩) n' cap) vV vR vF nT nP n' nV nR nF TT PP KK' VV RR F := (h.st.push 2 ⟨3, 1, vK, nK, ic KK⟩ rfl hown hg hat).store 3 _
theorem RS.pushV (h : RS W X ob base N0 vT vP vK vV vR vF nT nP nK nV nR nF TT PP KK VV RR F) {g cap n' : Nat} {VV' : List Int} (hown : Y.ownsRow base 3 1 (.slice (some ⟨g, 0, none⟩) n' cap) n' (ic VV')) (hg : X.grownBy Y vV.ownBlock) (hat : vV.ownBlock = some g ∨ X.heap.size ≤ g) :
    RS W (Y.setCell ⟨ob, 4, none⟩ (.slice (some ⟨g, 0, none⟩) n' cap)) ob base N0 vT vP vK (.slice (some ⟨g, 0, none⟩) n' cap) vR vF nT nP nK n' nR nF TT PP KK VV' RR F := (h.st.push 3 ⟨3, 1, vV, nV, ic VV⟩ rfl hown hg hat).store 4 _
theorem RS.pushR (h : RS W X ob base N0 vT vP vK vV vR vF nT nP nK nV nR nF TT PP KK VV RR F) {g cap n' : Nat} {RR' : List Int} (hown : Y.ownsRow base 3 1 (.slice (some ⟨g, 0, none⟩) n' cap) n' (ic RR')) (hg : X.grownBy Y vR.ownBlock) (hat : vR.ownBlock = some g ∨ X.heap.size ≤ g) :
    RS W (Y.setCell ⟨ob, 5, none⟩ (.slice (some ⟨g, 0, none⟩) n' cap)) ob base N0 vT vP vK vV (.slice (some ⟨g, 0, none⟩) n' cap) vF nT nP nK nV n' nF TT PP KK VV RR' F := (h.st.push 4 ⟨3, 1, vR, nR, ic RR⟩ rfl hown hg hat).store 5 _
theorem RS.setN (h : RS W X ob base N0 vT vP vK vV vR vF nT nP nK nV nR nF TT PP KK VV RR F) (N1 : Int) : RS W (X.setCell ⟨ob, 0, none⟩ (.int .i64 N1)) ob base N1 vT vP vK vV vR vF nT nP nK nV nR nF TT PP KK VV RR F := h.st.store 0 _
/-- No row lies in block xg. -/
def OffX (xg : Nat) (vT vP vK vV vR vF : Value) : Prop := vT.ownBlock ≠ some xg ∧ vP.ownBlock ≠ some xg ∧ vK.ownBlock ≠ some xg ∧ vV.ownBlock ≠ some xg ∧ vR.ownBlock ≠ some xg ∧ vF.ownBlock ≠ some xg
theorem RS.offX (h : RS W X ob base N0 vT vP vK vV vR vF nT nP nK nV nR nF TT PP KK VV RR F) : OffX X.heap.size vT vP vK vV vR vF := by
  have f : ∀ {v : Value} {e : TypeId} {size n : Nat} {xs : List Value}, X.ownsRow base e size v n xs → v.ownBlock ≠ some X.heap.size := fun ho q => by have := (ho.lt _ q).2; omega
  exact ⟨f h.rowT, f h.rowP, f h.rowK, f h.rowV, f h.rowR, f h.rowF⟩
theorem OffX.newK {xg g n c s : Nat} (h : OffX xg vT vP vK vV vR vF) (hat : vK.ownBlock = some g ∨ s ≤ g) (hs : xg < s) : OffX xg vT vP (.slice (some ⟨g, 0, none⟩) n c) vV vR vF := by
  refine ⟨h.1, h.2.1, fun q => ?_, h.2.2.2⟩
  have q3 : g = xg := by simpa [Value.ownBlock] using q
  rcases hat with q1 | q1
  · exact h.2.2.1 (by rw [q1, q3])
  · omega
theorem wrapI (n : Nat) (h : n ≤ 100000) : IntKind.i64.wrap (n : Int) = (n : Int) := by simp [IntKind.wrap, IntKind.bits, IntKind.signed]; omega
theorem RS.setX (h : RS W X ob base N0 vT vP vK vV vR vF nT nP nK nV nR nF TT PP KK VV RR F) {xg : Nat} (hx : base ≤ xg) (ho : OffX xg vT vP vK vV vR vF) (i : Nat) (v : Value) : RS W (X.setCell ⟨xg, i, none⟩ v) ob base N0 vT vP vK vV vR vF nT nP nK nV nR nF TT PP KK VV RR F := by
  have hg := grown_set X xg i v
  obtain ⟨o1, o2, o3, o4, o5, o6⟩ := ho
  have hob := h.st.ob
  refine ⟨h.st.row.grown hg (by simp; omega), ⟨fun r hr => ?_, h.st.rows.apart⟩, h.st.but.grown hg h.st.mx (fun q hq => .inl (by cases hq; exact hx)), hob, by have := hg.size; have := h.st.mx; omega⟩
  refine (h.st.rows.own r hr).kept hg (.inr ?_)
  simp only [List.mem_cons, List.not_mem_nil, or_false] at hr
  rcases hr with rfl | rfl | rfl | rfl | rfl | rfl
  · exact o1
  · exact o2
  · exact o3
  · exact o4
  · exact o5
  · exact o6
theorem RS.done {aT aP aK aV aR : Option Addr} {cT cP cK cV cR : Nat} (h : RS W X ob base N0 (.slice aT nT cT) (.slice aP nP cP) (.slice aK nK cK) (.slice aV nV cV) (.slice aR nR cR) vF nT nP nK nV nR nF TT PP KK VV RR F) (hT : nT = TT.length) (hP : nP = PP.length) (hK : nK = KK.length) (hV : nV = VV.length) (hR : nR = RR.length) {b : Nat} (hg : X.grownBy Y (some b)) (hb : b < base) :
    TrisAt Y aT TT ∧ TrisAt Y aP PP ∧ IntsAt Y aK KK ∧ IntsAt Y aV VV ∧ IntsAt Y aR RR := by
  have kT := h.rowT.kept hg (owns_off h.rowT hb)
  have kP := h.rowP.kept hg (owns_off h.rowP hb)
  have kK := h.rowK.kept hg (owns_off h.rowK hb)
  have kV := h.rowV.kept hg (owns_off h.rowV hb)
  have kR := h.rowR.kept hg (owns_off h.rowR hb)
  subst hT hP
  obtain ⟨a1, c1, e1, h1⟩ := owns_tris kT
  obtain ⟨a2, c2, e2, h2⟩ := owns_tris kP
  obtain ⟨a3, c3, e3, h3⟩ := owns_ic kK hK
  obtain ⟨a4, c4, e4, h4⟩ := owns_ic kV hV
  obtain ⟨a5, c5, e5, h5⟩ := owns_ic kR hR
  simp only [Value.slice.injEq] at e1 e2 e3 e4 e5
  exact ⟨by rw [e1.1]; exact h1, by rw [e2.1]; exact h2, by rw [e3.1]; exact h3, by rw [e4.1]; exact h4, by rw [e5.1]; exact h5⟩
theorem RS.low (h : RS W X ob base N0 vT vP vK vV vR vF nT nP nK nV nR nF TT PP KK VV RR F) : Below ob W X := RSt.low h
theorem RS.old (h : RS W X ob base N0 vT vP vK vV vR vF nT nP nK nV nR nF TT PP KK VV RR F) : But base ob W X := h.st.but
theorem RS.mx (h : RS W X ob base N0 vT vP vK vV vR vF nT nP nK nV nR nF TT PP KK VV RR F) : base ≤ X.heap.size := h.st.mx
theorem RS.row (h : RS W X ob base N0 vT vP vK vV vR vF nT nP nK nV nR nF TT PP KK VV RR F) : RowIs X ob 37 [.int .i64 N0, vT, vP, vK, vV, vR] := h.st.row
end
end Go.Proofs.YtknioobpoieohaaGreat

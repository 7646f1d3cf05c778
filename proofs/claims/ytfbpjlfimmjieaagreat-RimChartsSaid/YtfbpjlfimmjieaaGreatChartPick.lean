/- Plain: the corners that stand for a chart's vertices, sorted, each once. A chart is a piece of its surface. slices.SortFunc and Compact of them. The corners that stand for a piece's vertices, by vertex, then by corner: one list, however it is made. A search that keeps the last place found. The triangle under way. Plain (like RowLaw40, over a Piece). A chart, as a surface of its own, hangs together: one shell. Plain. -/
import Derived.Test.YtfbpjlfimmjieaaGreatJoinLaw
import Derived.Test.YtfbpjlfimmjieaaGreatPieceSurf
import Derived.Test.YtfbpjlfimmjieaaGreatRowl
import Derived.WalkSmall
import Derived.Test.YtfbpjlfimmjieaaGreatShellOf
namespace Go.Proofs.YtfbpjlfimmjieaaGreat
set_option linter.unusedVariables false
set_option linter.unusedSimpArgs false
open Go.RowKit
theorem upto_gen (lt : Int → Int → Prop) (zs : List Int) (htr : ∀ a b c, lt a b → lt b c → lt a c) (htot : ∀ a b, a ∈ zs → b ∈ zs → ¬ lt b a → a = b ∨ lt a b) (hs : zs.Pairwise fun a b => ¬ lt b a) : ∀ m, m ≤ zs.length →
    (Lib.compactUpTo zs.toArray m).Pairwise lt ∧ ∀ x, x ∈ Lib.compactUpTo zs.toArray m ↔ ∃ j, ∃ h : j < zs.length, j < m ∧ zs[j] = x := by
  have hle : ∀ i j (hi : i < zs.length) (hj : j < zs.length), i ≤ j → zs[i] = zs[j] ∨ lt zs[i] zs[j] := fun i j hi hj h => by
    by_cases e : i = j
    · subst e; exact .inl rfl
    · exact htot _ _ (List.getElem_mem hi) (List.getElem_mem hj) (List.pairwise_iff_getElem.1 hs i j hi hj (by omega))
  intro m
  induction m with
  | zero => intro _; exact ⟨by simp [Lib.compactUpTo], fun x => ⟨fun h => by simp [Lib.compactUpTo] at h, fun ⟨j, _, h, _⟩ => by omega⟩⟩
  | succ m ih =>
    intro hm
    obtain ⟨h1, h2⟩ := ih (by omega)
    have hml : m < zs.length := by omega
    have hd : zs.toArray[m]! = zs[m] := by simp [getElem!_pos, hml]
    rw [Lib.compactUpTo_succ]
    cases hk : Lib.keeps zs.toArray m with
    | true =>
      simp only [if_true, hd]
      have hlt : ∀ x ∈ Lib.compactUpTo zs.toArray m, lt x zs[m] := by
        intro x hx
        obtain ⟨j, hj, hjm, rfl⟩ := (h2 x).1 hx
        have hm0 : 0 < m := by omega
        have hne : zs[m] ≠ zs[m - 1] := by
          intro e
          have := hk
          simp [Lib.keeps, getElem!_pos, hml, show m - 1 < zs.length by omega, e] at this
          omega
        have q1 := hle j (m - 1) hj (by omega) (by omega)
        have q2 := hle (m - 1) m (by omega) hml (by omega)
        have q2 := q2.resolve_left fun e => hne e.symm
        rcases q1 with q1 | q1
        · rw [q1]; exact q2
        · exact htr _ _ _ q1 q2
      refine ⟨List.pairwise_append.2 ⟨h1, by simp, fun a ha b hb => by simp at hb; subst hb; exact hlt a ha⟩, fun x => ?_⟩
      rw [List.mem_append, h2]
      constructor
      · rintro (⟨j, hj, hjm, e⟩ | hx)
        · exact ⟨j, hj, by omega, e⟩
        · simp at hx; exact ⟨m, hml, by omega, hx.symm⟩
      · rintro ⟨j, hj, hjm, e⟩
        by_cases q : j = m
        · subst q; right; simp [e]
        · exact .inl ⟨j, hj, by omega, e⟩
    | false =>
      simp only [Bool.false_eq_true, if_false, List.append_nil]
      refine ⟨h1, fun x => ?_⟩
      rw [h2]
      constructor
      · rintro ⟨j, hj, hjm, e⟩; exact ⟨j, hj, by omega, e⟩
      · rintro ⟨j, hj, hjm, e⟩
        by_cases q : j = m
        · subst q
          have h := hk
          have hj0 : j ≠ 0 := by rintro rfl; simp [Lib.keeps] at h
          refine ⟨j - 1, by omega, by omega, ?_⟩
          simp [Lib.keeps, getElem!_pos, hj, show j - 1 < zs.length by omega] at h
          first | exact (h (by omega)).symm.trans e | (rw [← e]; exact (h (by omega)).symm) | (rw [← e]; have := h (by omega); omega) | omega
        · exact ⟨j, hj, by omega, e⟩
theorem ltC_trans {T : List Tr} {a b c : Nat} (h1 : ltC T a b) (h2 : ltC T b c) : ltC T a c := by unfold ltC at *; omega
theorem ltC_tot {T : List Tr} {a b : Nat} (h : ¬ ltC T b a) : a = b ∨ ltC T a b := by unfold ltC at *; omega
theorem ltC_irrefl {T : List Tr} {a : Nat} : ¬ ltC T a a := by unfold ltC; omega
theorem compact_nl (T : List Tr) (F1 : List Nat) (hs : F1.Pairwise fun a b => ¬ ltC T b a) : ∃ F : List Nat, Lib.compact (nl F1) = nl F ∧ F.Pairwise (ltC T) ∧ ∀ x, x ∈ F ↔ x ∈ F1 := by
  have hmem : ∀ x : Int, x ∈ nl F1 ↔ ∃ n : Nat, x = (n : Int) ∧ n ∈ F1 := fun x => by
    simp only [nl, List.mem_map]
    constructor
    · rintro ⟨n, h, rfl⟩; exact ⟨n, rfl, h⟩
    · rintro ⟨n, rfl, h⟩; exact ⟨n, h, rfl⟩
  have hu := upto_gen (fun a b => ltC T a.toNat b.toNat) (nl F1) (fun a b c => ltC_trans) (fun a b ha hb h => by
    obtain ⟨x, rfl, -⟩ := (hmem a).1 ha
    obtain ⟨y, rfl, -⟩ := (hmem b).1 hb
    rcases ltC_tot h with e | e
    · left; rw [show x = y by simpa using e]
    · exact .inr e) (by
    unfold nl
    rw [List.pairwise_map]
    refine hs.imp fun h => ?_
    simpa using h) (nl F1).length (Nat.le_refl _)
  have e0 : Lib.compact (nl F1) = Lib.compactUpTo (nl F1).toArray (nl F1).length := by unfold Lib.compact; simp
  rw [← e0] at hu
  obtain ⟨h1, h2⟩ := hu
  have h2' : ∀ x, x ∈ Lib.compact (nl F1) ↔ x ∈ nl F1 := fun x => by
    rw [h2, List.mem_iff_getElem]
    constructor
    · rintro ⟨j, hj, -, e⟩; exact ⟨j, hj, e⟩
    · rintro ⟨j, hj, e⟩; exact ⟨j, hj, hj, e⟩
  refine ⟨(Lib.compact (nl F1)).map Int.toNat, ?_, List.pairwise_map.2 h1, fun x => ?_⟩
  · unfold nl
    rw [List.map_map]
    conv => lhs; rw [← List.map_id (Lib.compact _)]
    refine List.map_congr_left fun x hx => ?_
    obtain ⟨n, rfl, -⟩ := (hmem x).1 ((h2' x).1 hx)
    simp
  · simp only [List.mem_map]
    constructor
    · rintro ⟨y, hy, rfl⟩
      obtain ⟨n, rfl, hn⟩ := (hmem y).1 ((h2' y).1 hy)
      simpa using hn
    · intro hx
      exact ⟨(x : Int), (h2' _).2 ((hmem _).2 ⟨x, rfl, hx⟩), by simp⟩
section
variable {n : Nat} {T : List Tr} {K : List Int} {M L : Nat → Int} {F : List Nat}
/-- A row of numbers as a list. -/
def mL (M : Nat → Int) (n : Nat) : List Int := (List.range n).map M
theorem mL_length (M : Nat → Int) (n : Nat) : (mL M n).length = n := by simp [mL]
theorem mL_get {M : Nat → Int} {n i : Nat} (h : i < n) : I! (mL M n) i = M i := by simp [I!, mL, List.getD_eq_getElem?_getD, h]
/-- The corners that stand for the vertices of the triangles of chart k, as they come. -/
def firstL (L : Nat → Int) (S : List Nat) : List Nat := S.flatMap fun i => [(L (3 * i)).toNat, (L (3 * i + 1)).toNat, (L (3 * i + 2)).toNat]
theorem firstL_snoc (L : Nat → Int) (S : List Nat) (i : Nat) : firstL L (S ++ [i]) = firstL L S ++ [(L (3 * i)).toNat, (L (3 * i + 1)).toNat, (L (3 * i + 2)).toNat] := by simp [firstL]
theorem firstL_length (L : Nat → Int) (S : List Nat) : (firstL L S).length = 3 * S.length := by
  induction S with
  | nil => rfl
  | cons a S ih => simp only [firstL, List.flatMap_cons, List.length_append] at ih ⊢; rw [ih]; simp; omega
theorem firstL_mem {L : Nat → Int} {S : List Nat} {x : Nat} : x ∈ firstL L S ↔ ∃ c, c / 3 ∈ S ∧ x = (L c).toNat := by
  unfold firstL
  rw [List.mem_flatMap]
  constructor
  · rintro ⟨i, hi, hx⟩
    simp only [List.mem_cons, List.not_mem_nil, or_false] at hx
    rcases hx with rfl | rfl | rfl
    · exact ⟨3 * i, by rw [show 3 * i / 3 = i by omega]; exact hi, rfl⟩
    · exact ⟨3 * i + 1, by rw [show (3 * i + 1) / 3 = i by omega]; exact hi, rfl⟩
    · exact ⟨3 * i + 2, by rw [show (3 * i + 2) / 3 = i by omega]; exact hi, rfl⟩
  · rintro ⟨c, hc, rfl⟩
    refine ⟨c / 3, hc, ?_⟩
    rcases (show c = 3 * (c / 3) ∨ c = 3 * (c / 3) + 1 ∨ c = 3 * (c / 3) + 2 by omega) with e | e | e
    · rw [← e]; simp
    · rw [← e]; simp
    · rw [← e]; simp
theorem kchart (hM : IsShells (KAdj T K) T.length M) {x y : Nat} (h : KSAdj T K x y) : I! (mL M T.length) (y / 3) = I! (mL M T.length) (x / 3) := by
  have ha := ksadj_tri h
  have hi := kadj_in _ _ ha
  rw [mL_get hi.1, mL_get hi.2]
  exact hM.clo _ _ hi.1 hi.2 ha
theorem IsShells.conn_eq (hM : IsShells (KAdj T K) T.length M) {i j : Nat} (h : Conn (KAdj T K) i j) : (i < T.length → M i = M j) ∧ (i < T.length → j < T.length) := by
  induction h with
  | refl => exact ⟨fun _ => rfl, fun h => h⟩
  | step h' s ih =>
    have hs := kadj_in _ _ s
    exact ⟨fun h => by rw [ih.1 h, hM.clo _ _ hs.1 hs.2 s], fun _ => hs.2⟩
  | back h' s ih =>
    have hs := kadj_in _ _ s
    exact ⟨fun h => by rw [ih.1 h, ← hM.clo _ _ hs.1 hs.2 s], fun _ => hs.1⟩
theorem nev_corner (hs : Surf n T) {z z' : Nat} (hz : z < 3 * T.length) (h3 : z' / 3 = z / 3) (hne : z' ≠ z) : vt T (z' : Nat) ≠ vt T (z : Nat) := fun e => by
  rw [vt_natP, vt_natP, h3] at e
  have := tg_inj (hs.noloop (z / 3) (by omega)) (by omega) (by omega) e
  omega
/-- A chart is a piece. -/
theorem kpiece (hs : Surf n T) (hM : IsShells (KAdj T K) T.length M) (hL : IsLeast (KSAdj T K) (3 * T.length) L) (k : Int) (hF : F.Pairwise (ltC T)) (hm : ∀ x, x ∈ F ↔ x ∈ firstL L (sel (mL M T.length) k T.length)) : Piece (KSAdj T K) T (mL M T.length) k L F where
  least := hL
  perm := by
    refine (List.perm_ext_iff_of_nodup (hF.imp fun h e => by subst e; exact ltC_irrefl h) ?_).2 fun x => ?_
    · unfold reps; exact List.nodup_range.filter _
    · rw [hm, firstL_mem, reps_mem]
      constructor
      · rintro ⟨c, hc, rfl⟩
        obtain ⟨h1, h2⟩ := selP_mem.1 hc
        have hc3 : c < 3 * T.length := by omega
        have ht := hL.top ksadj_in hc3
        refine ⟨ht.1, ?_, by have := hL.nonneg c hc3; rw [ht.2]; omega⟩
        rw [← h2]
        have hcon := kside_tri (hL.con c hc3)
        have hi1 : (L c).toNat / 3 < T.length := by have := ht.1; omega
        rw [mL_get hi1, mL_get h1]
        exact (hM.conn_eq hcon).1 hi1
      · rintro ⟨h1, h2, h3⟩
        exact ⟨x, selP_mem.2 ⟨by omega, h2⟩, by rw [h3]; simp⟩
  sorted := hF.imp fun h h' => ltC_irrefl (ltC_trans h h')
  inb := ksadj_in
  sym := ksadj_symm hs
  tri x y h := kchart hM h
  ver x y h := ksadj_vt hs h
  oth := by
    rintro x y ⟨hx, hy, o, ⟨h, rfl⟩ | ⟨h, rfl⟩⟩
    · have hol := (h.symm hs (nxn_lt hx)).1
      exact ⟨pvn x, pvn o, ⟨pvn_lt hx, pvn_lt hol, o, .inr ⟨by rw [show pvn (pvn x) = nxn x by unfold pvn nxn; omega]; exact h, rfl⟩⟩, pvn_div x, by rw [pvn_div, nxn_div], nev_corner hs hx (pvn_div x) (by unfold pvn; omega)⟩
    · have hol := (h.symm hs (pvn_lt hx)).1
      exact ⟨nxn x, nxn o, ⟨nxn_lt hx, nxn_lt hol, o, .inl ⟨by rw [show nxn (nxn x) = pvn x by unfold pvn nxn; omega]; exact h, rfl⟩⟩, nxn_div x, by rw [nxn_div, pvn_div], nev_corner hs hx (nxn_div x) (by unfold nxn; omega)⟩
end
/-- Is a corner the least on its side, of that bay, at that vertex? -/
def isRepK (T : List Tr) (bays : List Int) (bay : Int) (L : Nat → Int) (v : Int) (c : Nat) : Bool := decide (vt T (c : Int) = v) && decide (I! bays (c / 3) = bay) && decide (L c = (c : Int))
/-- Those of one vertex among the first corners. -/
def repK (T : List Tr) (bays : List Int) (bay : Int) (L : Nat → Int) (v : Int) (k : Nat) : List Nat := (List.range k).filter fun c => isRepK T bays bay L v c
theorem repK_yes {T : List Tr} {bays : List Int} {bay : Int} {L : Nat → Int} {v : Int} {k : Nat} (h : isRepK T bays bay L v k = true) : repK T bays bay L v (k + 1) = repK T bays bay L v k ++ [k] := by simp [repK, List.range_succ, h]
theorem repK_no {T : List Tr} {bays : List Int} {bay : Int} {L : Nat → Int} {v : Int} {k : Nat} (h : isRepK T bays bay L v k = false) : repK T bays bay L v (k + 1) = repK T bays bay L v k := by simp [repK, List.range_succ, h]
theorem repK_mem {T : List Tr} {bays : List Int} {bay : Int} {L : Nat → Int} {v : Int} {k c : Nat} : c ∈ repK T bays bay L v k ↔ c < k ∧ vt T (c : Int) = v ∧ I! bays (c / 3) = bay ∧ L c = (c : Int) := by
  simp [repK, isRepK, and_assoc]
/-- Those of the first vertices. -/
def rowK (T : List Tr) (bays : List Int) (bay : Int) (L : Nat → Int) (m : Nat) : List Nat := (List.range m).flatMap fun (v : Nat) => repK T bays bay L (v : Int) (3 * T.length)
theorem rowK_succ (T : List Tr) (bays : List Int) (bay : Int) (L : Nat → Int) (m : Nat) : rowK T bays bay L (m + 1) = rowK T bays bay L m ++ repK T bays bay L (m : Int) (3 * T.length) := by simp [rowK, List.range_succ]
theorem rowK_mem {T : List Tr} {bays : List Int} {bay : Int} {L : Nat → Int} {m c : Nat} : c ∈ rowK T bays bay L m ↔ ∃ v : Nat, v < m ∧ c < 3 * T.length ∧ vt T (c : Int) = (v : Int) ∧ I! bays (c / 3) = bay ∧ L c = (c : Int) := by
  simp only [rowK, List.mem_flatMap, List.mem_range, repK_mem]
theorem rowK_sorted (T : List Tr) (bays : List Int) (bay : Int) (L : Nat → Int) : ∀ m, (rowK T bays bay L m).Pairwise (fun a b => ltC T a b)
  | 0 => by simp [rowK]
  | m + 1 => by
    rw [rowK_succ]
    refine List.pairwise_append.2 ⟨rowK_sorted T bays bay L m, ?_, fun a ha b hb => ?_⟩
    · have hp : ((List.range (3 * T.length)).filter fun c => isRepK T bays bay L (m : Int) c).Pairwise (· < ·) := List.Pairwise.filter _ (List.pairwise_lt_range)
      rw [List.pairwise_iff_getElem]
      intro i j hi hj hij
      have h1 := List.pairwise_iff_getElem.1 hp i j hi hj hij
      have mi := repK_mem.1 (List.getElem_mem hi)
      have mj := repK_mem.1 (List.getElem_mem hj)
      right
      unfold vtx
      rw [if_pos mi.1, if_pos mj.1, mi.2.1, mj.2.1]
      exact ⟨rfl, h1⟩
    · obtain ⟨v, hv, hc, h1, -⟩ := rowK_mem.1 ha
      have h2 := repK_mem.1 hb
      left
      unfold vtx
      rw [if_pos hc, if_pos h2.1, h1, h2.2.1]
      omega
theorem idxK_at {R : List Nat} {v : Nat} (h : v ∈ R) : ∃ k : Nat, Lib.idxOf (nl R) (v : Int) = k ∧ k < R.length ∧ R[k]? = some v := by
  have hk := List.idxOf_lt_length_iff.2 h
  have hget : R[R.idxOf v] = v := List.getElem_idxOf hk
  refine ⟨R.idxOf v, ?_, hk, by rw [List.getElem?_eq_getElem hk, hget]⟩
  have := Lib.idxOf_hit (nl R) R.length (R.idxOf v) (v : Int) hk (by simp [nl]) (by simp [nl, List.getD_eq_getElem?_getD, List.getElem?_eq_getElem hk]) fun j hj e => by
    have hj' : j < R.length := by omega
    have e' : R[j] = v := by
      simp only [nl, List.getD_eq_getElem?_getD, List.getElem?_map, List.getElem?_eq_getElem hj', Option.map_some, Option.getD_some] at e
      omega
    have := List.not_of_lt_findIdx (p := (· == v)) (xs := R) (i := j) hj
    simp [e'] at this
  rwa [show R.length = (nl R).length by simp [nl], List.take_length] at this
/-- The last place below k at which x stands, or d. -/
def lastK (R : List Nat) (x : Int) (d : Int) : Nat → Int
  | 0 => d
  | k + 1 => if (R[k]?.map fun (a : Nat) => (a : Int)) = some x then (k : Int) else lastK R x d k
theorem lastK_only {R : List Nat} {x : Nat} {d : Int} (hn : R.Nodup) {j : Nat} (hj : R[j]? = some x) : ∀ k, j < k → lastK R (x : Int) d k = (j : Int)
  | 0, h => absurd h (Nat.not_lt_zero _)
  | k + 1, h => by
    unfold lastK
    by_cases hk : k = j
    · subst hk
      rw [if_pos (by rw [hj]; rfl)]
    · rw [if_neg, lastK_only hn hj k (by omega)]
      intro e
      rw [Option.map_eq_some_iff] at e
      obtain ⟨a, ha, hax⟩ := e
      have hax' : a = x := by omega
      subst hax'
      obtain ⟨h1, e1⟩ := List.getElem?_eq_some_iff.1 ha
      obtain ⟨h2, e2⟩ := List.getElem?_eq_some_iff.1 hj
      have hp := List.pairwise_iff_getElem.1 (List.nodup_iff_pairwise_ne.1 hn)
      rcases Nat.lt_or_gt_of_ne hk with hlt | hlt
      · exact hp k j h1 h2 hlt (e1.trans e2.symm)
      · exact hp j k h2 h1 hlt (e2.trans e1.symm)
theorem lastK_none {R : List Nat} {x d : Int} (hx : ∀ a ∈ R, (a : Int) ≠ x) : ∀ k, lastK R x d k = d
  | 0 => rfl
  | k + 1 => by
    unfold lastK
    rw [if_neg, lastK_none hx k]
    intro e
    rw [Option.map_eq_some_iff] at e
    obtain ⟨a, ha, hax⟩ := e
    exact hx a (List.mem_of_getElem? ha) hax
theorem lastK_ix {F : List Nat} (hn : F.Nodup) {x d : Int} (h0 : 0 ≤ x) (h : x.toNat ∈ F) : lastK F x d F.length = ixF F x := by
  have hl := List.idxOf_lt_length_iff.2 h
  have e : x = ((x.toNat : Nat) : Int) := by omega
  have := lastK_only (d := d) hn (j := F.idxOf x.toNat) (x := x.toNat) (by rw [List.getElem?_eq_getElem hl, List.getElem_idxOf hl]) F.length hl
  rw [← e] at this
  exact this
theorem repK_le (T : List Tr) (bays : List Int) (bay : Int) (L : Nat → Int) (v : Int) (k : Nat) : (repK T bays bay L v k).length ≤ k := by
  have := List.length_filter_le (fun c => isRepK T bays bay L v c) (List.range k)
  simpa [repK] using this
theorem rowK_le {T : List Tr} {bays : List Int} {bay : Int} {L : Nat → Int} (hl : T.length ≤ 1000) : ∀ m, (rowK T bays bay L m).length ≤ 3000 * m
  | 0 => by simp [rowK]
  | m + 1 => by
    rw [rowK_succ, List.length_append]
    have h1 := rowK_le (bays := bays) (bay := bay) (L := L) hl m
    have h2 := repK_le T bays bay L (m : Int) (3 * T.length)
    omega
theorem cutTK_not {bays : List Int} {bay : Int} {t : Nat} (L : Nat → Int) (F : List Nat) (hb : I! bays t ≠ bay) : cutT bays bay L F (t + 1) = cutT bays bay L F t := by
  unfold cutT
  rw [sel_succ, if_neg hb]
theorem cutTK_yes {bays : List Int} {bay : Int} {t : Nat} (L : Nat → Int) (F : List Nat) (hb : I! bays t = bay) : cutT bays bay L F (t + 1) = cutT bays bay L F t ++ [cutTri L F t] := by
  unfold cutT
  rw [sel_succ, if_pos hb, List.map_append]
  rfl
theorem cutTK_zero (bays : List Int) (bay : Int) (L : Nat → Int) (F : List Nat) : cutT bays bay L F 0 = [] := by unfold cutT sel; simp
theorem rowK_nodup (T : List Tr) (bays : List Int) (bay : Int) (L : Nat → Int) (m : Nat) : (rowK T bays bay L m).Nodup := List.nodup_iff_pairwise_ne.2 (List.pairwise_iff_getElem.2 fun i j hi hj hij e => by
  have := List.pairwise_iff_getElem.1 (rowK_sorted T bays bay L m) i j hi hj hij
  rw [e] at this
  unfold ltC at this
  omega)
/-- The triangle under way: s numbers done, the next one m. -/
def triK (F : List Nat) (L : Nat → Int) (t s : Nat) (m : Int) : Nat → Int := fun j => if j < s then ixF F (L (3 * t + j)) else if j = s then m else 0
theorem triK_upd (F : List Nat) (L : Nat → Int) (t s : Nat) (m x : Int) : upd (triK F L t s m) s x = triK F L t s x := by
  funext j
  unfold upd triK
  by_cases h : j = s
  · subst h; simp
  · by_cases h2 : j < s <;> simp [h, h2]
theorem triK_next (F : List Nat) (L : Nat → Int) (t s : Nat) : triK F L t s (ixF F (L (3 * t + s))) = triK F L t (s + 1) 0 := by
  funext j
  unfold triK
  by_cases h : j = s
  · subst h; simp
  · by_cases h2 : j < s
    · have : j < s + 1 := by omega
      simp [h2, this]
    · have : ¬ j < s + 1 := by omega
      simp [h2, h, this]
theorem triK_zero (F : List Nat) (L : Nat → Int) (t : Nat) : triK F L t 0 0 = fun _ => 0 := by
  funext j
  unfold triK
  by_cases h : j = 0 <;> simp [h]
theorem lastK_yes {R : List Nat} {x d : Int} {k c : Nat} (h : R[k]? = some c) (hx : (c : Int) = x) : lastK R x d (k + 1) = (k : Int) := by
  unfold lastK
  rw [if_pos]
  rw [h, ← hx]
  rfl
theorem lastK_no {R : List Nat} {x d : Int} {k c : Nat} (h : R[k]? = some c) (hx : ¬ (c : Int) = x) : lastK R x d (k + 1) = lastK R x d k := by
  conv => lhs; unfold lastK
  rw [if_neg]
  rw [h]
  intro e
  exact hx (by simpa using e)
theorem firstL_reps {n : Nat} {T : List Tr} {K : List Int} {M L : Nat → Int} (hM : IsShells (KAdj T K) T.length M) (hL : IsLeast (KSAdj T K) (3 * T.length) L) (k : Int) (x : Nat) : x ∈ firstL L (sel (mL M T.length) k T.length) ↔ x ∈ reps (mL M T.length) k L (3 * T.length) := by
  rw [firstL_mem, reps_mem]
  constructor
  · rintro ⟨c, hc, rfl⟩
    obtain ⟨h1, h2⟩ := selP_mem.1 hc
    have hc3 : c < 3 * T.length := by omega
    have ht := hL.top ksadj_in hc3
    refine ⟨ht.1, ?_, by have := hL.nonneg c hc3; rw [ht.2]; omega⟩
    rw [← h2]
    have hcon := kside_tri (hL.con c hc3)
    have hi1 : (L c).toNat / 3 < T.length := by have := ht.1; omega
    rw [mL_get hi1, mL_get h1]
    exact (hM.conn_eq hcon).1 hi1
  · rintro ⟨h1, h2, h3⟩
    exact ⟨x, selP_mem.2 ⟨by omega, h2⟩, by rw [h3]; simp⟩
/-- The row of gypsumref32.Surface tells of a chart. -/
theorem rowK_piece {n : Nat} {T : List Tr} {K : List Int} {M L : Nat → Int} (hs : Surf n T) (hM : IsShells (KAdj T K) T.length M) (hL : IsLeast (KSAdj T K) (3 * T.length) L) (k : Int) : Piece (KSAdj T K) T (mL M T.length) k L (rowK T (mL M T.length) k L n) :=
  kpiece hs hM hL k (rowK_sorted _ _ _ _ _) fun x => by
    rw [firstL_reps (n := n) hM hL, reps_mem, rowK_mem]
    constructor
    · rintro ⟨v, hv, h1, -, h2, h3⟩
      exact ⟨h1, h2, h3⟩
    · rintro ⟨h1, h2, h3⟩
      have := hs.vin.vt (c := (x : Int)) (by omega) (by omega)
      exact ⟨(vt T (x : Int)).toNat, by omega, h1, by omega, h2, h3⟩
theorem Piece.only {A : Nat → Nat → Prop} {T : List Tr} {bays : List Int} {bay : Int} {L : Nat → Int} {F G : List Nat} (h : Piece A T bays bay L F) (g : Piece A T bays bay L G) : F = G :=
  (h.perm.trans g.perm.symm).eq_of_pairwise (le := fun a b => ¬ ltC T b a) (fun a b _ _ h1 h2 => by unfold ltC at h1 h2; omega) h.sorted g.sorted
theorem cutTri_congr {n : Nat} {L L' : Nat → Int} {F : List Nat} {i : Nat} (h : ∀ c, c < 3 * n → L c = L' c) (hi : i < n) : cutTri L F i = cutTri L' F i := by
  unfold cutTri
  rw [h (3 * i) (by omega), h (3 * i + 1) (by omega), h (3 * i + 2) (by omega)]
theorem cutT_congr {n : Nat} {bays : List Int} {bay : Int} {L L' : Nat → Int} {F : List Nat} (h : ∀ c, c < 3 * n → L c = L' c) : cutT bays bay L F n = cutT bays bay L' F n := by
  unfold cutT
  exact List.map_congr_left fun i hi => cutTri_congr h (selP_mem.1 hi).1
theorem mL_congr {M M' : Nat → Int} {n : Nat} (h : ∀ i, i < n → M i = M' i) : mL M n = mL M' n := by
  unfold mL
  exact List.map_congr_left fun i hi => h i (List.mem_range.1 hi)
theorem reps_congr {bays : List Int} {bay : Int} {L L' : Nat → Int} {n : Nat} (h : ∀ c, c < n → L c = L' c) : reps bays bay L n = reps bays bay L' n := by
  unfold reps
  exact List.filter_congr fun c hc => by rw [h c (List.mem_range.1 hc)]
section
variable {n : Nat} {T : List Tr} {K : List Int} {M L : Nat → Int} {F : List Nat} {k : Int}
theorem cut_vt {bays : List Int} {i t : Nat} (h : (sel bays k T.length)[i]? = some t) {j : Nat} (hj : j < 3) : vt (cutT bays k L F T.length) ((3 * i + j : Nat) : Int) = ixF F (L (3 * t + j)) := by
  rw [vt_natP, show (3 * i + j) / 3 = i by omega, show (3 * i + j) % 3 = j by omega, cutP_get T h, tg_cutTriP t hj]
theorem cut_in {bays : List Int} {i t : Nat} (h : (sel bays k T.length)[i]? = some t) : i < (cutT bays k L F T.length).length := by
  unfold cutT
  rw [List.length_map]
  exact (List.getElem?_eq_some_iff.1 h).1
theorem sel_inj {bays : List Int} {i j t m : Nat} (h : (sel bays k m)[i]? = some t) (g : (sel bays k m)[j]? = some t) : i = j := by
  obtain ⟨h1, e1⟩ := List.getElem?_eq_some_iff.1 h
  obtain ⟨h2, e2⟩ := List.getElem?_eq_some_iff.1 g
  have hp := List.pairwise_iff_getElem.1 (selP_sorted bays k m)
  rcases Nat.lt_trichotomy i j with l | l | l
  · have := hp i j h1 h2 l; omega
  · exact l
  · have := hp j i h2 h1 l; omega
theorem nxn3 (c : Nat) : nxn c = 3 * (c / 3) + (c % 3 + 1) % 3 := by unfold nxn; omega
theorem pvn3 (c : Nat) : pvn c = 3 * (c / 3) + (c % 3 + 2) % 3 := by unfold pvn; omega
/-- Corners that face each other over an open edge face each other in the chart. -/
theorem cut_opp (hs : Surf n T) (hl : T.length ≤ 1000) (hM : IsShells (KAdj T K) T.length M) (hp : Piece (KSAdj T K) T (mL M T.length) k L F) {c o : Nat} (hc : c < 3 * T.length) (h : OpenK T K c o) {i i' : Nat} (hi : (sel (mL M T.length) k T.length)[i]? = some (c / 3)) (hi' : (sel (mL M T.length) k T.length)[i']? = some (o / 3)) :
    opp (cutT (mL M T.length) k L F T.length) ((3 * i + c % 3 : Nat) : Int) = ((3 * i' + o % 3 : Nat) : Int) := by
  have hS := hp.surf hs hl
  have ho := (h.symm hs hc).1
  obtain ⟨e1, e2⟩ := open_sides hs hc h
  have hb := (selP_mem.1 (List.mem_of_getElem? hi)).2
  have hb' := (selP_mem.1 (List.mem_of_getElem? hi')).2
  have num : ∀ x y, x < 3 * T.length → y < 3 * T.length → x / 3 = c / 3 → y / 3 = o / 3 → KSAdj T K x y → ixF F (L y) = ixF F (L x) := fun x y hx hy q1 q2 a =>
    ((hp.num_iff hx (by rw [q1]; exact hb) hy (by rw [q2]; exact hb')).2 (.step (.refl _) a)).symm
  have v1 : vt (cutT (mL M T.length) k L F T.length) ((nxn (3 * i' + o % 3) : Nat) : Int) = vt (cutT (mL M T.length) k L F T.length) ((pvn (3 * i + c % 3) : Nat) : Int) := by
    rw [nxn3, pvn3, show (3 * i' + o % 3) / 3 = i' by omega, show (3 * i + c % 3) / 3 = i by omega, cut_vt hi' (Nat.mod_lt _ (by omega)), cut_vt hi (Nat.mod_lt _ (by omega))]
    rw [show 3 * (o / 3) + ((3 * i' + o % 3) % 3 + 1) % 3 = nxn o by unfold nxn; omega, show 3 * (c / 3) + ((3 * i + c % 3) % 3 + 2) % 3 = pvn c by unfold pvn; omega]
    exact num _ _ (pvn_lt hc) (nxn_lt ho) (pvn_div c) (nxn_div o) e2
  have v2 : vt (cutT (mL M T.length) k L F T.length) ((pvn (3 * i' + o % 3) : Nat) : Int) = vt (cutT (mL M T.length) k L F T.length) ((nxn (3 * i + c % 3) : Nat) : Int) := by
    rw [pvn3, nxn3, show (3 * i' + o % 3) / 3 = i' by omega, show (3 * i + c % 3) / 3 = i by omega, cut_vt hi' (Nat.mod_lt _ (by omega)), cut_vt hi (Nat.mod_lt _ (by omega))]
    rw [show 3 * (o / 3) + ((3 * i' + o % 3) % 3 + 2) % 3 = pvn o by unfold pvn; omega, show 3 * (c / 3) + ((3 * i + c % 3) % 3 + 1) % 3 = nxn c by unfold nxn; omega]
    exact num _ _ (nxn_lt hc) (pvn_lt ho) (nxn_div c) (pvn_div o) e1
  have hlt := cut_in (L := L) (F := F) hi'
  have hed : edgeAt (cutT (mL M T.length) k L F T.length) ((3 * i' + o % 3 : Nat) : Int) = (vt (cutT (mL M T.length) k L F T.length) ((pvn (3 * i + c % 3) : Nat) : Int), vt (cutT (mL M T.length) k L F T.length) ((nxn (3 * i + c % 3) : Nat) : Int)) := by
    rw [edgeAt_nat, v1, v2]
  rw [opp_nat]
  obtain ⟨d, hd, hdl, hde⟩ := facing_some (facing_of (show 3 * i' + o % 3 < 3 * (cutT (mL M T.length) k L F T.length).length by omega) hed)
  rw [hd, hS.edge_c hdl (show 3 * i' + o % 3 < 3 * (cutT (mL M T.length) k L F T.length).length by omega) (hde.trans hed.symm)]
theorem cut_adj (hs : Surf n T) (hl : T.length ≤ 1000) (hM : IsShells (KAdj T K) T.length M) (hp : Piece (KSAdj T K) T (mL M T.length) k L F) {a b : Nat} (h : KAdj T K a b) {i i' : Nat} (hi : (sel (mL M T.length) k T.length)[i]? = some a) (hi' : (sel (mL M T.length) k T.length)[i']? = some b) : Adj (cutT (mL M T.length) k L F T.length) i i' := by
  obtain ⟨c, o, hc, -, ho, rfl, rfl⟩ := h
  have e := cut_opp hs hl hM hp hc ho hi hi'
  refine ⟨c % 3, by omega, ?_, ?_⟩
  · rw [show (3 * (i : Int) + ((c % 3 : Nat) : Int)) = ((3 * i + c % 3 : Nat) : Int) by omega, e]; omega
  · rw [show (3 * (i : Int) + ((c % 3 : Nat) : Int)) = ((3 * i + c % 3 : Nat) : Int) by omega, e]; omega
/-- What joins next triangles of a chart joins them all. -/
theorem chart_gen (hs : Surf n T) (hM : IsShells (KAdj T K) T.length M) (hne : sel (mL M T.length) k T.length ≠ []) {B : Nat → Nat → Prop} (hB : ∀ a b i i', KAdj T K a b → (sel (mL M T.length) k T.length)[i]? = some a → (sel (mL M T.length) k T.length)[i']? = some b → B i i')
    {R : Nat → Int} (hR : IsShells B (cutT (mL M T.length) k L F T.length).length R) :
    (∀ i, i < (cutT (mL M T.length) k L F T.length).length → R i = 0) ∧ cnt R (cutT (mL M T.length) k L F T.length).length = 1 := by
  obtain ⟨U, hU⟩ : ∃ U, U = cutT (mL M T.length) k L F T.length := ⟨_, rfl⟩
  have hlen : U.length = (sel (mL M T.length) k T.length).length := by rw [hU]; unfold cutT; rw [List.length_map]
  have inS : ∀ a b, (∃ i : Nat, (sel (mL M T.length) k T.length)[i]? = some a) → KAdj T K a b → ∃ i : Nat, (sel (mL M T.length) k T.length)[i]? = some b := fun a b ⟨i, hi⟩ h => by
    have m := selP_mem.1 (List.mem_of_getElem? hi)
    have hin := kadj_in _ _ h
    refine List.mem_iff_getElem?.1 (selP_mem.2 ⟨hin.2, ?_⟩)
    rw [mL_get hin.2, hM.clo _ _ hin.1 hin.2 h, ← mL_get (M := M) hin.1, m.2]
  have gen : ∀ a b, Conn (KAdj T K) a b → ∀ p, (sel (mL M T.length) k T.length)[p]? = some a → ∃ q : Nat, (sel (mL M T.length) k T.length)[q]? = some b ∧ R p = R q := by
    intro a b c
    induction c with
    | refl => intro p hpp; exact ⟨p, hpp, rfl⟩
    | step _ s ih =>
      intro p hpp
      obtain ⟨q, hq, e⟩ := ih p hpp
      obtain ⟨r, hr⟩ := inS _ _ ⟨q, hq⟩ s
      exact ⟨r, hr, e.trans (hR.clo q r (cut_in hq) (cut_in hr) (hB _ _ _ _ s hq hr)).symm⟩
    | back _ s ih =>
      intro p hpp
      obtain ⟨q, hq, e⟩ := ih p hpp
      have s' := kadj_symm hs _ _ s
      obtain ⟨r, hr⟩ := inS _ _ ⟨q, hq⟩ s'
      exact ⟨r, hr, e.trans (hR.clo q r (cut_in hq) (cut_in hr) (hB _ _ _ _ s' hq hr)).symm⟩
  rw [← hU] at hR ⊢
  have all : ∀ p q, p < U.length → q < U.length → R p = R q := fun p q h1 h2 => by
    rw [hlen] at h1 h2
    have ha := List.getElem?_eq_getElem h1
    have hb := List.getElem?_eq_getElem h2
    have ma := selP_mem.1 (List.mem_of_getElem? ha)
    have mb := selP_mem.1 (List.mem_of_getElem? hb)
    obtain ⟨r, hr, e⟩ := gen _ _ (hM.con _ _ ma.1 mb.1 (by rw [← mL_get (M := M) ma.1, ← mL_get (M := M) mb.1, ma.2, mb.2])) p ha
    rw [e, sel_inj hr hb]
  have zero : ∀ p, p < U.length → R p = 0 := fun p h1 => by
    have h0 := hR.nonneg p h1
    by_cases e : R p = 0
    · exact e
    · obtain ⟨j, hj, e'⟩ := hR.rg p h1 0 (by omega) (by omega)
      have := all j p (by omega) h1
      omega
  refine ⟨zero, ?_⟩
  have hpos : 0 < U.length := by rw [hlen]; exact List.length_pos_iff.2 hne
  have h1 : ∀ m, m ≤ U.length → 0 < m → cnt R m = 1 := by
    intro m
    induction m with
    | zero => intro _ h; omega
    | succ m ih =>
      intro hm _
      show max (cnt R m) (R m + 1) = 1
      rw [zero m (by omega)]
      by_cases e : m = 0
      · subst e; rfl
      · rw [ih (by omega) (by omega)]; rfl
  exact h1 _ (Nat.le_refl _) hpos
/-- A chart is of one shell. -/
theorem chart_one (hs : Surf n T) (hl : T.length ≤ 1000) (hM : IsShells (KAdj T K) T.length M) (hp : Piece (KSAdj T K) T (mL M T.length) k L F) (hne : sel (mL M T.length) k T.length ≠ []) {R : Nat → Int} (hR : IsShells (Adj (cutT (mL M T.length) k L F T.length)) (cutT (mL M T.length) k L F T.length).length R) :
    (∀ i, i < (cutT (mL M T.length) k L F T.length).length → R i = 0) ∧ cnt R (cutT (mL M T.length) k L F T.length).length = 1 :=
  chart_gen hs hM hne (fun _ _ _ _ h hi hi' => cut_adj hs hl hM hp h hi hi') hR
end
end Go.Proofs.YtfbpjlfimmjieaaGreat

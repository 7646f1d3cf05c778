/- The border of a surface: what comes behind a vertex; the loops. Plain. -/
import Derived.Test.YtbeefabboabfgaaGreatFanPerm
import Derived.Test.YtbeefabboabfgaaGreatBordEdge
namespace Go.Proofs.YtbeefabboabfgaaGreat
set_option linter.unusedVariables false
set_option linter.unusedSimpArgs false
open Go.RowKit
/-- What comes behind a vertex, by some edges. -/
def nextB (E : List (Int × Int)) (v : Int) : Option Int := (E.find? fun e => e.2 == v).map Prod.fst
def sg (E : List (Int × Int)) (v : Int) : Int := (nextB E v).getD 0
/-- Edges of which no two begin, no two end at a vertex; where one begins, one ends. -/
structure OneIn (E : List (Int × Int)) : Prop where
  ends : (E.map Prod.snd).Nodup
  starts : (E.map Prod.fst).Nodup
  closed : ∀ x, x ∈ E.map Prod.fst → x ∈ E.map Prod.snd
theorem nextB_none {E : List (Int × Int)} {v : Int} : nextB E v = none ↔ v ∉ E.map Prod.snd := by
  unfold nextB
  rw [Option.map_eq_none_iff, List.find?_eq_none]
  constructor
  · intro h hm
    obtain ⟨e, he, rfl⟩ := List.mem_map.1 hm
    exact h e he (by simp)
  · intro h e he hv
    exact h (List.mem_map.2 ⟨e, he, by simpa using hv⟩)
theorem nextB_some {E : List (Int × Int)} {v a : Int} (h : nextB E v = some a) : (a, v) ∈ E := by
  unfold nextB at h
  obtain ⟨e, he, h2⟩ := Option.map_eq_some_iff.1 h
  have h3 := List.find?_some he
  have h4 := List.mem_of_find?_eq_some he
  have h5 : e.2 = v := by simpa using h3
  rw [← h2, ← h5]
  exact h4
theorem nextB_of {E : List (Int × Int)} (h : (E.map Prod.snd).Nodup) {v a : Int} (hm : (a, v) ∈ E) : nextB E v = some a := by
  cases hb : nextB E v with
  | none => exact absurd (List.mem_map.2 ⟨(a, v), hm, rfl⟩) (nextB_none.1 hb)
  | some b =>
    have h1 := nextB_some hb
    have hp := List.pairwise_map.1 (List.nodup_iff_pairwise_ne.1 h)
    obtain ⟨i, hi, ei⟩ := List.mem_iff_getElem.1 hm
    obtain ⟨j, hj, ej⟩ := List.mem_iff_getElem.1 h1
    rcases Nat.lt_trichotomy i j with l | l | l
    · exact absurd (by rw [ei, ej]) (List.pairwise_iff_getElem.1 hp i j hi hj l)
    · subst l
      rw [ei] at ej
      simp only [Prod.mk.injEq, and_true] at ej
      rw [ej]
    · exact absurd (by rw [ei, ej]) (List.pairwise_iff_getElem.1 hp j i hj hi l)
theorem nextB_snoc {E : List (Int × Int)} {e : Int × Int} (h : e.2 ∉ E.map Prod.snd) : nextB (E ++ [e]) = fun v => if v = e.2 then some e.1 else nextB E v := by
  funext v
  by_cases hv : v = e.2
  · subst hv
    rw [if_pos rfl]
    have h0 := nextB_none.2 h
    unfold nextB at h0 ⊢
    rw [Option.map_eq_none_iff] at h0
    rw [List.find?_append, h0]
    simp
  · rw [if_neg hv]
    unfold nextB
    rw [List.find?_append]
    have : ([e].find? fun e' => e'.2 == v) = none := by
      simp only [List.find?_eq_none, List.mem_singleton, forall_eq, beq_iff_eq]
      exact fun h => hv h.symm
    rw [this, Option.or_none]
section
variable {E : List (Int × Int)}
theorem OneIn.sg_mem (h : OneIn E) {v : Int} (hv : v ∈ E.map Prod.snd) : (sg E v, v) ∈ E := by
  cases hb : nextB E v with
  | none => exact absurd hv (nextB_none.1 hb)
  | some b =>
    have : sg E v = b := by unfold sg; rw [hb]; rfl
    rw [this]
    exact nextB_some hb
theorem OneIn.sg_in (h : OneIn E) {v : Int} (hv : v ∈ E.map Prod.snd) : sg E v ∈ E.map Prod.snd := h.closed _ (List.mem_map.2 ⟨_, h.sg_mem hv, rfl⟩)
theorem OneIn.sg_inj (h : OneIn E) {v u : Int} (hv : v ∈ E.map Prod.snd) (hu : u ∈ E.map Prod.snd) (e : sg E v = sg E u) : v = u := by
  have h1 := h.sg_mem hv
  have h2 := h.sg_mem hu
  rw [← e] at h2
  have hp := List.pairwise_map.1 (List.nodup_iff_pairwise_ne.1 h.starts)
  obtain ⟨i, hi, ei⟩ := List.mem_iff_getElem.1 h1
  obtain ⟨j, hj, ej⟩ := List.mem_iff_getElem.1 h2
  rcases Nat.lt_trichotomy i j with l | l | l
  · exact absurd (by rw [ei, ej]) (List.pairwise_iff_getElem.1 hp i j hi hj l)
  · subst l
    rw [ei] at ej
    simp only [Prod.mk.injEq, true_and] at ej
    exact ej
  · exact absurd (by rw [ei, ej]) (List.pairwise_iff_getElem.1 hp j i hj hi l)
/-- So many steps on. -/
def it (E : List (Int × Int)) : Nat → Int → Int
  | 0, v => v
  | k + 1, v => sg E (it E k v)
theorem it_add (a b : Nat) (v : Int) : it E (a + b) v = it E a (it E b v) := by
  induction a with
  | zero => rw [Nat.zero_add]; rfl
  | succ a ih => rw [Nat.succ_add]; show sg E (it E (a + b) v) = sg E (it E a (it E b v)); rw [ih]
theorem OneIn.it_in (h : OneIn E) {v : Int} (hv : v ∈ E.map Prod.snd) : ∀ k, it E k v ∈ E.map Prod.snd
  | 0 => hv
  | k + 1 => h.sg_in (h.it_in hv k)
theorem OneIn.it_inj (h : OneIn E) {u v : Int} (hu : u ∈ E.map Prod.snd) (hv : v ∈ E.map Prod.snd) : ∀ k, it E k u = it E k v → u = v
  | 0, e => e
  | k + 1, e => h.it_inj hu hv k (h.sg_inj (h.it_in hu k) (h.it_in hv k) e)
theorem least_nat {P : Nat → Prop} (h : ∃ n, P n) : ∃ n, P n ∧ ∀ m, m < n → ¬ P m := by
  obtain ⟨n, hn⟩ := h
  induction n using Nat.strongRecOn with
  | _ n ih =>
    by_cases h : ∃ m, m < n ∧ P m
    · obtain ⟨m, hm, hp⟩ := h
      exact ih m hm hp
    · exact ⟨n, hn, fun m hm hp => h ⟨m, hm, hp⟩⟩
/-- Round it goes: p steps, and no fewer. -/
structure Per (E : List (Int × Int)) (v : Int) (p : Nat) : Prop where
  pos : 1 ≤ p
  le : p ≤ E.length
  back : it E p v = v
  least : ∀ q, 1 ≤ q → q < p → it E q v ≠ v
theorem OneIn.per (h : OneIn E) {v : Int} (hv : v ∈ E.map Prod.snd) : ∃ p, Per E v p := by
  have hex : ∃ p, 1 ≤ p ∧ it E p v = v ∧ p ≤ E.length := by
    apply Classical.byContradiction
    intro hc
    have hn : ((List.range (E.length + 1)).map fun i => it E i v).Nodup := by
      rw [List.nodup_iff_pairwise_ne, List.pairwise_map]
      refine List.Pairwise.imp_of_mem ?_ (List.pairwise_lt_range (n := E.length + 1))
      intro a b ha hb hab e
      have hb' := List.mem_range.1 hb
      have e2 : it E a (it E (b - a) v) = it E a v := by rw [← it_add, show a + (b - a) = b by omega]; exact e.symm
      have := h.it_inj (h.it_in hv _) hv a e2
      exact hc ⟨b - a, by omega, this, by omega⟩
    have := sub_len _ (E.map Prod.snd) hn fun x hx => by
      obtain ⟨i, -, rfl⟩ := List.mem_map.1 hx
      exact h.it_in hv i
    simp only [List.length_map, List.length_range] at this
    omega
  obtain ⟨p, ⟨h1, h2, h3⟩, h4⟩ := least_nat hex
  exact ⟨p, h1, h3, h2, fun q hq hqp e => h4 q hqp ⟨hq, e, by omega⟩⟩
theorem Per.one {v : Int} {p q : Nat} (h : Per E v p) (g : Per E v q) : p = q := by
  rcases Nat.lt_trichotomy p q with l | l | l
  · exact absurd h.back (g.least p h.pos l)
  · exact l
  · exact absurd g.back (h.least q g.pos l)
theorem Per.mul {v : Int} {p : Nat} (h : Per E v p) : ∀ m, it E (m * p) v = v
  | 0 => by rw [Nat.zero_mul]; rfl
  | m + 1 => by rw [Nat.succ_mul, it_add, h.back]; exact h.mul m
theorem Per.mod {v : Int} {p : Nat} (h : Per E v p) (k : Nat) : it E k v = it E (k % p) v := by
  have := Nat.mod_add_div k p
  have e : k = k % p + k / p * p := by rw [Nat.mul_comm]; exact this.symm
  conv => lhs; rw [e, it_add, h.mul]
/-- The loop at a vertex. -/
def orbT (E : List (Int × Int)) (v : Int) : Nat → Int → List Int
  | 0, _ => []
  | n + 1, u => if u = v then [] else u :: orbT E v n (sg E u)
def orb (E : List (Int × Int)) (v : Int) : List Int := if (nextB E v).isSome then v :: orbT E v E.length (sg E v) else []
theorem orb_nil {v : Int} (h : v ∉ E.map Prod.snd) : orb E v = [] := by
  unfold orb
  rw [nextB_none.2 h]
  rfl
theorem orbT_eq {v : Int} {p : Nat} (h : Per E v p) : ∀ n k, 1 ≤ k → k ≤ p → p ≤ k + n → orbT E v n (it E k v) = (List.range (p - k)).map fun i => it E (k + i) v
  | 0, k, h1, h2, h3 => by
    obtain rfl : k = p := by omega
    simp [orbT]
  | n + 1, k, h1, h2, h3 => by
    unfold orbT
    by_cases e : k = p
    · subst e
      rw [if_pos h.back]
      simp
    · rw [if_neg (h.least k h1 (by omega))]
      have := orbT_eq h n (k + 1) (by omega) (by omega) (by omega)
      rw [show sg E (it E k v) = it E (k + 1) v from rfl, this, show p - k = (p - (k + 1)) + 1 by omega, List.range_succ_eq_map, List.map_cons, List.map_map]
      congr 1
      refine List.map_congr_left fun i _ => ?_
      show it E (k + 1 + i) v = it E (k + (i + 1)) v
      rw [show k + 1 + i = k + (i + 1) by omega]
theorem orb_eq {v : Int} {p : Nat} (hv : v ∈ E.map Prod.snd) (h : Per E v p) : orb E v = (List.range p).map fun i => it E i v := by
  unfold orb
  rw [if_pos (by
    cases hb : nextB E v with
    | none => exact absurd hv (nextB_none.1 hb)
    | some b => rfl)]
  have := orbT_eq h E.length 1 (Nat.le_refl _) h.pos (by have := h.le; omega)
  have h1 := h.pos
  rw [show sg E v = it E 1 v from rfl, this]
  conv => rhs; rw [show p = (p - 1) + 1 by omega, List.range_succ_eq_map]
  rw [List.map_cons, List.map_map]
  congr 1
  refine List.map_congr_left fun i _ => ?_
  show it E (1 + i) v = it E (i + 1) v
  rw [Nat.add_comm]
theorem OneIn.orb_mem (h : OneIn E) {v u : Int} (hv : v ∈ E.map Prod.snd) : u ∈ orb E v ↔ ∃ k, u = it E k v := by
  obtain ⟨p, hp⟩ := h.per hv
  rw [orb_eq hv hp]
  constructor
  · intro hm
    obtain ⟨k, -, rfl⟩ := List.mem_map.1 hm
    exact ⟨k, rfl⟩
  · rintro ⟨k, rfl⟩
    exact List.mem_map.2 ⟨k % p, List.mem_range.2 (Nat.mod_lt _ hp.pos), (hp.mod k).symm⟩
theorem OneIn.orb_self (h : OneIn E) {v : Int} (hv : v ∈ E.map Prod.snd) : v ∈ orb E v := (h.orb_mem hv).2 ⟨0, rfl⟩
theorem orb_in {v u : Int} (h : u ∈ orb E v) : v ∈ E.map Prod.snd := by
  apply Classical.byContradiction
  intro hc
  rw [orb_nil hc] at h
  cases h
theorem OneIn.orb_sub (h : OneIn E) {v u : Int} (hu : u ∈ orb E v) : u ∈ E.map Prod.snd := by
  obtain ⟨k, rfl⟩ := (h.orb_mem (orb_in hu)).1 hu
  exact h.it_in (orb_in hu) k
theorem OneIn.orb_symm (h : OneIn E) {v u : Int} (hu : u ∈ orb E v) : v ∈ orb E u := by
  have hv := orb_in hu
  have hus := h.orb_sub hu
  obtain ⟨p, hp⟩ := h.per hv
  rw [orb_eq hv hp] at hu
  obtain ⟨k, hk, rfl⟩ := List.mem_map.1 hu
  have := List.mem_range.1 hk
  refine (h.orb_mem hus).2 ⟨p - k, ?_⟩
  rw [← it_add, show p - k + k = p by omega, hp.back]
theorem OneIn.orb_trans (h : OneIn E) {v u x : Int} (hu : u ∈ orb E v) (hx : x ∈ orb E u) : x ∈ orb E v := by
  obtain ⟨k, rfl⟩ := (h.orb_mem (orb_in hu)).1 hu
  obtain ⟨m, rfl⟩ := (h.orb_mem (h.it_in (orb_in hu) k)).1 hx
  exact (h.orb_mem (orb_in hu)).2 ⟨m + k, (it_add m k v).symm⟩
/-- The least vertices of loops. -/
def minB (E : List (Int × Int)) (v : Int) : Bool := decide (v ∈ E.map Prod.snd) && (orb E v).all fun u => decide (v ≤ u)
theorem minB_iff {v : Int} : minB E v = true ↔ v ∈ E.map Prod.snd ∧ ∀ u, u ∈ orb E v → v ≤ u := by
  unfold minB
  simp [List.all_eq_true]
def loopsL (E : List (Int × Int)) (n : Nat) : List (List Int) := ((List.range n).filter fun (v : Nat) => minB E (v : Int)).map fun (v : Nat) => orb E (v : Int)
theorem loopsL_yes {k : Nat} (h : minB E (k : Int) = true) : loopsL E (k + 1) = loopsL E k ++ [orb E (k : Int)] := by simp [loopsL, List.range_succ, h]
theorem loopsL_no {k : Nat} (h : minB E (k : Int) = false) : loopsL E (k + 1) = loopsL E k := by simp [loopsL, List.range_succ, h]
theorem loopsL_le (k : Nat) : (loopsL E k).length ≤ k := by
  have := List.length_filter_le (fun v : Nat => minB E (v : Int)) (List.range k)
  simpa [loopsL] using this
/-- Seen, once the vertices below k are dealt with. -/
def seenB (E : List (Int × Int)) (k : Nat) (u : Int) : Prop := ∃ w : Nat, w < k ∧ u ∈ orb E (w : Int)
theorem seen_min (h : OneIn E) (h0 : ∀ u, u ∈ E.map Prod.snd → 0 ≤ u) {k : Nat} (hk : (k : Int) ∈ E.map Prod.snd) : seenB E k (k : Int) ↔ minB E (k : Int) = false := by
  constructor
  · rintro ⟨w, hw, hm⟩
    cases hb : minB E (k : Int) with
    | false => rfl
    | true =>
      have := (minB_iff.1 hb).2 _ (h.orb_symm hm)
      omega
  · intro hb
    apply Classical.byContradiction
    intro hc
    have : minB E (k : Int) = true := minB_iff.2 ⟨hk, fun u hu => by
      apply Classical.byContradiction
      intro hlt
      have hu0 := h0 u (h.orb_sub hu)
      obtain ⟨w, rfl⟩ := Int.eq_ofNat_of_zero_le hu0
      exact hc ⟨w, by omega, h.orb_symm hu⟩⟩
    rw [hb] at this
    cases this
theorem seen_skip {k : Nat} (h : (k : Int) ∉ E.map Prod.snd) (u : Int) : seenB E (k + 1) u ↔ seenB E k u := by
  constructor
  · rintro ⟨w, hw, hm⟩
    refine ⟨w, ?_, hm⟩
    have : w ≠ k := fun e => h (by rw [← e]; exact orb_in hm)
    omega
  · rintro ⟨w, hw, hm⟩
    exact ⟨w, by omega, hm⟩
theorem seen_add {k : Nat} (u : Int) : seenB E (k + 1) u ↔ seenB E k u ∨ u ∈ orb E (k : Int) := by
  constructor
  · rintro ⟨w, hw, hm⟩
    by_cases e : w = k
    · subst e; exact .inr hm
    · exact .inl ⟨w, by omega, hm⟩
  · rintro (⟨w, hw, hm⟩ | hm)
    · exact ⟨w, by omega, hm⟩
    · exact ⟨k, by omega, hm⟩
/-- Where it has been seen, its loop adds nothing. -/
theorem seen_same (h : OneIn E) {k : Nat} (hs : seenB E k (k : Int)) (u : Int) : seenB E (k + 1) u ↔ seenB E k u := by
  rw [seen_add]
  constructor
  · rintro (hu | hu)
    · exact hu
    · obtain ⟨w, hw, hm⟩ := hs
      exact ⟨w, hw, h.orb_trans hm hu⟩
  · exact .inl
end
theorem Surf.oneIn {N : Int} {T : List Tr} (hs : Surf N T) : OneIn (bordE T (3 * T.length)) := by
  have hm : ∀ e, e ∈ bordE T (3 * T.length) ↔ ∃ c : Nat, c < 3 * T.length ∧ opp T (c : Nat) < 0 ∧ e = (vt T (nxn c : Nat), vt T (pvn c : Nat)) := fun e => by
    unfold bordE
    simp only [List.mem_map, List.mem_filter, List.mem_range, decide_eq_true_eq]
    constructor
    · rintro ⟨c, ⟨h1, h2⟩, rfl⟩
      exact ⟨c, h1, h2, edgeAt_nat T c⟩
    · rintro ⟨c, h1, h2, rfl⟩
      exact ⟨c, ⟨h1, h2⟩, edgeAt_nat T c⟩
  refine ⟨?_, ?_, ?_⟩
  · unfold bordE
    rw [List.map_map, List.nodup_iff_pairwise_ne, List.pairwise_map]
    refine List.Pairwise.imp_of_mem ?_ (List.Pairwise.filter _ (List.nodup_iff_pairwise_ne.1 (List.nodup_range (n := 3 * T.length))))
    intro a b ha hb hne e
    obtain ⟨a1, a2⟩ := List.mem_filter.1 ha
    obtain ⟨b1, b2⟩ := List.mem_filter.1 hb
    simp only [Function.comp_apply, edgeAt_nat] at e
    exact hne (hs.in_one (List.mem_range.1 a1) (List.mem_range.1 b1) (by simpa using a2) (by simpa using b2) e)
  · unfold bordE
    rw [List.map_map, List.nodup_iff_pairwise_ne, List.pairwise_map]
    refine List.Pairwise.imp_of_mem ?_ (List.Pairwise.filter _ (List.nodup_iff_pairwise_ne.1 (List.nodup_range (n := 3 * T.length))))
    intro a b ha hb hne e
    obtain ⟨a1, a2⟩ := List.mem_filter.1 ha
    obtain ⟨b1, b2⟩ := List.mem_filter.1 hb
    simp only [Function.comp_apply, edgeAt_nat] at e
    exact hne (hs.out_one (List.mem_range.1 a1) (List.mem_range.1 b1) (by simpa using a2) (by simpa using b2) e)
  · intro x hx
    obtain ⟨e, he, rfl⟩ := List.mem_map.1 hx
    obtain ⟨c, h1, h2, rfl⟩ := (hm e).1 he
    obtain ⟨d, g1, g2, g3⟩ := hs.out_in h1 h2
    exact List.mem_map.2 ⟨_, (hm _).2 ⟨d, g1, g2, rfl⟩, g3⟩
theorem Surf.bord_in {N : Int} {T : List Tr} (hs : Surf N T) {u : Int} (h : u ∈ (bordE T (3 * T.length)).map Prod.snd) : 0 ≤ u ∧ u < N := by
  obtain ⟨e, he, rfl⟩ := List.mem_map.1 h
  obtain ⟨c, h1, -, rfl⟩ := bordE_mem he
  rw [edgeAt_nat]
  exact hs.vin.vt (c := ((pvn c : Nat) : Int)) (by omega) (by have := pvn_lt h1; omega)
end Go.Proofs.YtbeefabboabfgaaGreat

/- The corners at a vertex of a surface, one behind the other: on the border one comes first, one last. Plain. The border of a surface: what comes behind a vertex; the loops. Plain. -/
import Derived.Test.YtkjamheoihlekaaGreatFaceLaw
import Derived.Test.YtkjamheoihlekaaGreatTogether
import Derived.Test.YtkjamheoihlekaaGreatBordEdge
namespace Go.Proofs.YtkjamheoihlekaaGreat
set_option linter.unusedVariables false
set_option linter.unusedSimpArgs false
open Go.RowKit
/-- Chains towards a. -/
inductive To (R : Nat → Nat → Prop) (a : Nat) : Nat → Prop
  | here : To R a a
  | step {x y : Nat} : R x y → To R a y → To R a x
theorem to_conn {R : Nat → Nat → Prop} (hd : ∀ x y z, R x y → R x z → y = z) {a b : Nat} (hno : ∀ y, ¬ R a y) (h : Conn R a b) : To R a b := by
  induction h with
  | refl => exact .here
  | step _ s ih =>
    have t := ih
    cases t with
    | here => exact absurd s (hno _)
    | step r t => rw [hd _ _ _ s r]; exact t
  | back _ s ih => exact .step s ih
theorem only_end {R : Nat → Nat → Prop} (hd : ∀ x y z, R x y → R x z → y = z) {a b : Nat} (hno : ∀ y, ¬ R a y) (hno' : ∀ y, ¬ R b y) (h : Conn R a b) : b = a := by
  cases to_conn hd hno h with
  | here => rfl
  | step r _ => exact absurd r (hno' _)
theorem conn_flip {R : Nat → Nat → Prop} {a b : Nat} (h : Conn R a b) : Conn (fun x y => R y x) a b := by
  induction h with
  | refl => exact .refl _
  | step _ s ih => exact .back ih s
  | back _ s ih => exact .step ih s
theorem only_start {R : Nat → Nat → Prop} (hi : ∀ x y z, R x z → R y z → x = y) {a b : Nat} (hno : ∀ y, ¬ R y a) (hno' : ∀ y, ¬ R y b) (h : Conn R a b) : b = a :=
  only_end (R := fun x y => R y x) (fun x y z h1 h2 => hi y z x h1 h2) hno hno' (conn_flip h)
theorem sub_len {α : Type} [DecidableEq α] : ∀ (l m : List α), l.Nodup → (∀ x, x ∈ l → x ∈ m) → l.length ≤ m.length
  | [], _, _, _ => Nat.zero_le _
  | a :: l, m, hn, hs => by
    have ha : a ∈ m := hs a (by simp)
    have hn' := List.nodup_cons.1 hn
    have := sub_len l (m.erase a) hn'.2 fun x hx => (List.mem_erase_of_ne (fun e => hn'.1 (by rw [← e]; exact hx))).2 (hs x (by simp [hx]))
    rw [List.length_erase_of_mem ha] at this
    have hp : 0 < m.length := List.length_pos_of_mem ha
    simp only [List.length_cons]
    omega
theorem all_in {α : Type} [DecidableEq α] {l m : List α} (hn : l.Nodup) (hs : ∀ x, x ∈ l → x ∈ m) (hl : m.length ≤ l.length) {z : α} (hz : z ∈ m) : z ∈ l := by
  by_cases h : z ∈ l
  · exact h
  · have := sub_len (z :: l) m (List.nodup_cons.2 ⟨h, hn⟩) fun x hx => by
      rcases List.mem_cons.1 hx with rfl | hx
      · exact hz
      · exact hs x hx
    simp only [List.length_cons] at this
    omega
/-- Of a finite relation that is a function both ways: where one has none behind it, one has none ahead of it. -/
theorem start_of_end {R : Nat → Nat → Prop} {X : List Nat} (hn : X.Nodup) (hR : ∀ x y, R x y → x ∈ X ∧ y ∈ X) (hd : ∀ x y z, R x y → R x z → y = z) {a : Nat} (ha : a ∈ X) (hno : ∀ y, ¬ R a y) : ∃ b, b ∈ X ∧ ∀ x, ¬ R x b := by
  apply Classical.byContradiction
  intro hc
  have hp : ∀ y, ∃ x, y ∈ X → R x y := fun y => by
    by_cases hy : y ∈ X
    · apply Classical.byContradiction
      intro h
      exact hc ⟨y, hy, fun x hx => h ⟨x, fun _ => hx⟩⟩
    · exact ⟨0, fun h => absurd h hy⟩
  obtain ⟨g, hg⟩ := Classical.skolem.1 hp
  have hm : (X.map g).Nodup := by
    rw [List.nodup_iff_pairwise_ne, List.pairwise_map]
    refine List.Pairwise.imp_of_mem ?_ (List.nodup_iff_pairwise_ne.1 hn)
    intro x y hx hy hne e
    have h1 := hg x hx
    have h2 := hg y hy
    rw [e] at h1
    exact hne (hd _ _ _ h1 h2)
  have hmem := all_in hm (m := X) (fun x hx => by
    obtain ⟨y, hy, rfl⟩ := List.mem_map.1 hx
    exact (hR _ _ (hg y hy)).1) (by simp) ha
  obtain ⟨y, hy, e⟩ := List.mem_map.1 hmem
  have := hg y hy
  rw [e] at this
  exact hno _ this
/-- From a corner to the next one round its vertex. -/
def FanR (T : List Tr) (x y : Nat) : Prop := x < 3 * T.length ∧ ∃ o : Nat, opp T (pvn x : Nat) = (o : Int) ∧ o < 3 * T.length ∧ y = pvn o
section
variable {N : Int} {T : List Tr}
theorem FanR.fun {x y z : Nat} (h : FanR T x y) (g : FanR T x z) : y = z := by
  obtain ⟨-, o, e, -, rfl⟩ := h
  obtain ⟨-, o', e', -, rfl⟩ := g
  have : o = o' := by omega
  rw [this]
theorem FanR.inj (hs : Surf N T) {x y z : Nat} (h : FanR T x z) (g : FanR T y z) : x = y := by
  obtain ⟨hx, o, e, ho, rfl⟩ := h
  obtain ⟨hy, o', e', ho', e2⟩ := g
  have h1 : o = o' := by have := congrArg nxn e2; rwa [nxn_pvn, nxn_pvn] at this
  subst h1
  obtain ⟨p, q1, -, q2, -, -⟩ := hs.opp_opp (pvn_lt hx) (by omega)
  obtain ⟨p', q1', -, q2', -, -⟩ := hs.opp_opp (pvn_lt hy) (by omega)
  have a1 : p = o := by omega
  have a2 : p' = o := by omega
  rw [a1] at q2
  rw [a2] at q2'
  have h2 : pvn x = pvn y := by omega
  have := congrArg nxn h2
  rwa [nxn_pvn, nxn_pvn] at this
theorem FanR.lt {x y : Nat} (h : FanR T x y) : x < 3 * T.length ∧ y < 3 * T.length := by
  obtain ⟨hx, o, -, ho, rfl⟩ := h
  exact ⟨hx, pvn_lt ho⟩
theorem FanR.vt (hs : Surf N T) {x y : Nat} (h : FanR T x y) : vt T (y : Nat) = vt T (x : Nat) := by
  obtain ⟨hx, o, e, ho, rfl⟩ := h
  obtain ⟨p, q1, -, -, q3, q4⟩ := hs.opp_opp (pvn_lt hx) (by omega)
  obtain rfl : p = o := by omega
  rw [q4, nxn_pvn]
theorem fan_last {x : Nat} (hx : x < 3 * T.length) : (∀ y, ¬ FanR T x y) ↔ opp T (pvn x : Nat) < 0 := by
  constructor
  · intro h
    apply Classical.byContradiction
    intro h0
    obtain ⟨o, e⟩ := Int.eq_ofNat_of_zero_le (show 0 ≤ opp T (pvn x : Nat) by omega)
    have := opp_lt (T := T) ((pvn x : Nat) : Int) (by omega) (by have := pvn_lt hx; omega)
    exact h (pvn o) ⟨hx, o, e, by omega, rfl⟩
  · rintro h y ⟨-, o, e, -, -⟩
    omega
theorem fan_first (hs : Surf N T) {y : Nat} (hy : y < 3 * T.length) : (∀ x, ¬ FanR T x y) ↔ opp T (nxn y : Nat) < 0 := by
  constructor
  · intro h
    apply Classical.byContradiction
    intro h0
    obtain ⟨p, q1, q0, q2, -, -⟩ := hs.opp_opp (nxn_lt hy) (by omega)
    refine h (nxn p) ⟨nxn_lt q0, nxn y, by rw [pvn_nxn]; exact q2, nxn_lt hy, (pvn_nxn y).symm⟩
  · rintro h x ⟨hx, o, e, ho, rfl⟩
    rw [nxn_pvn] at h
    obtain ⟨p, q1, -, q2, -, -⟩ := hs.opp_opp (pvn_lt hx) (by omega)
    obtain rfl : p = o := by omega
    omega
theorem vt_nat3 (T : List Tr) (c : Nat) : vt T (c : Nat) = tg (T! T (c / 3)) (c % 3) := by
  have := vt_tri T (c / 3) (c % 3) (Nat.mod_lt _ (by omega))
  rwa [show (3 * ((c / 3 : Nat) : Int) + ((c % 3 : Nat) : Int)) = (c : Int) by omega] at this
theorem Surf.corner_one (hs : Surf N T) {x y : Nat} (hx : x < 3 * T.length) (h1 : x / 3 = y / 3) (h2 : vt T (x : Nat) = vt T (y : Nat)) : x = y := by
  rw [vt_nat3, vt_nat3, h1] at h2
  have := tg_ne (hs.noloop (y / 3) (by omega)) (l := x % 3) (j := y % 3) (by omega) (by omega) h2
  omega
/-- Two corners at a vertex of triangles that have one more vertex in common. -/
theorem Surf.fan_step (hs : Surf N T) {v : Int} {x y : Nat} (hx : x < 3 * T.length) (hy : y < 3 * T.length) (vx : vt T (x : Nat) = v) (vy : vt T (y : Nat) = v) (h : PAdj T v (x / 3) (y / 3)) : x = y ∨ FanR T x y ∨ FanR T y x := by
  obtain ⟨hi, hk, -, -, j, hj, hne, h3⟩ := h
  have key : ∀ x y : Nat, x < 3 * T.length → y < 3 * T.length → vt T (x : Nat) = vt T (y : Nat) → vt T (nxn x : Nat) = vt T (pvn y : Nat) → FanR T x y := by
    intro x y hx hy e1 e2
    have h0 : 0 ≤ facing T (vt T (pvn y : Nat), vt T (y : Nat)) := facing_of (c := nxn y) (nxn_lt hy) (by rw [edgeAt_nat, show nxn (nxn y) = pvn y by unfold nxn pvn; omega, pvn_nxn])
    obtain ⟨c, e, hc, he⟩ := facing_some h0
    have hcy : c = nxn y := hs.edge_c hc (nxn_lt hy) (by rw [he, edgeAt_nat, show nxn (nxn y) = pvn y by unfold nxn pvn; omega, pvn_nxn])
    refine ⟨hx, nxn y, ?_, nxn_lt hy, (pvn_nxn y).symm⟩
    rw [opp_nat, nxn_pvn, show pvn (pvn x) = nxn x by unfold nxn pvn; omega, e1, e2, e, hcy]
  obtain ⟨j', hj', e3⟩ := hasB_iff.1 h3
  have ux : tg (T! T (x / 3)) (x % 3) = v := by rw [← vt_nat3]; exact vx
  have uy : tg (T! T (y / 3)) (y % 3) = v := by rw [← vt_nat3]; exact vy
  have hpj : x % 3 ≠ j := fun e => hne (by rw [← e]; exact ux)
  have hpj' : y % 3 ≠ j' := fun e => hne (by rw [← e3, ← e]; exact uy)
  have hd : j = (x % 3 + 1) % 3 ∨ j = (x % 3 + 2) % 3 := by omega
  have hd' : j' = (y % 3 + 1) % 3 ∨ j' = (y % 3 + 2) % 3 := by omega
  have nx' : ∀ c : Nat, vt T (nxn c : Nat) = tg (T! T (c / 3)) ((c % 3 + 1) % 3) := fun c => by rw [vt_nat3, nxn_div, show nxn c % 3 = (c % 3 + 1) % 3 by unfold nxn; omega]
  have pv' : ∀ c : Nat, vt T (pvn c : Nat) = tg (T! T (c / 3)) ((c % 3 + 2) % 3) := fun c => by rw [vt_nat3, pvn_div, show pvn c % 3 = (c % 3 + 2) % 3 by unfold pvn; omega]
  rcases hd with hd | hd <;> rcases hd' with hd' | hd'
  · have := hs.edge_one (i := x / 3) (i' := y / 3) (p := x % 3) (q := y % 3) hi hk (by omega) (by omega) (ux.trans uy.symm) (by rw [← hd, ← hd']; exact e3.symm)
    exact .inl (hs.corner_one hx this.1 (vx.trans vy.symm))
  · exact .inr (.inl (key x y hx hy (vx.trans vy.symm) (by rw [nx', pv', ← hd, ← hd']; exact e3.symm)))
  · exact .inr (.inr (key y x hy hx (vy.trans vx.symm) (by rw [nx', pv', ← hd, ← hd']; exact e3)))
  · have := hs.edge_one (i := x / 3) (i' := y / 3) (p := (x % 3 + 2) % 3) (q := (y % 3 + 2) % 3) hi hk (by omega) (by omega) (by rw [← hd, ← hd']; exact e3.symm)
      (by rw [show ((x % 3 + 2) % 3 + 1) % 3 = x % 3 by omega, show ((y % 3 + 2) % 3 + 1) % 3 = y % 3 by omega]; exact ux.trans uy.symm)
    exact .inl (hs.corner_one hx this.1 (vx.trans vy.symm))
theorem corner_has {v : Int} {i : Nat} (hi : i < T.length) (h : hasB (T! T i) v = true) : ∃ c : Nat, c < 3 * T.length ∧ c / 3 = i ∧ vt T (c : Nat) = v := by
  obtain ⟨j, hj, e⟩ := hasB_iff.1 h
  refine ⟨3 * i + j, by omega, by omega, ?_⟩
  rw [vt_nat3, show (3 * i + j) / 3 = i by omega, show (3 * i + j) % 3 = j by omega]
  exact e
theorem has_corner {c : Nat} : hasB (T! T (c / 3)) (vt T (c : Nat)) = true := hasB_iff.2 ⟨c % 3, by omega, (vt_nat3 T c).symm⟩
theorem Surf.fan_conn (hs : Surf N T) {x y : Nat} (hx : x < 3 * T.length) (hy : y < 3 * T.length) (h : vt T (x : Nat) = vt T (y : Nat)) : Conn (FanR T) x y := by
  obtain ⟨v, hv⟩ : ∃ v, v = vt T (x : Nat) := ⟨_, rfl⟩
  have hin := hs.vin (x / 3) (by omega) (x % 3)
  rw [← vt_nat3, ← hv] at hin
  have hc := hs.pin v hin.1 hin.2 (x / 3) (y / 3) (by omega) (by omega) (by rw [hv]; exact has_corner) (by rw [hv, h]; exact has_corner)
  have gen : ∀ i k, Conn (PAdj T v) i k → i = x / 3 → ∀ y : Nat, y < 3 * T.length → y / 3 = k → vt T (y : Nat) = v → Conn (FanR T) x y := by
    intro i k c
    induction c with
    | refl =>
      intro hi y hy hk e
      rw [hs.corner_one hx (by omega) (hv.symm.trans e.symm)]
      exact .refl _
    | step _ s ih =>
      intro hi y hy hk e
      obtain ⟨z, hz, hz3, ez⟩ := corner_has s.1 s.2.2.1
      have hcz := ih hi z hz hz3 ez
      subst hk
      subst hz3
      rcases hs.fan_step hz hy ez e s with r | r | r
      · rw [← r]; exact hcz
      · exact hcz.step r
      · exact hcz.back r
    | back _ s ih =>
      intro hi y hy hk e
      obtain ⟨z, hz, hz3, ez⟩ := corner_has s.2.1 s.2.2.2.1
      have hcz := ih hi z hz hz3 ez
      subst hk
      subst hz3
      rcases hs.fan_step hy hz e ez s with r | r | r
      · rw [r]; exact hcz
      · exact hcz.back r
      · exact hcz.step r
  exact gen _ _ hc rfl y hy rfl (by rw [hv]; exact h.symm)
/-- A vertex has at most one border edge that begins there. -/
theorem Surf.out_one (hs : Surf N T) {c d : Nat} (hc : c < 3 * T.length) (hd : d < 3 * T.length) (bc : opp T (c : Nat) < 0) (bd : opp T (d : Nat) < 0) (h : vt T (nxn c : Nat) = vt T (nxn d : Nat)) : c = d := by
  have := only_end (R := FanR T) (fun x y z => FanR.fun) ((fan_last (nxn_lt hc)).2 (by rw [pvn_nxn]; exact bc)) ((fan_last (nxn_lt hd)).2 (by rw [pvn_nxn]; exact bd)) (hs.fan_conn (nxn_lt hc) (nxn_lt hd) h)
  have := congrArg pvn this
  rw [pvn_nxn, pvn_nxn] at this
  exact this.symm
/-- And at most one that ends there. -/
theorem Surf.in_one (hs : Surf N T) {c d : Nat} (hc : c < 3 * T.length) (hd : d < 3 * T.length) (bc : opp T (c : Nat) < 0) (bd : opp T (d : Nat) < 0) (h : vt T (pvn c : Nat) = vt T (pvn d : Nat)) : c = d := by
  have := only_start (R := FanR T) (fun x y z => FanR.inj hs) ((fan_first hs (pvn_lt hc)).2 (by rw [nxn_pvn]; exact bc)) ((fan_first hs (pvn_lt hd)).2 (by rw [nxn_pvn]; exact bd)) (hs.fan_conn (pvn_lt hc) (pvn_lt hd) h)
  have := congrArg nxn this
  rw [nxn_pvn, nxn_pvn] at this
  exact this.symm
/-- Where a border edge begins another one ends. -/
theorem Surf.out_in (hs : Surf N T) {c : Nat} (hc : c < 3 * T.length) (bc : opp T (c : Nat) < 0) : ∃ d : Nat, d < 3 * T.length ∧ opp T (d : Nat) < 0 ∧ vt T (pvn d : Nat) = vt T (nxn c : Nat) := by
  obtain ⟨X, hX⟩ : ∃ X, X = (List.range (3 * T.length)).filter fun x => decide (vt T (x : Nat) = vt T (nxn c : Nat)) := ⟨_, rfl⟩
  have hmem : ∀ x, x ∈ X ↔ x < 3 * T.length ∧ vt T (x : Nat) = vt T (nxn c : Nat) := fun x => by rw [hX]; simp
  obtain ⟨b, hb, hno⟩ := start_of_end (R := fun x y => FanR T x y ∧ x ∈ X) (X := X) (by rw [hX]; exact List.Pairwise.filter _ List.nodup_range)
    (fun x y ⟨h, hx⟩ => ⟨hx, (hmem y).2 ⟨h.lt.2, (h.vt hs).trans ((hmem x).1 hx).2⟩⟩) (fun x y z h1 h2 => h1.1.fun h2.1) (a := nxn c) ((hmem _).2 ⟨nxn_lt hc, rfl⟩)
    (fun y h => (fan_last (nxn_lt hc)).2 (by rw [pvn_nxn]; exact bc) y h.1)
  obtain ⟨h1, h2⟩ := (hmem b).1 hb
  refine ⟨nxn b, nxn_lt h1, (fan_first hs h1).1 fun x hx => hno x ⟨hx, (hmem x).2 ⟨hx.lt.1, (hx.vt hs).symm.trans h2⟩⟩, by rw [pvn_nxn]; exact h2⟩
end
/-- What comes behind a vertex, by some edges. -/
def nextB (E : List (Int × Int)) (v : Int) : Option Int := (E.find? fun e => e.2 == v).map Prod.fst
def sg (E : List (Int × Int)) (v : Int) : Int := (nextB E v).getD 0
/-- Edges of which no two begin, no two end at a vertex; where one begins, one ends. -/
structure OneIn (E : List (Int × Int)) : Prop where
  ends : (E.map Prod.snd).Nodup
  starts : (E.map Prod.fst).Nodup
  closed : ∀ x, x ∈ E.map Prod.fst → x ∈ E.map Prod.snd
theorem nextB_none {E : List (Int × Int)} {v : Int} : nextB E v = none ↔ v ∉ E.map Prod.snd := by
  unfold nextB
  rw [Option.map_eq_none_iff, List.find?_eq_none]
  constructor
  · intro h hm
    obtain ⟨e, he, rfl⟩ := List.mem_map.1 hm
    exact h e he (by simp)
  · intro h e he hv
    exact h (List.mem_map.2 ⟨e, he, by simpa using hv⟩)
theorem nextB_some {E : List (Int × Int)} {v a : Int} (h : nextB E v = some a) : (a, v) ∈ E := by
  unfold nextB at h
  obtain ⟨e, he, h2⟩ := Option.map_eq_some_iff.1 h
  have h3 := List.find?_some he
  have h4 := List.mem_of_find?_eq_some he
  have h5 : e.2 = v := by simpa using h3
  rw [← h2, ← h5]
  exact h4
theorem nextB_of {E : List (Int × Int)} (h : (E.map Prod.snd).Nodup) {v a : Int} (hm : (a, v) ∈ E) : nextB E v = some a := by
  cases hb : nextB E v with
  | none => exact absurd (List.mem_map.2 ⟨(a, v), hm, rfl⟩) (nextB_none.1 hb)
  | some b =>
    have h1 := nextB_some hb
    have hp := List.pairwise_map.1 (List.nodup_iff_pairwise_ne.1 h)
    obtain ⟨i, hi, ei⟩ := List.mem_iff_getElem.1 hm
    obtain ⟨j, hj, ej⟩ := List.mem_iff_getElem.1 h1
    rcases Nat.lt_trichotomy i j with l | l | l
    · exact absurd (by rw [ei, ej]) (List.pairwise_iff_getElem.1 hp i j hi hj l)
    · subst l
      rw [ei] at ej
      simp only [Prod.mk.injEq, and_true] at ej
      rw [ej]
    · exact absurd (by rw [ei, ej]) (List.pairwise_iff_getElem.1 hp j i hj hi l)
theorem nextB_snoc {E : List (Int × Int)} {e : Int × Int} (h : e.2 ∉ E.map Prod.snd) : nextB (E ++ [e]) = fun v => if v = e.2 then some e.1 else nextB E v := by
  funext v
  by_cases hv : v = e.2
  · subst hv
    rw [if_pos rfl]
    have h0 := nextB_none.2 h
    unfold nextB at h0 ⊢
    rw [Option.map_eq_none_iff] at h0
    rw [List.find?_append, h0]
    simp
  · rw [if_neg hv]
    unfold nextB
    rw [List.find?_append]
    have : ([e].find? fun e' => e'.2 == v) = none := by
      simp only [List.find?_eq_none, List.mem_singleton, forall_eq, beq_iff_eq]
      exact fun h => hv h.symm
    rw [this, Option.or_none]
section
variable {E : List (Int × Int)}
theorem OneIn.sg_mem (h : OneIn E) {v : Int} (hv : v ∈ E.map Prod.snd) : (sg E v, v) ∈ E := by
  cases hb : nextB E v with
  | none => exact absurd hv (nextB_none.1 hb)
  | some b =>
    have : sg E v = b := by unfold sg; rw [hb]; rfl
    rw [this]
    exact nextB_some hb
theorem OneIn.sg_in (h : OneIn E) {v : Int} (hv : v ∈ E.map Prod.snd) : sg E v ∈ E.map Prod.snd := h.closed _ (List.mem_map.2 ⟨_, h.sg_mem hv, rfl⟩)
theorem OneIn.sg_inj (h : OneIn E) {v u : Int} (hv : v ∈ E.map Prod.snd) (hu : u ∈ E.map Prod.snd) (e : sg E v = sg E u) : v = u := by
  have h1 := h.sg_mem hv
  have h2 := h.sg_mem hu
  rw [← e] at h2
  have hp := List.pairwise_map.1 (List.nodup_iff_pairwise_ne.1 h.starts)
  obtain ⟨i, hi, ei⟩ := List.mem_iff_getElem.1 h1
  obtain ⟨j, hj, ej⟩ := List.mem_iff_getElem.1 h2
  rcases Nat.lt_trichotomy i j with l | l | l
  · exact absurd (by rw [ei, ej]) (List.pairwise_iff_getElem.1 hp i j hi hj l)
  · subst l
    rw [ei] at ej
    simp only [Prod.mk.injEq, true_and] at ej
    exact ej
  · exact absurd (by rw [ei, ej]) (List.pairwise_iff_getElem.1 hp j i hj hi l)
/-- So many steps on. -/
def it (E : List (Int × Int)) : Nat → Int → Int
  | 0, v => v
  | k + 1, v => sg E (it E k v)
theorem it_add (a b : Nat) (v : Int) : it E (a + b) v = it E a (it E b v) := by
  induction a with
  | zero => rw [Nat.zero_add]; rfl
  | succ a ih => rw [Nat.succ_add]; show sg E (it E (a + b) v) = sg E (it E a (it E b v)); rw [ih]
theorem OneIn.it_in (h : OneIn E) {v : Int} (hv : v ∈ E.map Prod.snd) : ∀ k, it E k v ∈ E.map Prod.snd
  | 0 => hv
  | k + 1 => h.sg_in (h.it_in hv k)
theorem OneIn.it_inj (h : OneIn E) {u v : Int} (hu : u ∈ E.map Prod.snd) (hv : v ∈ E.map Prod.snd) : ∀ k, it E k u = it E k v → u = v
  | 0, e => e
  | k + 1, e => h.it_inj hu hv k (h.sg_inj (h.it_in hu k) (h.it_in hv k) e)
theorem least_nat {P : Nat → Prop} (h : ∃ n, P n) : ∃ n, P n ∧ ∀ m, m < n → ¬ P m := by
  obtain ⟨n, hn⟩ := h
  induction n using Nat.strongRecOn with
  | _ n ih =>
    by_cases h : ∃ m, m < n ∧ P m
    · obtain ⟨m, hm, hp⟩ := h
      exact ih m hm hp
    · exact ⟨n, hn, fun m hm hp => h ⟨m, hm, hp⟩⟩
/-- Round it goes: p steps, and no fewer. -/
structure Per (E : List (Int × Int)) (v : Int) (p : Nat) : Prop where
  pos : 1 ≤ p
  le : p ≤ E.length
  back : it E p v = v
  least : ∀ q, 1 ≤ q → q < p → it E q v ≠ v
theorem OneIn.per (h : OneIn E) {v : Int} (hv : v ∈ E.map Prod.snd) : ∃ p, Per E v p := by
  have hex : ∃ p, 1 ≤ p ∧ it E p v = v ∧ p ≤ E.length := by
    apply Classical.byContradiction
    intro hc
    have hn : ((List.range (E.length + 1)).map fun i => it E i v).Nodup := by
      rw [List.nodup_iff_pairwise_ne, List.pairwise_map]
      refine List.Pairwise.imp_of_mem ?_ (List.pairwise_lt_range (n := E.length + 1))
      intro a b ha hb hab e
      have hb' := List.mem_range.1 hb
      have e2 : it E a (it E (b - a) v) = it E a v := by rw [← it_add, show a + (b - a) = b by omega]; exact e.symm
      have := h.it_inj (h.it_in hv _) hv a e2
      exact hc ⟨b - a, by omega, this, by omega⟩
    have := sub_len _ (E.map Prod.snd) hn fun x hx => by
      obtain ⟨i, -, rfl⟩ := List.mem_map.1 hx
      exact h.it_in hv i
    simp only [List.length_map, List.length_range] at this
    omega
  obtain ⟨p, ⟨h1, h2, h3⟩, h4⟩ := least_nat hex
  exact ⟨p, h1, h3, h2, fun q hq hqp e => h4 q hqp ⟨hq, e, by omega⟩⟩
theorem Per.one {v : Int} {p q : Nat} (h : Per E v p) (g : Per E v q) : p = q := by
  rcases Nat.lt_trichotomy p q with l | l | l
  · exact absurd h.back (g.least p h.pos l)
  · exact l
  · exact absurd g.back (h.least q g.pos l)
theorem Per.mul {v : Int} {p : Nat} (h : Per E v p) : ∀ m, it E (m * p) v = v
  | 0 => by rw [Nat.zero_mul]; rfl
  | m + 1 => by rw [Nat.succ_mul, it_add, h.back]; exact h.mul m
theorem Per.mod {v : Int} {p : Nat} (h : Per E v p) (k : Nat) : it E k v = it E (k % p) v := by
  have := Nat.mod_add_div k p
  have e : k = k % p + k / p * p := by rw [Nat.mul_comm]; exact this.symm
  conv => lhs; rw [e, it_add, h.mul]
/-- The loop at a vertex. -/
def orbT (E : List (Int × Int)) (v : Int) : Nat → Int → List Int
  | 0, _ => []
  | n + 1, u => if u = v then [] else u :: orbT E v n (sg E u)
def orb (E : List (Int × Int)) (v : Int) : List Int := if (nextB E v).isSome then v :: orbT E v E.length (sg E v) else []
theorem orb_nil {v : Int} (h : v ∉ E.map Prod.snd) : orb E v = [] := by
  unfold orb
  rw [nextB_none.2 h]
  rfl
theorem orbT_eq {v : Int} {p : Nat} (h : Per E v p) : ∀ n k, 1 ≤ k → k ≤ p → p ≤ k + n → orbT E v n (it E k v) = (List.range (p - k)).map fun i => it E (k + i) v
  | 0, k, h1, h2, h3 => by
    obtain rfl : k = p := by omega
    simp [orbT]
  | n + 1, k, h1, h2, h3 => by
    unfold orbT
    by_cases e : k = p
    · subst e
      rw [if_pos h.back]
      simp
    · rw [if_neg (h.least k h1 (by omega))]
      have := orbT_eq h n (k + 1) (by omega) (by omega) (by omega)
      rw [show sg E (it E k v) = it E (k + 1) v from rfl, this, show p - k = (p - (k + 1)) + 1 by omega, List.range_succ_eq_map, List.map_cons, List.map_map]
      congr 1
      refine List.map_congr_left fun i _ => ?_
      show it E (k + 1 + i) v = it E (k + (i + 1)) v
      rw [show k + 1 + i = k + (i + 1) by omega]
theorem orb_eq {v : Int} {p : Nat} (hv : v ∈ E.map Prod.snd) (h : Per E v p) : orb E v = (List.range p).map fun i => it E i v := by
  unfold orb
  rw [if_pos (by
    cases hb : nextB E v with
    | none => exact absurd hv (nextB_none.1 hb)
    | some b => rfl)]
  have := orbT_eq h E.length 1 (Nat.le_refl _) h.pos (by have := h.le; omega)
  have h1 := h.pos
  rw [show sg E v = it E 1 v from rfl, this]
  conv => rhs; rw [show p = (p - 1) + 1 by omega, List.range_succ_eq_map]
  rw [List.map_cons, List.map_map]
  congr 1
  refine List.map_congr_left fun i _ => ?_
  show it E (1 + i) v = it E (i + 1) v
  rw [Nat.add_comm]
theorem OneIn.orb_mem (h : OneIn E) {v u : Int} (hv : v ∈ E.map Prod.snd) : u ∈ orb E v ↔ ∃ k, u = it E k v := by
  obtain ⟨p, hp⟩ := h.per hv
  rw [orb_eq hv hp]
  constructor
  · intro hm
    obtain ⟨k, -, rfl⟩ := List.mem_map.1 hm
    exact ⟨k, rfl⟩
  · rintro ⟨k, rfl⟩
    exact List.mem_map.2 ⟨k % p, List.mem_range.2 (Nat.mod_lt _ hp.pos), (hp.mod k).symm⟩
theorem OneIn.orb_self (h : OneIn E) {v : Int} (hv : v ∈ E.map Prod.snd) : v ∈ orb E v := (h.orb_mem hv).2 ⟨0, rfl⟩
theorem orb_in {v u : Int} (h : u ∈ orb E v) : v ∈ E.map Prod.snd := by
  apply Classical.byContradiction
  intro hc
  rw [orb_nil hc] at h
  cases h
theorem OneIn.orb_sub (h : OneIn E) {v u : Int} (hu : u ∈ orb E v) : u ∈ E.map Prod.snd := by
  obtain ⟨k, rfl⟩ := (h.orb_mem (orb_in hu)).1 hu
  exact h.it_in (orb_in hu) k
theorem OneIn.orb_symm (h : OneIn E) {v u : Int} (hu : u ∈ orb E v) : v ∈ orb E u := by
  have hv := orb_in hu
  have hus := h.orb_sub hu
  obtain ⟨p, hp⟩ := h.per hv
  rw [orb_eq hv hp] at hu
  obtain ⟨k, hk, rfl⟩ := List.mem_map.1 hu
  have := List.mem_range.1 hk
  refine (h.orb_mem hus).2 ⟨p - k, ?_⟩
  rw [← it_add, show p - k + k = p by omega, hp.back]
theorem OneIn.orb_trans (h : OneIn E) {v u x : Int} (hu : u ∈ orb E v) (hx : x ∈ orb E u) : x ∈ orb E v := by
  obtain ⟨k, rfl⟩ := (h.orb_mem (orb_in hu)).1 hu
  obtain ⟨m, rfl⟩ := (h.orb_mem (h.it_in (orb_in hu) k)).1 hx
  exact (h.orb_mem (orb_in hu)).2 ⟨m + k, (it_add m k v).symm⟩
/-- The least vertices of loops. -/
def minB (E : List (Int × Int)) (v : Int) : Bool := decide (v ∈ E.map Prod.snd) && (orb E v).all fun u => decide (v ≤ u)
theorem minB_iff {v : Int} : minB E v = true ↔ v ∈ E.map Prod.snd ∧ ∀ u, u ∈ orb E v → v ≤ u := by
  unfold minB
  simp [List.all_eq_true]
def loopsL (E : List (Int × Int)) (n : Nat) : List (List Int) := ((List.range n).filter fun (v : Nat) => minB E (v : Int)).map fun (v : Nat) => orb E (v : Int)
theorem loopsL_yes {k : Nat} (h : minB E (k : Int) = true) : loopsL E (k + 1) = loopsL E k ++ [orb E (k : Int)] := by simp [loopsL, List.range_succ, h]
theorem loopsL_no {k : Nat} (h : minB E (k : Int) = false) : loopsL E (k + 1) = loopsL E k := by simp [loopsL, List.range_succ, h]
theorem loopsL_le (k : Nat) : (loopsL E k).length ≤ k := by
  have := List.length_filter_le (fun v : Nat => minB E (v : Int)) (List.range k)
  simpa [loopsL] using this
/-- Seen, once the vertices below k are dealt with. -/
def seenB (E : List (Int × Int)) (k : Nat) (u : Int) : Prop := ∃ w : Nat, w < k ∧ u ∈ orb E (w : Int)
theorem seen_min (h : OneIn E) (h0 : ∀ u, u ∈ E.map Prod.snd → 0 ≤ u) {k : Nat} (hk : (k : Int) ∈ E.map Prod.snd) : seenB E k (k : Int) ↔ minB E (k : Int) = false := by
  constructor
  · rintro ⟨w, hw, hm⟩
    cases hb : minB E (k : Int) with
    | false => rfl
    | true =>
      have := (minB_iff.1 hb).2 _ (h.orb_symm hm)
      omega
  · intro hb
    apply Classical.byContradiction
    intro hc
    have : minB E (k : Int) = true := minB_iff.2 ⟨hk, fun u hu => by
      apply Classical.byContradiction
      intro hlt
      have hu0 := h0 u (h.orb_sub hu)
      obtain ⟨w, rfl⟩ := Int.eq_ofNat_of_zero_le hu0
      exact hc ⟨w, by omega, h.orb_symm hu⟩⟩
    rw [hb] at this
    cases this
theorem seen_skip {k : Nat} (h : (k : Int) ∉ E.map Prod.snd) (u : Int) : seenB E (k + 1) u ↔ seenB E k u := by
  constructor
  · rintro ⟨w, hw, hm⟩
    refine ⟨w, ?_, hm⟩
    have : w ≠ k := fun e => h (by rw [← e]; exact orb_in hm)
    omega
  · rintro ⟨w, hw, hm⟩
    exact ⟨w, by omega, hm⟩
theorem seen_add {k : Nat} (u : Int) : seenB E (k + 1) u ↔ seenB E k u ∨ u ∈ orb E (k : Int) := by
  constructor
  · rintro ⟨w, hw, hm⟩
    by_cases e : w = k
    · subst e; exact .inr hm
    · exact .inl ⟨w, by omega, hm⟩
  · rintro (⟨w, hw, hm⟩ | hm)
    · exact ⟨w, by omega, hm⟩
    · exact ⟨k, by omega, hm⟩
/-- Where it has been seen, its loop adds nothing. -/
theorem seen_same (h : OneIn E) {k : Nat} (hs : seenB E k (k : Int)) (u : Int) : seenB E (k + 1) u ↔ seenB E k u := by
  rw [seen_add]
  constructor
  · rintro (hu | hu)
    · exact hu
    · obtain ⟨w, hw, hm⟩ := hs
      exact ⟨w, hw, h.orb_trans hm hu⟩
  · exact .inl
end
theorem Surf.oneIn {N : Int} {T : List Tr} (hs : Surf N T) : OneIn (bordE T (3 * T.length)) := by
  have hm : ∀ e, e ∈ bordE T (3 * T.length) ↔ ∃ c : Nat, c < 3 * T.length ∧ opp T (c : Nat) < 0 ∧ e = (vt T (nxn c : Nat), vt T (pvn c : Nat)) := fun e => by
    unfold bordE
    simp only [List.mem_map, List.mem_filter, List.mem_range, decide_eq_true_eq]
    constructor
    · rintro ⟨c, ⟨h1, h2⟩, rfl⟩
      exact ⟨c, h1, h2, edgeAt_nat T c⟩
    · rintro ⟨c, h1, h2, rfl⟩
      exact ⟨c, ⟨h1, h2⟩, edgeAt_nat T c⟩
  refine ⟨?_, ?_, ?_⟩
  · unfold bordE
    rw [List.map_map, List.nodup_iff_pairwise_ne, List.pairwise_map]
    refine List.Pairwise.imp_of_mem ?_ (List.Pairwise.filter _ (List.nodup_iff_pairwise_ne.1 (List.nodup_range (n := 3 * T.length))))
    intro a b ha hb hne e
    obtain ⟨a1, a2⟩ := List.mem_filter.1 ha
    obtain ⟨b1, b2⟩ := List.mem_filter.1 hb
    simp only [Function.comp_apply, edgeAt_nat] at e
    exact hne (hs.in_one (List.mem_range.1 a1) (List.mem_range.1 b1) (by simpa using a2) (by simpa using b2) e)
  · unfold bordE
    rw [List.map_map, List.nodup_iff_pairwise_ne, List.pairwise_map]
    refine List.Pairwise.imp_of_mem ?_ (List.Pairwise.filter _ (List.nodup_iff_pairwise_ne.1 (List.nodup_range (n := 3 * T.length))))
    intro a b ha hb hne e
    obtain ⟨a1, a2⟩ := List.mem_filter.1 ha
    obtain ⟨b1, b2⟩ := List.mem_filter.1 hb
    simp only [Function.comp_apply, edgeAt_nat] at e
    exact hne (hs.out_one (List.mem_range.1 a1) (List.mem_range.1 b1) (by simpa using a2) (by simpa using b2) e)
  · intro x hx
    obtain ⟨e, he, rfl⟩ := List.mem_map.1 hx
    obtain ⟨c, h1, h2, rfl⟩ := (hm e).1 he
    obtain ⟨d, g1, g2, g3⟩ := hs.out_in h1 h2
    exact List.mem_map.2 ⟨_, (hm _).2 ⟨d, g1, g2, rfl⟩, g3⟩
theorem Surf.bord_in {N : Int} {T : List Tr} (hs : Surf N T) {u : Int} (h : u ∈ (bordE T (3 * T.length)).map Prod.snd) : 0 ≤ u ∧ u < N := by
  obtain ⟨e, he, rfl⟩ := List.mem_map.1 h
  obtain ⟨c, h1, -, rfl⟩ := bordE_mem he
  rw [edgeAt_nat]
  exact hs.vin.vt (c := ((pvn c : Nat) : Int)) (by omega) (by have := pvn_lt h1; omega)
end Go.Proofs.YtkjamheoihlekaaGreat

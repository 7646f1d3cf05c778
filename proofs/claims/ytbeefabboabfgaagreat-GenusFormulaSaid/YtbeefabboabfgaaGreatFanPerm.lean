/- The corners at a vertex of a surface, one behind the other: on the border one comes first, one last. Plain. -/
import Derived.Test.YtbeefabboabfgaaGreatFaceLaw
import Derived.Test.YtbeefabboabfgaaGreatTogether
namespace Go.Proofs.YtbeefabboabfgaaGreat
set_option linter.unusedVariables false
set_option linter.unusedSimpArgs false
open Go.RowKit
/-- Chains towards a. -/
inductive To (R : Nat → Nat → Prop) (a : Nat) : Nat → Prop
  | here : To R a a
  | step {x y : Nat} : R x y → To R a y → To R a x
theorem to_conn {R : Nat → Nat → Prop} (hd : ∀ x y z, R x y → R x z → y = z) {a b : Nat} (hno : ∀ y, ¬ R a y) (h : Conn R a b) : To R a b := by
  induction h with
  | refl => exact .here
  | step _ s ih =>
    have t := ih
    cases t with
    | here => exact absurd s (hno _)
    | step r t => rw [hd _ _ _ s r]; exact t
  | back _ s ih => exact .step s ih
theorem only_end {R : Nat → Nat → Prop} (hd : ∀ x y z, R x y → R x z → y = z) {a b : Nat} (hno : ∀ y, ¬ R a y) (hno' : ∀ y, ¬ R b y) (h : Conn R a b) : b = a := by
  cases to_conn hd hno h with
  | here => rfl
  | step r _ => exact absurd r (hno' _)
theorem conn_flip {R : Nat → Nat → Prop} {a b : Nat} (h : Conn R a b) : Conn (fun x y => R y x) a b := by
  induction h with
  | refl => exact .refl _
  | step _ s ih => exact .back ih s
  | back _ s ih => exact .step ih s
theorem only_start {R : Nat → Nat → Prop} (hi : ∀ x y z, R x z → R y z → x = y) {a b : Nat} (hno : ∀ y, ¬ R y a) (hno' : ∀ y, ¬ R y b) (h : Conn R a b) : b = a :=
  only_end (R := fun x y => R y x) (fun x y z h1 h2 => hi y z x h1 h2) hno hno' (conn_flip h)
theorem sub_len {α : Type} [DecidableEq α] : ∀ (l m : List α), l.Nodup → (∀ x, x ∈ l → x ∈ m) → l.length ≤ m.length
  | [], _, _, _ => Nat.zero_le _
  | a :: l, m, hn, hs => by
    have ha : a ∈ m := hs a (by simp)
    have hn' := List.nodup_cons.1 hn
    have := sub_len l (m.erase a) hn'.2 fun x hx => (List.mem_erase_of_ne (fun e => hn'.1 (by rw [← e]; exact hx))).2 (hs x (by simp [hx]))
    rw [List.length_erase_of_mem ha] at this
    have hp : 0 < m.length := List.length_pos_of_mem ha
    simp only [List.length_cons]
    omega
theorem all_in {α : Type} [DecidableEq α] {l m : List α} (hn : l.Nodup) (hs : ∀ x, x ∈ l → x ∈ m) (hl : m.length ≤ l.length) {z : α} (hz : z ∈ m) : z ∈ l := by
  by_cases h : z ∈ l
  · exact h
  · have := sub_len (z :: l) m (List.nodup_cons.2 ⟨h, hn⟩) fun x hx => by
      rcases List.mem_cons.1 hx with rfl | hx
      · exact hz
      · exact hs x hx
    simp only [List.length_cons] at this
    omega
/-- Of a finite relation that is a function both ways: where one has none behind it, one has none ahead of it. -/
theorem start_of_end {R : Nat → Nat → Prop} {X : List Nat} (hn : X.Nodup) (hR : ∀ x y, R x y → x ∈ X ∧ y ∈ X) (hd : ∀ x y z, R x y → R x z → y = z) {a : Nat} (ha : a ∈ X) (hno : ∀ y, ¬ R a y) : ∃ b, b ∈ X ∧ ∀ x, ¬ R x b := by
  apply Classical.byContradiction
  intro hc
  have hp : ∀ y, ∃ x, y ∈ X → R x y := fun y => by
    by_cases hy : y ∈ X
    · apply Classical.byContradiction
      intro h
      exact hc ⟨y, hy, fun x hx => h ⟨x, fun _ => hx⟩⟩
    · exact ⟨0, fun h => absurd h hy⟩
  obtain ⟨g, hg⟩ := Classical.skolem.1 hp
  have hm : (X.map g).Nodup := by
    rw [List.nodup_iff_pairwise_ne, List.pairwise_map]
    refine List.Pairwise.imp_of_mem ?_ (List.nodup_iff_pairwise_ne.1 hn)
    intro x y hx hy hne e
    have h1 := hg x hx
    have h2 := hg y hy
    rw [e] at h1
    exact hne (hd _ _ _ h1 h2)
  have hmem := all_in hm (m := X) (fun x hx => by
    obtain ⟨y, hy, rfl⟩ := List.mem_map.1 hx
    exact (hR _ _ (hg y hy)).1) (by simp) ha
  obtain ⟨y, hy, e⟩ := List.mem_map.1 hmem
  have := hg y hy
  rw [e] at this
  exact hno _ this
/-- From a corner to the next one round its vertex. -/
def FanR (T : List Tr) (x y : Nat) : Prop := x < 3 * T.length ∧ ∃ o : Nat, opp T (pvn x : Nat) = (o : Int) ∧ o < 3 * T.length ∧ y = pvn o
section
variable {N : Int} {T : List Tr}
theorem FanR.fun {x y z : Nat} (h : FanR T x y) (g : FanR T x z) : y = z := by
  obtain ⟨-, o, e, -, rfl⟩ := h
  obtain ⟨-, o', e', -, rfl⟩ := g
  have : o = o' := by omega
  rw [this]
theorem FanR.inj (hs : Surf N T) {x y z : Nat} (h : FanR T x z) (g : FanR T y z) : x = y := by
  obtain ⟨hx, o, e, ho, rfl⟩ := h
  obtain ⟨hy, o', e', ho', e2⟩ := g
  have h1 : o = o' := by have := congrArg nxn e2; rwa [nxn_pvn, nxn_pvn] at this
  subst h1
  obtain ⟨p, q1, -, q2, -, -⟩ := hs.opp_opp (pvn_lt hx) (by omega)
  obtain ⟨p', q1', -, q2', -, -⟩ := hs.opp_opp (pvn_lt hy) (by omega)
  have a1 : p = o := by omega
  have a2 : p' = o := by omega
  rw [a1] at q2
  rw [a2] at q2'
  have h2 : pvn x = pvn y := by omega
  have := congrArg nxn h2
  rwa [nxn_pvn, nxn_pvn] at this
theorem FanR.lt {x y : Nat} (h : FanR T x y) : x < 3 * T.length ∧ y < 3 * T.length := by
  obtain ⟨hx, o, -, ho, rfl⟩ := h
  exact ⟨hx, pvn_lt ho⟩
theorem FanR.vt (hs : Surf N T) {x y : Nat} (h : FanR T x y) : vt T (y : Nat) = vt T (x : Nat) := by
  obtain ⟨hx, o, e, ho, rfl⟩ := h
  obtain ⟨p, q1, -, -, q3, q4⟩ := hs.opp_opp (pvn_lt hx) (by omega)
  obtain rfl : p = o := by omega
  rw [q4, nxn_pvn]
theorem fan_last {x : Nat} (hx : x < 3 * T.length) : (∀ y, ¬ FanR T x y) ↔ opp T (pvn x : Nat) < 0 := by
  constructor
  · intro h
    apply Classical.byContradiction
    intro h0
    obtain ⟨o, e⟩ := Int.eq_ofNat_of_zero_le (show 0 ≤ opp T (pvn x : Nat) by omega)
    have := opp_lt (T := T) ((pvn x : Nat) : Int) (by omega) (by have := pvn_lt hx; omega)
    exact h (pvn o) ⟨hx, o, e, by omega, rfl⟩
  · rintro h y ⟨-, o, e, -, -⟩
    omega
theorem fan_first (hs : Surf N T) {y : Nat} (hy : y < 3 * T.length) : (∀ x, ¬ FanR T x y) ↔ opp T (nxn y : Nat) < 0 := by
  constructor
  · intro h
    apply Classical.byContradiction
    intro h0
    obtain ⟨p, q1, q0, q2, -, -⟩ := hs.opp_opp (nxn_lt hy) (by omega)
    refine h (nxn p) ⟨nxn_lt q0, nxn y, by rw [pvn_nxn]; exact q2, nxn_lt hy, (pvn_nxn y).symm⟩
  · rintro h x ⟨hx, o, e, ho, rfl⟩
    rw [nxn_pvn] at h
    obtain ⟨p, q1, -, q2, -, -⟩ := hs.opp_opp (pvn_lt hx) (by omega)
    obtain rfl : p = o := by omega
    omega
theorem vt_nat3 (T : List Tr) (c : Nat) : vt T (c : Nat) = tg (T! T (c / 3)) (c % 3) := by
  have := vt_tri T (c / 3) (c % 3) (Nat.mod_lt _ (by omega))
  rwa [show (3 * ((c / 3 : Nat) : Int) + ((c % 3 : Nat) : Int)) = (c : Int) by omega] at this
theorem Surf.corner_one (hs : Surf N T) {x y : Nat} (hx : x < 3 * T.length) (h1 : x / 3 = y / 3) (h2 : vt T (x : Nat) = vt T (y : Nat)) : x = y := by
  rw [vt_nat3, vt_nat3, h1] at h2
  have := tg_ne (hs.noloop (y / 3) (by omega)) (l := x % 3) (j := y % 3) (by omega) (by omega) h2
  omega
/-- Two corners at a vertex of triangles that have one more vertex in common. -/
theorem Surf.fan_step (hs : Surf N T) {v : Int} {x y : Nat} (hx : x < 3 * T.length) (hy : y < 3 * T.length) (vx : vt T (x : Nat) = v) (vy : vt T (y : Nat) = v) (h : PAdj T v (x / 3) (y / 3)) : x = y ∨ FanR T x y ∨ FanR T y x := by
  obtain ⟨hi, hk, -, -, j, hj, hne, h3⟩ := h
  have key : ∀ x y : Nat, x < 3 * T.length → y < 3 * T.length → vt T (x : Nat) = vt T (y : Nat) → vt T (nxn x : Nat) = vt T (pvn y : Nat) → FanR T x y := by
    intro x y hx hy e1 e2
    have h0 : 0 ≤ facing T (vt T (pvn y : Nat), vt T (y : Nat)) := facing_of (c := nxn y) (nxn_lt hy) (by rw [edgeAt_nat, show nxn (nxn y) = pvn y by unfold nxn pvn; omega, pvn_nxn])
    obtain ⟨c, e, hc, he⟩ := facing_some h0
    have hcy : c = nxn y := hs.edge_c hc (nxn_lt hy) (by rw [he, edgeAt_nat, show nxn (nxn y) = pvn y by unfold nxn pvn; omega, pvn_nxn])
    refine ⟨hx, nxn y, ?_, nxn_lt hy, (pvn_nxn y).symm⟩
    rw [opp_nat, nxn_pvn, show pvn (pvn x) = nxn x by unfold nxn pvn; omega, e1, e2, e, hcy]
  obtain ⟨j', hj', e3⟩ := hasB_iff.1 h3
  have ux : tg (T! T (x / 3)) (x % 3) = v := by rw [← vt_nat3]; exact vx
  have uy : tg (T! T (y / 3)) (y % 3) = v := by rw [← vt_nat3]; exact vy
  have hpj : x % 3 ≠ j := fun e => hne (by rw [← e]; exact ux)
  have hpj' : y % 3 ≠ j' := fun e => hne (by rw [← e3, ← e]; exact uy)
  have hd : j = (x % 3 + 1) % 3 ∨ j = (x % 3 + 2) % 3 := by omega
  have hd' : j' = (y % 3 + 1) % 3 ∨ j' = (y % 3 + 2) % 3 := by omega
  have nx' : ∀ c : Nat, vt T (nxn c : Nat) = tg (T! T (c / 3)) ((c % 3 + 1) % 3) := fun c => by rw [vt_nat3, nxn_div, show nxn c % 3 = (c % 3 + 1) % 3 by unfold nxn; omega]
  have pv' : ∀ c : Nat, vt T (pvn c : Nat) = tg (T! T (c / 3)) ((c % 3 + 2) % 3) := fun c => by rw [vt_nat3, pvn_div, show pvn c % 3 = (c % 3 + 2) % 3 by unfold pvn; omega]
  rcases hd with hd | hd <;> rcases hd' with hd' | hd'
  · have := hs.edge_one (i := x / 3) (i' := y / 3) (p := x % 3) (q := y % 3) hi hk (by omega) (by omega) (ux.trans uy.symm) (by rw [← hd, ← hd']; exact e3.symm)
    exact .inl (hs.corner_one hx this.1 (vx.trans vy.symm))
  · exact .inr (.inl (key x y hx hy (vx.trans vy.symm) (by rw [nx', pv', ← hd, ← hd']; exact e3.symm)))
  · exact .inr (.inr (key y x hy hx (vy.trans vx.symm) (by rw [nx', pv', ← hd, ← hd']; exact e3)))
  · have := hs.edge_one (i := x / 3) (i' := y / 3) (p := (x % 3 + 2) % 3) (q := (y % 3 + 2) % 3) hi hk (by omega) (by omega) (by rw [← hd, ← hd']; exact e3.symm)
      (by rw [show ((x % 3 + 2) % 3 + 1) % 3 = x % 3 by omega, show ((y % 3 + 2) % 3 + 1) % 3 = y % 3 by omega]; exact ux.trans uy.symm)
    exact .inl (hs.corner_one hx this.1 (vx.trans vy.symm))
theorem corner_has {v : Int} {i : Nat} (hi : i < T.length) (h : hasB (T! T i) v = true) : ∃ c : Nat, c < 3 * T.length ∧ c / 3 = i ∧ vt T (c : Nat) = v := by
  obtain ⟨j, hj, e⟩ := hasB_iff.1 h
  refine ⟨3 * i + j, by omega, by omega, ?_⟩
  rw [vt_nat3, show (3 * i + j) / 3 = i by omega, show (3 * i + j) % 3 = j by omega]
  exact e
theorem has_corner {c : Nat} : hasB (T! T (c / 3)) (vt T (c : Nat)) = true := hasB_iff.2 ⟨c % 3, by omega, (vt_nat3 T c).symm⟩
theorem Surf.fan_conn (hs : Surf N T) {x y : Nat} (hx : x < 3 * T.length) (hy : y < 3 * T.length) (h : vt T (x : Nat) = vt T (y : Nat)) : Conn (FanR T) x y := by
  obtain ⟨v, hv⟩ : ∃ v, v = vt T (x : Nat) := ⟨_, rfl⟩
  have hin := hs.vin (x / 3) (by omega) (x % 3)
  rw [← vt_nat3, ← hv] at hin
  have hc := hs.pin v hin.1 hin.2 (x / 3) (y / 3) (by omega) (by omega) (by rw [hv]; exact has_corner) (by rw [hv, h]; exact has_corner)
  have gen : ∀ i k, Conn (PAdj T v) i k → i = x / 3 → ∀ y : Nat, y < 3 * T.length → y / 3 = k → vt T (y : Nat) = v → Conn (FanR T) x y := by
    intro i k c
    induction c with
    | refl =>
      intro hi y hy hk e
      rw [hs.corner_one hx (by omega) (hv.symm.trans e.symm)]
      exact .refl _
    | step _ s ih =>
      intro hi y hy hk e
      obtain ⟨z, hz, hz3, ez⟩ := corner_has s.1 s.2.2.1
      have hcz := ih hi z hz hz3 ez
      subst hk
      subst hz3
      rcases hs.fan_step hz hy ez e s with r | r | r
      · rw [← r]; exact hcz
      · exact hcz.step r
      · exact hcz.back r
    | back _ s ih =>
      intro hi y hy hk e
      obtain ⟨z, hz, hz3, ez⟩ := corner_has s.2.1 s.2.2.2.1
      have hcz := ih hi z hz hz3 ez
      subst hk
      subst hz3
      rcases hs.fan_step hy hz e ez s with r | r | r
      · rw [r]; exact hcz
      · exact hcz.back r
      · exact hcz.step r
  exact gen _ _ hc rfl y hy rfl (by rw [hv]; exact h.symm)
/-- A vertex has at most one border edge that begins there. -/
theorem Surf.out_one (hs : Surf N T) {c d : Nat} (hc : c < 3 * T.length) (hd : d < 3 * T.length) (bc : opp T (c : Nat) < 0) (bd : opp T (d : Nat) < 0) (h : vt T (nxn c : Nat) = vt T (nxn d : Nat)) : c = d := by
  have := only_end (R := FanR T) (fun x y z => FanR.fun) ((fan_last (nxn_lt hc)).2 (by rw [pvn_nxn]; exact bc)) ((fan_last (nxn_lt hd)).2 (by rw [pvn_nxn]; exact bd)) (hs.fan_conn (nxn_lt hc) (nxn_lt hd) h)
  have := congrArg pvn this
  rw [pvn_nxn, pvn_nxn] at this
  exact this.symm
/-- And at most one that ends there. -/
theorem Surf.in_one (hs : Surf N T) {c d : Nat} (hc : c < 3 * T.length) (hd : d < 3 * T.length) (bc : opp T (c : Nat) < 0) (bd : opp T (d : Nat) < 0) (h : vt T (pvn c : Nat) = vt T (pvn d : Nat)) : c = d := by
  have := only_start (R := FanR T) (fun x y z => FanR.inj hs) ((fan_first hs (pvn_lt hc)).2 (by rw [nxn_pvn]; exact bc)) ((fan_first hs (pvn_lt hd)).2 (by rw [nxn_pvn]; exact bd)) (hs.fan_conn (pvn_lt hc) (pvn_lt hd) h)
  have := congrArg nxn this
  rw [nxn_pvn, nxn_pvn] at this
  exact this.symm
/-- Where a border edge begins another one ends. -/
theorem Surf.out_in (hs : Surf N T) {c : Nat} (hc : c < 3 * T.length) (bc : opp T (c : Nat) < 0) : ∃ d : Nat, d < 3 * T.length ∧ opp T (d : Nat) < 0 ∧ vt T (pvn d : Nat) = vt T (nxn c : Nat) := by
  obtain ⟨X, hX⟩ : ∃ X, X = (List.range (3 * T.length)).filter fun x => decide (vt T (x : Nat) = vt T (nxn c : Nat)) := ⟨_, rfl⟩
  have hmem : ∀ x, x ∈ X ↔ x < 3 * T.length ∧ vt T (x : Nat) = vt T (nxn c : Nat) := fun x => by rw [hX]; simp
  obtain ⟨b, hb, hno⟩ := start_of_end (R := fun x y => FanR T x y ∧ x ∈ X) (X := X) (by rw [hX]; exact List.Pairwise.filter _ List.nodup_range)
    (fun x y ⟨h, hx⟩ => ⟨hx, (hmem y).2 ⟨h.lt.2, (h.vt hs).trans ((hmem x).1 hx).2⟩⟩) (fun x y z h1 h2 => h1.1.fun h2.1) (a := nxn c) ((hmem _).2 ⟨nxn_lt hc, rfl⟩)
    (fun y h => (fan_last (nxn_lt hc)).2 (by rw [pvn_nxn]; exact bc) y h.1)
  obtain ⟨h1, h2⟩ := (hmem b).1 hb
  refine ⟨nxn b, nxn_lt h1, (fan_first hs h1).1 fun x hx => hno x ⟨hx, (hmem x).2 ⟨hx.lt.1, (hx.vt hs).symm.trans h2⟩⟩, by rw [pvn_nxn]; exact h2⟩
end
end Go.Proofs.YtbeefabboabfgaaGreat

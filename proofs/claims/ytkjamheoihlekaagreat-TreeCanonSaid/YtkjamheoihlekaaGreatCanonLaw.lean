/- Plain law: breadth first does not hang on numbers. -/
import Derived.Test.YtkjamheoihlekaaGreatLeftLaw
namespace Go.Proofs.YtkjamheoihlekaaGreat
set_option linter.unusedVariables false
set_option linter.unusedSimpArgs false
/-- One surface is the other, renumbered. -/
structure Canon18 (N : Int) (T U : List Tr) (φ : Nat → Nat) (ρ : Int → Int) : Prop where
  s1 : Surf N T
  s2 : Surf N U
  len : U.length = T.length
  lt : ∀ c, c < 3 * T.length → φ c < 3 * T.length
  inj : ∀ c d, c < 3 * T.length → d < 3 * T.length → φ c = φ d → c = d
  sur : ∀ y, y < 3 * T.length → ∃ c, c < 3 * T.length ∧ φ c = y
  nx : ∀ c, c < 3 * T.length → φ (nxn c) = nxn (φ c)
  vr : ∀ c, c < 3 * T.length → vt U (φ c : Nat) = ρ (vt T (c : Nat))
  rin : ∀ u v, 0 ≤ u → u < N → 0 ≤ v → v < N → ρ u = ρ v → u = v
def tau (φ : Nat → Nat) (t : Nat) : Nat := φ (3 * t) / 3
section
variable {N : Int} {T U : List Tr} {φ : Nat → Nat} {ρ : Int → Int} (h : Canon18 N T U φ ρ)
include h
theorem Canon18.pv {c : Nat} (hc : c < 3 * T.length) : φ (pvn c) = pvn (φ c) := by
  have := h.nx (pvn c) (pvn_lt hc)
  rw [nxn_pvn] at this
  rw [this, pvn_nxn]
theorem Canon18.tri {c : Nat} (hc : c < 3 * T.length) : φ c / 3 = tau φ (c / 3) := by
  unfold tau
  have h1 := h.nx (3 * (c / 3)) (by omega)
  have h2 := h.pv (c := 3 * (c / 3)) (by omega)
  have h3 := nxn_div (φ (3 * (c / 3)))
  have h4 := pvn_div (φ (3 * (c / 3)))
  have : c = 3 * (c / 3) ∨ c = nxn (3 * (c / 3)) ∨ c = pvn (3 * (c / 3)) := by unfold nxn pvn; omega
  rcases this with e | e | e
  · rw [← e]
  · rw [← h1, ← e] at h3; exact h3
  · rw [← h2, ← e] at h4; exact h4
theorem Canon18.tau_lt {t : Nat} (ht : t < T.length) : tau φ t < T.length := by
  have := h.lt (3 * t) (by omega)
  unfold tau
  omega
theorem Canon18.tau_inj {t u : Nat} (ht : t < T.length) (hu : u < T.length) (e : tau φ t = tau φ u) : t = u := by
  -- the corner of u that lies where 3 t lies
  have key : ∃ c, c / 3 = u ∧ c < 3 * T.length ∧ φ c = φ (3 * t) := by
    have a0 := h.tri (c := 3 * u) (by omega)
    have a1 := h.nx (3 * u) (by omega)
    have a2 := h.pv (c := 3 * u) (by omega)
    rw [show 3 * u / 3 = u by omega] at a0
    have b0 : φ (3 * t) / 3 = tau φ t := rfl
    have : φ (3 * t) = φ (3 * u) ∨ φ (3 * t) = nxn (φ (3 * u)) ∨ φ (3 * t) = pvn (φ (3 * u)) := by unfold nxn pvn; omega
    rcases this with q | q | q
    · exact ⟨3 * u, by omega, by omega, q.symm⟩
    · exact ⟨nxn (3 * u), by rw [nxn_div]; omega, nxn_lt (by omega), by rw [a1, q]⟩
    · exact ⟨pvn (3 * u), by rw [pvn_div]; omega, pvn_lt (by omega), by rw [a2, q]⟩
  obtain ⟨c, h1, h2, h3⟩ := key
  have := h.inj c (3 * t) h2 (by omega) h3
  omega
theorem Canon18.op {c : Nat} (hc : c < 3 * T.length) : (∀ o : Nat, opp T (c : Nat) = (o : Int) → opp U (φ c : Nat) = ((φ o : Nat) : Int)) ∧ (opp T (c : Nat) < 0 → opp U (φ c : Nat) < 0) := by
  have hcU : φ c < 3 * U.length := by rw [h.len]; exact h.lt c hc
  constructor
  · intro o ho
    obtain ⟨o', e1, e2, e3, e4, e5⟩ := h.s1.opp_opp hc (by omega)
    obtain rfl : o' = o := by omega
    have hoU : φ o' < 3 * U.length := by rw [h.len]; exact h.lt o' e2
    have v1 : vt U (nxn (φ o') : Nat) = vt U (pvn (φ c) : Nat) := by rw [← h.nx o' e2, ← h.pv hc, h.vr _ (nxn_lt e2), h.vr _ (pvn_lt hc), e4]
    have v2 : vt U (pvn (φ o') : Nat) = vt U (nxn (φ c) : Nat) := by rw [← h.pv e2, ← h.nx c hc, h.vr _ (pvn_lt e2), h.vr _ (nxn_lt hc), e5]
    have hex : edgeAt U ((φ o' : Nat) : Int) = (vt U (pvn (φ c) : Nat), vt U (nxn (φ c) : Nat)) := by rw [edgeAt_nat, v1, v2]
    have h0 : 0 ≤ opp U (φ c : Nat) := by
      rw [opp_nat]
      exact facing_of hoU hex
    obtain ⟨w, w1, w2, -, w4, w5⟩ := h.s2.opp_opp hcU h0
    rw [w1]
    have := h.s2.edge_c w2 hoU (by rw [hex, edgeAt_nat, w4, w5])
    rw [this]
  · intro hn
    apply Classical.byContradiction
    intro h0
    obtain ⟨w, w1, w2, -, w4, w5⟩ := h.s2.opp_opp hcU (by omega)
    obtain ⟨o, ho, rfl⟩ := h.sur w (by rw [← h.len]; exact w2)
    rw [← h.nx o ho, ← h.pv hc, h.vr _ (nxn_lt ho), h.vr _ (pvn_lt hc)] at w4
    rw [← h.pv ho, ← h.nx c hc, h.vr _ (pvn_lt ho), h.vr _ (nxn_lt hc)] at w5
    have r : ∀ x : Nat, x < 3 * T.length → 0 ≤ vt T (x : Nat) ∧ vt T (x : Nat) < N := fun x hx => h.s1.vin.vt (c := (x : Nat)) (by omega) (by omega)
    have e4 := h.rin _ _ (r _ (nxn_lt ho)).1 (r _ (nxn_lt ho)).2 (r _ (pvn_lt hc)).1 (r _ (pvn_lt hc)).2 w4
    have e5 := h.rin _ _ (r _ (pvn_lt ho)).1 (r _ (pvn_lt ho)).2 (r _ (nxn_lt hc)).1 (r _ (nxn_lt hc)).2 w5
    have : 0 ≤ opp T (c : Nat) := by
      rw [opp_nat]
      exact facing_of ho (by rw [edgeAt_nat, e4, e5])
    omega
/-- Two states that go together. -/
def RelB (T : List Tr) (φ : Nat → Nat) (s s' : BfS) : Prop := s'.o = s.o.map (tau φ) ∧ ∀ t, t < T.length → (s.l t = -1 ∧ s'.l (tau φ t) = -1) ∨ ∃ c : Nat, s.l t = c ∧ c < 3 * T.length ∧ s'.l (tau φ t) = ((φ c : Nat) : Int)
theorem Canon18.over {s s' : BfS} (hr : RelB T φ s s') (hlt : ∀ t, t ∈ s.o → t < T.length) {c : Nat} (hc : c < 3 * T.length) : RelB T φ (overB T s c) (overB U s' (φ c)) := by
  obtain ⟨r1, r2⟩ := hr
  obtain ⟨o1, o2⟩ := h.op hc
  have hmem : ∀ t, t < T.length → (tau φ t ∈ s'.o ↔ t ∈ s.o) := by
    intro t ht
    rw [r1, List.mem_map]
    constructor
    · rintro ⟨u, hu, e⟩
      rw [← h.tau_inj (hlt u hu) ht e]; exact hu
    · intro q; exact ⟨t, q, rfl⟩
  by_cases h0 : 0 ≤ opp T (c : Nat)
  · obtain ⟨o, e1, e2, -, -, -⟩ := h.s1.opp_opp hc h0
    have eU := o1 o e1
    have hm := hmem (o / 3) (by omega)
    have ht := h.tri e2
    unfold overB
    rw [e1, eU]
    simp only [Int.toNat_natCast, Int.natCast_nonneg, true_and]
    simp only [ht]
    by_cases hq : o / 3 ∈ s.o
    · rw [if_neg (by simpa using hq), if_neg (by simpa [hm] using hq)]
      exact ⟨r1, r2⟩
    · rw [if_pos hq, if_pos (by rw [hm]; exact hq)]
      refine ⟨by simp [r1], fun t ht' => ?_⟩
      by_cases e : t = o / 3
      · right
        subst e
        exact ⟨o, by simp, e2, by simp⟩
      · have e' : tau φ t ≠ tau φ (o / 3) := fun q => e (h.tau_inj ht' (by omega) q)
        simp only [e, e', if_false]
        exact r2 t ht'
  · have hU := o2 (by omega)
    unfold overB
    rw [if_neg (fun q => h0 q.1), if_neg (fun q => by omega)]
    exact ⟨r1, r2⟩
theorem Canon18.overs {f : Nat} : ∀ (cs : List Nat) {s s' : BfS}, RelB T φ s s' → BfI T f s → (∀ c, c ∈ cs → c < 3 * T.length ∧ c / 3 ∈ s.o) → RelB T φ (cs.foldl (overB T) s) ((cs.map φ).foldl (overB U) s')
  | [], _, _, hr, _, _ => hr
  | c :: cs, s, s', hr, hI, hc => Canon18.overs cs (h.over hr hI.lt (hc c (by simp)).1) (hI.over h.s1 (hc c (by simp)).1 (hc c (by simp)).2) fun x hx => ⟨(hc x (by simp [hx])).1, (over_ext T s c).o.subset (hc x (by simp [hx])).2⟩
theorem Canon18.bfb {f : Nat} (hf : f < 3 * T.length) : ∀ k, RelB T φ (bfsB T f k) (bfsB U (φ f) k)
  | 0 => by
    refine ⟨?_, fun t ht => .inl ⟨rfl, rfl⟩⟩
    show [φ f / 3] = [tau φ (f / 3)]
    rw [h.tri hf]
  | k + 1 => by
    have ih := Canon18.bfb hf k
    have hI := bfs_inv h.s1 hf k
    show RelB T φ (stepB T f k (bfsB T f k)) (stepB U (φ f) k (bfsB U (φ f) k))
    generalize bfsB T f k = s at *
    generalize bfsB U (φ f) k = s' at *
    unfold stepB
    have hl : s'.o.length = s.o.length := by rw [ih.1, List.length_map]
    by_cases hk : k < s.o.length
    · rw [if_pos hk, if_pos (by omega)]
      have hs := hI.sides hf hk
      have hside : sidesB (φ f) k s' = (sidesB f k s).map φ := by
        unfold sidesB
        by_cases k0 : k = 0
        · rw [if_pos k0, if_pos k0]
          simp only [List.map_cons, List.map_nil]
          rw [h.nx f hf, h.pv hf]
        · rw [if_neg k0, if_neg k0]
          have hg : s.o.getD k 0 = s.o[k] := by rw [List.getD_eq_getElem?_getD, List.getElem?_eq_getElem hk]; rfl
          have hg' : s'.o.getD k 0 = tau φ s.o[k] := by rw [ih.1, List.getD_eq_getElem?_getD, List.getElem?_map, List.getElem?_eq_getElem hk]; rfl
          have hne : s.o[k] ≠ f / 3 := by
            intro e
            have h0' : 0 < s.o.length := by omega
            have h0 := hI.hd
            rw [List.getElem?_eq_getElem h0'] at h0
            exact k0 (nodup_get18 hI.nd hk h0' (by rw [e]; exact (Option.some.inj h0).symm))
          obtain ⟨q, e1, e2, -⟩ := hI.lk _ (List.getElem_mem hk) hne
          obtain ⟨p1, -⟩ | ⟨c, p1, p2, p3⟩ := ih.2 s.o[k] (hI.lt _ (List.getElem_mem hk))
          · omega
          · rw [hg, hg', p1, p3]
            simp only [Int.toNat_natCast, List.map_cons, List.map_nil]
            rw [h.nx c p2, h.pv p2]
      rw [hside]
      exact h.overs _ ih hI fun c hc => ⟨(hs c hc).1, (hs c hc).2 ▸ getD_mem18 hk⟩
    · rw [if_neg hk, if_neg (by omega)]
      exact ih
theorem Canon18.bf {f : Nat} (hf : f < 3 * T.length) : RelB T φ (bfs T f) (bfs U (φ f)) := by
  have := h.bfb hf T.length
  unfold bfs
  rw [h.len]
  exact this
/-- An edge under new names. -/
theorem Canon18.uk {c : Nat} (hc : c < 3 * T.length) : ukey U (φ c) = (min (ρ (vt T (nxn c : Nat))) (ρ (vt T (pvn c : Nat))), max (ρ (vt T (nxn c : Nat))) (ρ (vt T (pvn c : Nat)))) := by
  unfold ukey
  rw [← h.nx c hc, ← h.pv hc, h.vr _ (nxn_lt hc), h.vr _ (pvn_lt hc)]
theorem Canon18.uflat {c : Nat} (hc : c < 3 * T.length) : (min (ρ (ukey T c).1) (ρ (ukey T c).2), max (ρ (ukey T c).1) (ρ (ukey T c).2)) = ukey U (φ c) := by
  rw [h.uk hc]
  unfold ukey
  simp only
  generalize vt T (nxn c : Nat) = a
  generalize vt T (pvn c : Nat) = b
  rcases Int.le_total a b with q | q
  · rw [Int.min_eq_left q, Int.max_eq_right q]
  · rw [Int.min_eq_right q, Int.max_eq_left q, Int.min_comm, Int.max_comm]
theorem Canon18.uk_inj {c d : Nat} (hc : c < 3 * T.length) (hd : d < 3 * T.length) (e : ukey U (φ c) = ukey U (φ d)) : ukey T c = ukey T d := by
  rcases ukey_one h.s2 (by rw [h.len]; exact h.lt c hc) (by rw [h.len]; exact h.lt d hd) e with q | q
  · rw [h.inj c d hc hd q]
  · by_cases h0 : 0 ≤ opp T (c : Nat)
    · obtain ⟨o, e1, e2, -, -, -⟩ := h.s1.opp_opp hc h0
      have := (h.op hc).1 o e1
      rw [this] at q
      have : o = d := h.inj o d e2 hd (by omega)
      subst this
      exact (ukey_opp h.s1 hc e1).symm
    · have := (h.op hc).2 (by omega)
      omega
/-- What is left over, under new names. -/
theorem Canon18.rest {f : Nat} (hf : f < 3 * T.length) {c : Nat} (hc : c < 3 * T.length) : restB U (bfs U (φ f)) (ukey U (φ c)) ↔ restB T (bfs T f) (ukey T c) := by
  have hr := h.bf hf
  have hI : BfI T f (bfs T f) := bfs_inv h.s1 hf _
  obtain ⟨r1, r2⟩ := hr
  generalize bfs T f = s at *
  generalize bfs U (φ f) = s' at *
  have hmem : ∀ t, t < T.length → (tau φ t ∈ s'.o ↔ t ∈ s.o) := by
    intro t ht
    rw [r1, List.mem_map]
    constructor
    · rintro ⟨u, hu, e⟩
      rw [← h.tau_inj (hI.lt u hu) ht e]; exact hu
    · intro q; exact ⟨t, q, rfl⟩
  have h1 : (∃ d : Nat, d < 3 * U.length ∧ d / 3 ∈ s'.o ∧ ukey U (φ c) = ukey U d) ↔ ∃ d : Nat, d < 3 * T.length ∧ d / 3 ∈ s.o ∧ ukey T c = ukey T d := by
    constructor
    · rintro ⟨y, y1, y2, y3⟩
      obtain ⟨d, d1, rfl⟩ := h.sur y (by rw [← h.len]; exact y1)
      refine ⟨d, d1, ?_, h.uk_inj hc d1 y3⟩
      rw [h.tri d1] at y2
      exact (hmem _ (by omega)).1 y2
    · rintro ⟨d, d1, d2, d3⟩
      refine ⟨φ d, by rw [h.len]; exact h.lt d d1, ?_, ?_⟩
      · rw [h.tri d1]
        exact (hmem _ (by omega)).2 d2
      · rw [← h.uflat hc, ← h.uflat d1, d3]
  have h2 : facedB U s' (ukey U (φ c)) ↔ facedB T s (ukey T c) := by
    constructor
    · rintro ⟨t', q, t1, t2, t3⟩
      rw [r1, List.mem_map] at t1
      obtain ⟨t, ht, rfl⟩ := t1
      obtain ⟨p1, p2⟩ | ⟨x, p1, p2, p3⟩ := r2 t (hI.lt t ht)
      · omega
      · refine ⟨t, x, ht, p1, h.uk_inj hc p2 ?_⟩
        rw [t3, show q = φ x by omega]
    · rintro ⟨t, q, t1, t2, t3⟩
      obtain ⟨p1, p2⟩ | ⟨x, p1, p2, p3⟩ := r2 t (hI.lt t t1)
      · omega
      · obtain rfl : x = q := by omega
        refine ⟨tau φ t, φ x, by rw [r1]; exact List.mem_map.2 ⟨t, t1, rfl⟩, p3, ?_⟩
        rw [← h.uflat hc, ← h.uflat p2, t3]
  unfold restB
  rw [h1, h2]
end
end Go.Proofs.YtkjamheoihlekaaGreat

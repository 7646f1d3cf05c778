/- gypsumlaw14.GenusHole, plain: a closed shell less some triangles that have no vertex in common. gypsumlaw14.GenusHole, plain: one triangle less, and two. -/
import Derived.Test.YtbeefabboabfgaaGreatCycLaw
namespace Go.Proofs.YtbeefabboabfgaaGreat
set_option linter.unusedVariables false
set_option linter.unusedSimpArgs false
open Go.RowKit
def subT (T : List Tr) (I : List Nat) : List Tr := I.map (T! T)
def up (I : List Nat) (c : Nat) : Nat := 3 * I.getD (c / 3) 0 + c % 3
theorem subT_len (T : List Tr) (I : List Nat) : (subT T I).length = I.length := by simp [subT]
theorem subT_get (T : List Tr) {I : List Nat} {i : Nat} (h : i < I.length) : T! (subT T I) i = T! T (I.getD i 0) := by
  simp [T!, subT, h]
theorem up_div (I : List Nat) (c : Nat) : up I c / 3 = I.getD (c / 3) 0 := by unfold up; omega
theorem up_nxn (I : List Nat) (c : Nat) : up I (nxn c) = nxn (up I c) := by
  have h := nxn_div c
  unfold up
  rw [h]
  unfold nxn
  omega
theorem up_pvn (I : List Nat) (c : Nat) : up I (pvn c) = pvn (up I c) := by
  have h := pvn_div c
  unfold up
  rw [h]
  unfold pvn
  omega
theorem vt_up {T : List Tr} {I : List Nat} {c : Nat} (h : c < 3 * I.length) : vt (subT T I) (c : Nat) = vt T (up I c : Nat) := by
  have h1 : vt (subT T I) ((c : Nat) : Int) = tg (T! (subT T I) (c / 3)) (c % 3) := rfl
  have h2 : vt T ((up I c : Nat) : Int) = tg (T! T (up I c / 3)) (up I c % 3) := rfl
  rw [h1, h2, up_div, subT_get T (by omega), show up I c % 3 = c % 3 from by unfold up; omega]
theorem has_vt {T : List Tr} (c : Nat) : hasB (T! T (c / 3)) (vt T ((c : Nat) : Int)) = true := by
  rw [vt_nat3]
  generalize T! T (c / 3) = t
  obtain ⟨x, y, z⟩ := t
  have : c % 3 = 0 ∨ c % 3 = 1 ∨ c % 3 = 2 := by omega
  rcases this with e | e | e <;> rw [e] <;> simp [hasB, tg]
theorem getD_mem {I : List Nat} {i : Nat} (h : i < I.length) : I.getD i 0 ∈ I := by
  have : I.getD i 0 = I[i] := by simp [h]
  rw [this]; exact List.getElem_mem h
theorem conn_to {A : Nat → Nat → Prop} (hsym : ∀ i j, A i j → A j i) {P : Nat → Prop} (h : ∀ i j, A i j → P i → P j) {i j : Nat} (hc : Conn A i j) : P i → P j := by
  induction hc with
  | refl => exact id
  | step _ ha ih => exact fun hi => h _ _ ha (ih hi)
  | back _ ha ih => exact fun hi => h _ _ (hsym _ _ ha) (ih hi)
theorem cntK_all {key : Nat → Int} {k : Nat} : ∀ {i : Nat}, (∀ j, j < i → key j = (k : Int)) → cntK key i k = i
  | 0, _ => rfl
  | i + 1, h => by rw [cntK_succ, cntK_all fun j hj => h j (by omega), h i (by omega)]; simp
/-- Some triangles of a closed shell; what is left is a surface. -/
structure Less (n : Nat) (T : List Tr) (I : List Nat) (L M : Nat → Int) : Prop where
  surf : Surf n T
  lab : IsShells (Adj T) T.length L
  one : ∀ i, i < T.length → L i = 0
  nd : I.Nodup
  lt : ∀ e, e ∈ I → e < T.length
  cl : ∀ c : Nat, c < 3 * T.length → 0 ≤ opp T (c : Int)
  sub : Surf n (subT T I)
  lsub : IsShells (Adj (subT T I)) (subT T I).length M
section
variable {n : Nat} {T : List Tr} {I : List Nat} {L M : Nat → Int}
theorem Less.up_lt (h : Less n T I L M) {c : Nat} (hc : c < 3 * I.length) : up I c < 3 * T.length := by
  have := h.lt _ (getD_mem (i := c / 3) (by omega))
  unfold up; omega
theorem Less.down (h : Less n T I L M) {x : Nat} (hx : x / 3 ∈ I) : ∃ c, c < 3 * I.length ∧ up I c = x := by
  obtain ⟨i, hi, e⟩ := List.mem_iff_getElem.1 hx
  refine ⟨3 * i + x % 3, by omega, ?_⟩
  unfold up
  rw [show (3 * i + x % 3) / 3 = i by omega, show (3 * i + x % 3) % 3 = x % 3 by omega]
  have : I.getD i 0 = x / 3 := by simp [hi, e]
  omega
/-- The corner across, of the whole. -/
theorem Less.across (h : Less n T I L M) {c : Nat} (hc : c < 3 * I.length) : ∃ d : Nat, opp T (up I c : Nat) = d ∧ d < 3 * T.length ∧ opp T (d : Int) = (up I c : Nat) ∧ vt (subT T I) (nxn c : Nat) = vt T (pvn d : Nat) ∧ vt (subT T I) (pvn c : Nat) = vt T (nxn d : Nat) := by
  obtain ⟨d, h1, h2, h3, h4, h5⟩ := h.surf.opp_opp (h.up_lt hc) (h.cl _ (h.up_lt hc))
  refine ⟨d, h1, h2, h3, ?_, ?_⟩
  · rw [vt_up (nxn_lt hc), up_nxn, h5]
  · rw [vt_up (pvn_lt hc), up_pvn, h4]
theorem Less.bord (h : Less n T I L M) {c d : Nat} (hc : c < 3 * I.length) (hd : opp T (up I c : Nat) = d) : opp (subT T I) (c : Nat) < 0 ↔ d / 3 ∉ I := by
  obtain ⟨d', h1, h2, h3, h4, h5⟩ := h.across hc
  obtain rfl : d = d' := by rw [hd] at h1; omega
  constructor
  · intro hb hI
    obtain ⟨x, hx, e⟩ := h.down hI
    have : 0 ≤ opp (subT T I) (c : Nat) := by
      rw [opp_nat]
      refine facing_of (c := x) (by rw [subT_len]; exact hx) ?_
      rw [edgeAt_nat, vt_up (nxn_lt hx), vt_up (pvn_lt hx), up_nxn, up_pvn, e, h4, h5]
    omega
  · intro hI
    apply Classical.byContradiction
    intro hb
    obtain ⟨o, g1, g2, g3, g4, g5⟩ := h.sub.opp_opp (c := c) (by rw [subT_len]; exact hc) (by omega)
    rw [subT_len] at g2
    rw [vt_up (nxn_lt g2), up_nxn] at g4
    rw [vt_up (pvn_lt g2), up_pvn] at g5
    have : up I o = d := h.surf.edge_c (h.up_lt g2) h2 (by rw [edgeAt_nat, edgeAt_nat, g4, g5, h4, h5])
    apply hI
    rw [← this, up_div]
    exact getD_mem (by omega)
theorem Less.nb (h : Less n T I L M) {i j : Nat} (hi : i < I.length) (hj : j < I.length) (ha : Adj T (I.getD i 0) (I.getD j 0)) : M j = M i := by
  have h1 := h.surf.adj_nb ha
  refine h.lsub.clo i j (by rw [subT_len]; exact hi) (by rw [subT_len]; exact hj) (h.sub.nb_adj ⟨by rw [subT_len]; exact hi, by rw [subT_len]; exact hj, ?_⟩)
  rw [subT_get T hi, subT_get T hj]
  exact h1.2.2
theorem Less.idx (h : Less n T I L M) {e : Nat} (he : e ∈ I) : ∃ i, i < I.length ∧ I.getD i 0 = e := by
  obtain ⟨i, hi, e⟩ := List.mem_iff_getElem.1 he
  exact ⟨i, hi, by simp [hi, e]⟩
theorem Less.conn (h : Less n T I L M) {i j : Nat} (hi : i < T.length) (hj : j < T.length) : Conn (Adj T) i j := h.lab.con i j hi hj (by rw [h.one i hi, h.one j hj])
/-- Each shell of what is left has a border. -/
theorem Less.edge (h : Less n T I L M) {a : Nat} (ha : a < T.length) (hna : a ∉ I) {i : Nat} (hi : i < I.length) : ∃ c d : Nat, c < 3 * I.length ∧ M (c / 3) = M i ∧ opp T (up I c : Nat) = d ∧ d < 3 * T.length ∧ d / 3 ∉ I := by
  apply Classical.byContradiction
  intro hc
  have hcl : ∀ e f, Adj T e f → (∃ j, j < I.length ∧ I.getD j 0 = e ∧ M j = M i) → (∃ j, j < I.length ∧ I.getD j 0 = f ∧ M j = M i) := by
    rintro e f hA ⟨j, hj, rfl, hm⟩
    obtain ⟨k, hk, h1, h2⟩ := id hA
    have hcl : 3 * j + k < 3 * I.length := by omega
    have hup : ((up I (3 * j + k) : Nat) : Int) = 3 * ((I.getD j 0 : Nat) : Int) + k := by
      unfold up
      rw [show (3 * j + k) / 3 = j by omega, show (3 * j + k) % 3 = k by omega]
      omega
    obtain ⟨d, g1, g2, g3, -, -⟩ := h.across hcl
    rw [hup] at g1
    rw [g1] at h2
    have hf : d / 3 = f := by simpa using h2
    by_cases hI : d / 3 ∈ I
    · rw [hf] at hI
      obtain ⟨j', hj', e'⟩ := h.idx hI
      refine ⟨j', hj', e', ?_⟩
      rw [← hm]
      exact h.nb hj hj' (by rw [e']; exact hA)
    · exact absurd ⟨3 * j + k, d, hcl, by rw [show (3 * j + k) / 3 = j by omega, hm], by rw [hup, g1], g2, hI⟩ hc
  have hI := h.lt _ (getD_mem hi)
  obtain ⟨j, hj, e, -⟩ := conn_to (fun i j => h.surf.adj_symm) hcl (h.conn hI ha) ⟨i, hi, rfl, rfl⟩
  exact hna (e ▸ getD_mem hj)
/-- Borders at one triangle are of one shell. -/
theorem Less.share (h : Less n T I L M) {c d c' d' : Nat} (hc : c < 3 * I.length) (hc' : c' < 3 * I.length) (hd : opp T (up I c : Nat) = d) (hd' : opp T (up I c' : Nat) = d') (e : d / 3 = d' / 3) : M (c / 3) = M (c' / 3) := by
  obtain ⟨x, h1, h2, -, h4, h5⟩ := h.across hc
  obtain ⟨x', h1', h2', -, h4', h5'⟩ := h.across hc'
  obtain rfl : d = x := by rw [hd] at h1; omega
  obtain rfl : d' = x' := by rw [hd'] at h1'; omega
  have key : ∀ v v' : Nat, v < 3 * I.length → v' < 3 * I.length → v / 3 = c / 3 → v' / 3 = c' / 3 → vt (subT T I) (v : Nat) = vt (subT T I) (v' : Nat) → M (c / 3) = M (c' / 3) := fun v v' hv hv' e1 e2 ev => by
    refine h.sub.at_vertex h.lsub (v := vt (subT T I) (v : Nat)) (by rw [subT_len]; omega) (by rw [subT_len]; omega) ?_ ?_
    · rw [← e1]
      exact has_vt v
    · rw [← e2, ev]
      exact has_vt v'
  have n1 := nxn_lt hc
  have p1 := pvn_lt hc
  have n2 := nxn_lt hc'
  have p2 := pvn_lt hc'
  rcases three_of d d' e.symm with rfl | rfl | rfl
  · exact key _ _ n1 n2 (nxn_div c) (nxn_div c') (by rw [h4, h4'])
  · exact key (nxn c) (pvn c') n1 p2 (nxn_div c) (pvn_div c') (by rw [h4, h5', nxn_nxn])
  · exact key (pvn c) (nxn c') p1 n2 (pvn_div c) (nxn_div c') (by rw [h5, h4', pvn_pvn])
/-- All of what is left is one shell, a triangle less. -/
theorem Less.one1 (h : Less n T I L M) {a : Nat} (ha : a < T.length) (hI : ∀ e, e < T.length → (e ∈ I ↔ e ≠ a)) : ∀ i j, i < I.length → j < I.length → M i = M j := by
  intro i j hi hj
  have hna : a ∉ I := fun g => ((hI a ha).1 g) rfl
  obtain ⟨c, d, h1, h2, h3, h4, h5⟩ := h.edge ha hna hi
  obtain ⟨c', d', g1, g2, g3, g4, g5⟩ := h.edge ha hna hj
  have e1 : d / 3 = a := Classical.byContradiction fun g => h5 ((hI _ (by omega)).2 g)
  have e2 : d' / 3 = a := Classical.byContradiction fun g => g5 ((hI _ (by omega)).2 g)
  rw [← h2, ← g2]
  exact h.share h1 g1 h3 g3 (by rw [e1, e2])
theorem opp_far (hs : Surf n T) {x d a b : Nat} (hx : x < 3 * T.length) (hd : opp T (x : Nat) = d) (hxa : x / 3 = a) (hfar : ∀ p q : Nat, p / 3 = a → q / 3 = b → vt T (p : Nat) ≠ vt T (q : Nat)) : d / 3 ≠ b := by
  obtain ⟨o, h1, h2, h3, h4, h5⟩ := hs.opp_opp hx (by rw [hd]; omega)
  obtain rfl : d = o := by rw [hd] at h1; omega
  intro e
  exact hfar (nxn x) (pvn d) (by rw [nxn_div, hxa]) (by rw [pvn_div, e]) h5.symm
theorem opp_self (hs : Surf n T) {x d : Nat} (hx : x < 3 * T.length) (hd : opp T (x : Nat) = d) : d / 3 ≠ x / 3 := by
  obtain ⟨o, h1, h2, h3, h4, h5⟩ := hs.opp_opp hx (by rw [hd]; omega)
  obtain rfl : d = o := by rw [hd] at h1; omega
  intro e
  have hne := ends_ne hs hx
  have hne1 := ends_ne hs (nxn_lt hx)
  have hne2 := ends_ne hs (pvn_lt hx)
  rw [nxn_nxn, pvn_nxn] at hne1
  rw [nxn_pvn, pvn_pvn] at hne2
  rcases three_of x d e with rfl | rfl | rfl
  · exact hne h4
  · rw [nxn_nxn] at h4
    rw [pvn_nxn] at h5
    exact hne2 h5
  · rw [nxn_pvn] at h4
    exact hne1 h4.symm
/-- All of what is left is one shell, two triangles less. -/
theorem Less.one2 (h : Less n T I L M) {a b : Nat} (ha : a < T.length) (hb : b < T.length) (hI : ∀ e, e < T.length → (e ∈ I ↔ e ≠ a ∧ e ≠ b))
    (hfar : ∀ p q : Nat, p / 3 = a → q / 3 = b → vt T (p : Nat) ≠ vt T (q : Nat)) : ∀ i j, i < I.length → j < I.length → M i = M j := by
  have hna : a ∉ I := fun g => ((hI a ha).1 g).1 rfl
  have hnb : b ∉ I := fun g => ((hI b hb).1 g).2 rfl
  have hfr : ∀ p q : Nat, p / 3 = b → q / 3 = a → vt T (p : Nat) ≠ vt T (q : Nat) := fun p q hp hq e => hfar q p hq hp e.symm
  have hab : a ≠ b := fun e => hfar (3 * a) (3 * a) (by omega) (by omega) rfl
  -- a corner across from a
  obtain ⟨da, hda, hda3, hdaa, -, -⟩ := h.surf.opp_opp (c := 3 * a) (by omega) (h.cl _ (by omega))
  have hdaI : da / 3 ∈ I := (hI _ (by omega)).2 ⟨by have := opp_self h.surf (x := 3 * a) (by omega) hda; omega, opp_far h.surf (x := 3 * a) (by omega) hda (by omega) hfar⟩
  obtain ⟨ca, hca, eca⟩ := h.down hdaI
  have hoa : opp T (up I ca : Nat) = ((3 * a : Nat) : Int) := by rw [eca, hdaa]
  have hA : ∀ c d : Nat, c < 3 * I.length → opp T (up I c : Nat) = d → d / 3 = a → M (c / 3) = M (ca / 3) := fun c d hc hd e => h.share hc hca hd hoa (by omega)
  have hB : ∃ cb db : Nat, cb < 3 * I.length ∧ opp T (up I cb : Nat) = db ∧ db / 3 = b ∧ M (cb / 3) = M (ca / 3) := by
    apply Classical.byContradiction
    intro hc
    have hcl : ∀ e f, Adj T e f → (e = a ∨ ∃ j, j < I.length ∧ I.getD j 0 = e ∧ M j = M (ca / 3)) → (f = a ∨ ∃ j, j < I.length ∧ I.getD j 0 = f ∧ M j = M (ca / 3)) := by
      rintro e f hAd (rfl | ⟨j, hj, rfl, hm⟩)
      · obtain ⟨k, hk, h1, h2⟩ := id hAd
        have hx3 : 3 * e + k < 3 * T.length := by omega
        have hup : (((3 * e + k : Nat)) : Int) = 3 * (e : Int) + k := by omega
        rw [← hup] at h1 h2
        obtain ⟨d, g1, g2, g3, g4, g5⟩ := h.surf.opp_opp hx3 h1
        rw [g1] at h2
        have hf : d / 3 = f := by simpa using h2
        have hfI : d / 3 ∈ I := (hI _ (by omega)).2 ⟨by have := opp_self h.surf hx3 g1; omega, opp_far h.surf hx3 g1 (by omega) hfar⟩
        obtain ⟨c, hc3, ec⟩ := h.down hfI
        right
        refine ⟨c / 3, by omega, by rw [← up_div, ec, hf], ?_⟩
        exact hA c (3 * e + k) hc3 (by rw [ec, g3]) (by omega)
      · obtain ⟨k, hk, h1, h2⟩ := id hAd
        have hcl : 3 * j + k < 3 * I.length := by omega
        have hup : ((up I (3 * j + k) : Nat) : Int) = 3 * ((I.getD j 0 : Nat) : Int) + k := by
          unfold up
          rw [show (3 * j + k) / 3 = j by omega, show (3 * j + k) % 3 = k by omega]
          omega
        obtain ⟨d, g1, g2, g3, -, -⟩ := h.across hcl
        have g1' := g1
        rw [hup] at g1
        rw [g1] at h2
        have hf : d / 3 = f := by simpa using h2
        by_cases hfa : f = a
        · exact .inl hfa
        · by_cases hfb : f = b
          · exact absurd ⟨3 * j + k, d, hcl, g1', by omega, by rw [show (3 * j + k) / 3 = j by omega, hm]⟩ hc
          · right
            have hfI : f ∈ I := (hI _ (by omega)).2 ⟨hfa, hfb⟩
            obtain ⟨j', hj', e'⟩ := h.idx hfI
            refine ⟨j', hj', e', ?_⟩
            rw [← hm]
            exact h.nb hj hj' (by rw [e']; exact hAd)
    rcases conn_to (fun i j => h.surf.adj_symm) hcl (h.conn ha hb) (.inl rfl) with e | ⟨j, hj, e, -⟩
    · exact hab e.symm
    · exact hnb (e ▸ getD_mem hj)
  obtain ⟨cb, db, hcb, hob, edb, hmb⟩ := hB
  have hall : ∀ i, i < I.length → M i = M (ca / 3) := fun i hi => by
    obtain ⟨c, d, h1, h2, h3, h4, h5⟩ := h.edge ha hna hi
    rw [← h2]
    by_cases e1 : d / 3 = a
    · exact hA c d h1 h3 e1
    · have e2 : d / 3 = b := Classical.byContradiction fun g => h5 ((hI _ (by omega)).2 ⟨e1, g⟩)
      rw [h.share h1 hcb h3 hob (by omega), hmb]
  intro i j hi hj
  rw [hall i hi, hall j hj]
theorem Less.zero (h : Less n T I L M) (hM : ∀ i j, i < I.length → j < I.length → M i = M j) : ∀ i, i < I.length → M i = 0 := by
  intro i hi
  have h0 := h.lsub.nonneg i (by rw [subT_len]; exact hi)
  apply Classical.byContradiction
  intro hne
  obtain ⟨j, hj, e⟩ := h.lsub.rg i (by rw [subT_len]; exact hi) 0 (by omega) (by omega)
  rw [hM j i (by omega) hi] at e
  exact hne e
theorem nV_one {N : Nat} {U : List Tr} {K : Nat → Int} (hs : Surf N U) (h0 : ∀ i, i < U.length → K i = 0) : nV U K N 0 = N := by
  unfold nV
  refine cntK_all fun v hv => ?_
  obtain ⟨c, c1, c2, c3⟩ := shV_corner (L := K) hs hv
  rw [c3, h0 _ (by omega)]; rfl
theorem nF_one {U : List Tr} {K : Nat → Int} (h0 : ∀ i, i < U.length → K i = 0) : nF U K 0 = U.length := cntK_all fun i hi => by rw [h0 i hi]; rfl
theorem cnt_one {K : Nat → Int} : ∀ {m : Nat}, 0 < m → (∀ i, i < m → K i = 0) → cnt K m = 1
  | 1, _, h => by show max (cnt K 0) (K 0 + 1) = 1; rw [h 0 (by omega)]; rfl
  | m + 2, _, h => by
    show max (cnt K (m + 1)) (K (m + 1) + 1) = 1
    rw [cnt_one (by omega) fun i hi => h i (by omega), h (m + 1) (by omega)]; rfl
theorem zero_of_cnt {K : Nat → Int} {m : Nat} {A : Nat → Nat → Prop} (h : IsShells A m K) (hc : cnt K m = 1) : ∀ i, i < m → K i = 0 := fun i hi => by
  have h1 := cnt_lt K m i hi
  have h2 := h.nonneg i hi
  omega
/-- No edge is lost. -/
theorem Less.nT (h : Less n T I L M) (hM : ∀ i, i < I.length → M i = 0) (hadj : ∀ x d : Nat, x < 3 * T.length → x / 3 ∉ I → opp T (x : Nat) = d → d / 3 ∈ I) : nT (subT T I) M 0 = nT T L 0 := by
  rw [← darts_length, ← darts_length]
  have h1 := sub_len (dartsOf (subT T I) M ((0 : Nat) : Int)) (dartsOf T L ((0 : Nat) : Int)) (darts_nodup h.sub _) (fun p hp => by
    obtain ⟨c, c1, c2, c3⟩ := darts_mem.1 hp
    rw [subT_len] at c1
    have hin : (vt T (nxn (up I c) : Nat), vt T (pvn (up I c) : Nat)) ∈ dartsOf T L ((0 : Nat) : Int) := darts_mem.2 ⟨up I c, h.up_lt c1, by rw [h.one _ (by have := h.up_lt c1; omega)]; rfl, .inl rfl⟩
    rw [vt_up (nxn_lt c1), vt_up (pvn_lt c1), up_nxn, up_pvn] at c3
    rcases c3 with rfl | ⟨-, rfl⟩
    · exact hin
    · exact darts_swap h.surf h.lab hin)
  have h2 := sub_len (dartsOf T L ((0 : Nat) : Int)) (dartsOf (subT T I) M ((0 : Nat) : Int)) (darts_nodup h.surf _) (fun p hp => by
    obtain ⟨c, c1, c2, c3⟩ := darts_mem.1 hp
    have hin : ∀ x, x < 3 * I.length → (vt T (nxn (up I x) : Nat), vt T (pvn (up I x) : Nat)) ∈ dartsOf (subT T I) M ((0 : Nat) : Int) := fun x hx => by
      rw [← up_nxn, ← up_pvn, ← vt_up (nxn_lt hx), ← vt_up (pvn_lt hx)]
      exact darts_mem.2 ⟨x, by rw [subT_len]; exact hx, by rw [hM _ (by omega)]; rfl, .inl rfl⟩
    rcases c3 with rfl | ⟨c3, -⟩
    · by_cases hI : c / 3 ∈ I
      · obtain ⟨x, hx, rfl⟩ := h.down hI
        exact hin x hx
      · obtain ⟨d, g1, g2, g3, g4, g5⟩ := h.surf.opp_opp c1 (h.cl c c1)
        obtain ⟨x, hx, rfl⟩ := h.down (hadj c d c1 hI g1)
        have := darts_swap h.sub h.lsub (hin x hx)
        rw [← g4, ← g5]
        exact this
    · have := h.cl c c1; omega)
  omega
theorem Less.at_hole (h : Less n T I L M) {w : Int} (hw : w ∈ (bordE (subT T I) (3 * (subT T I).length)).map Prod.snd) : ∃ x : Nat, x < 3 * T.length ∧ x / 3 ∉ I ∧ vt T (x : Nat) = w := by
  obtain ⟨c, c1, c2, c3⟩ := bord_corner hw
  rw [subT_len] at c1
  obtain ⟨d, g1, g2, g3, g4, g5⟩ := h.across c1
  exact ⟨nxn d, nxn_lt g2, by rw [nxn_div]; exact (h.bord c1 g1).1 c2, by rw [← g5, c3]⟩
theorem Less.round (h : Less n T I L M) (hadj : ∀ x d : Nat, x < 3 * T.length → x / 3 ∉ I → opp T (x : Nat) = d → d / 3 ∈ I) {x : Nat} (hx : x < 3 * T.length) (hn : x / 3 ∉ I) : (vt T (nxn x : Nat), vt T (x : Nat)) ∈ bordE (subT T I) (3 * (subT T I).length) := by
  have hp := pvn_lt hx
  obtain ⟨d, g1, g2, g3, g4, g5⟩ := h.surf.opp_opp hp (h.cl _ hp)
  rw [pvn_pvn] at g4
  rw [nxn_pvn] at g5
  have hd : d / 3 ∈ I := hadj (pvn x) d hp (by rw [pvn_div]; exact hn) g1
  obtain ⟨y, hy, rfl⟩ := h.down hd
  refine bord_mem_edges.2 ⟨y, by rw [subT_len]; exact hy, (h.bord hy g3).2 (by rw [pvn_div]; exact hn), ?_⟩
  rw [vt_up (nxn_lt hy), vt_up (pvn_lt hy), up_nxn, up_pvn, g4, g5]
theorem Less.ring (h : Less n T I L M) (hadj : ∀ x d : Nat, x < 3 * T.length → x / 3 ∉ I → opp T (x : Nat) = d → d / 3 ∈ I) {x y : Nat} (hx : x < 3 * T.length) (hn : x / 3 ∉ I) (e : y / 3 = x / 3) : vt T (y : Nat) ∈ orb (bordE (subT T I) (3 * (subT T I).length)) (vt T (x : Nat)) := by
  have hO := h.sub.oneIn
  have hsg : ∀ z : Nat, z < 3 * T.length → z / 3 ∉ I → sg (bordE (subT T I) (3 * (subT T I).length)) (vt T (z : Nat)) = vt T (nxn z : Nat) := fun z hz hzn => by
    unfold sg
    rw [nextB_of hO.ends (h.round hadj hz hzn)]; rfl
  refine (hO.orb_mem (List.mem_map.2 ⟨_, h.round hadj hx hn, rfl⟩)).2 ?_
  rcases three_of x y e with rfl | rfl | rfl
  · exact ⟨0, rfl⟩
  · exact ⟨1, (hsg x hx hn).symm⟩
  · refine ⟨2, ?_⟩
    change vt T (pvn x : Nat) = sg (bordE (subT T I) (3 * (subT T I).length)) (sg (bordE (subT T I) (3 * (subT T I).length)) (vt T (x : Nat)))
    rw [hsg x hx hn, hsg _ (nxn_lt hx) (by rw [nxn_div]; exact hn), nxn_nxn]
/-- No more loops than triangles are lost. -/
theorem Less.few (h : Less n T I L M) (hadj : ∀ x d : Nat, x < 3 * T.length → x / 3 ∉ I → opp T (x : Nat) = d → d / 3 ∈ I) (R : List Nat) (hR : ∀ e, e < T.length → e ∉ I → e ∈ R) : nB (subT T I) M n 0 ≤ R.length := by
  have hO := h.sub.oneIn
  obtain ⟨K, hK⟩ : ∃ K : Nat → Nat, ∀ w : Nat, w ∈ loopsOf (subT T I) M n 0 → ∃ x : Nat, x < 3 * T.length ∧ x / 3 ∉ I ∧ vt T (x : Nat) = (w : Int) ∧ x / 3 = K w := by
    have : ∀ w : Nat, ∃ k : Nat, w ∈ loopsOf (subT T I) M n 0 → ∃ x : Nat, x < 3 * T.length ∧ x / 3 ∉ I ∧ vt T (x : Nat) = (w : Int) ∧ x / 3 = k := fun w => by
      by_cases hw : w ∈ loopsOf (subT T I) M n 0
      · obtain ⟨x, h1, h2, h3⟩ := h.at_hole (minB_iff.1 (loops_mem.1 hw).2.1).1
        exact ⟨x / 3, fun _ => ⟨x, h1, h2, h3, rfl⟩⟩
      · exact ⟨0, fun g => absurd g hw⟩
    exact Classical.skolem.1 this
  rw [← loops_length]
  have := sub_len ((loopsOf (subT T I) M n 0).map K) R (nodup_on (fun u hu v hv e => by
    obtain ⟨x, x1, x2, x3, x4⟩ := hK u hu
    obtain ⟨y, y1, y2, y3, y4⟩ := hK v hv
    have hr := h.ring hadj x1 x2 (y := y) (by omega)
    rw [x3, y3] at hr
    have m1 := (minB_iff.1 (loops_mem.1 hu).2.1).2 _ hr
    have m2 := (minB_iff.1 (loops_mem.1 hv).2.1).2 _ (hO.orb_symm hr)
    omega) (List.Pairwise.filter _ (nodup_rf _ _))) (fun k hk => by
    obtain ⟨w, hw, rfl⟩ := List.mem_map.1 hk
    obtain ⟨x, x1, x2, x3, x4⟩ := hK w hw
    exact hR _ (by omega) (x4 ▸ x2))
  rw [List.length_map] at this
  exact this
/-- The numbers of what is left. -/
theorem Less.nums (h : Less n T I L M) (hM : ∀ i, i < I.length → M i = 0) (hadj : ∀ x d : Nat, x < 3 * T.length → x / 3 ∉ I → opp T (x : Nat) = d → d / 3 ∈ I) (hI : 0 < I.length) (h0 : nB T L n 0 = 0) :
    euK (subT T I) M n 0 = euK T L n 0 + I.length - T.length ∧ (nB (subT T I) M n 0 : Int) + 2 * gnK (subT T I) M n 0 = 2 * gnK T L n 0 + T.length - I.length := by
  have hlt := h.lt _ (getD_mem hI)
  have hMU : ∀ i, i < (subT T I).length → M i = 0 := fun i hi => hM i (by rw [subT_len] at hi; exact hi)
  have e1 := euler_ok h.surf h.lab (k := 0) (by rw [cnt_one (by omega) h.one]; decide)
  have e2 := euler_ok h.sub h.lsub (k := 0) (by rw [cnt_one (by rw [subT_len]; exact hI) hMU]; decide)
  have v1 := nV_one h.surf h.one
  have v2 := nV_one h.sub hMU
  have f1 := nF_one h.one
  have f2 := nF_one hMU
  have t := h.nT hM hadj
  have he : euK (subT T I) M n 0 = euK T L n 0 + I.length - T.length := by
    unfold euK
    rw [v1, v2, f1, f2, t, subT_len]
    omega
  refine ⟨he, ?_⟩
  have a := e1.2
  have b := e2.2
  rw [h0] at a
  omega
/-- There is a border. -/
theorem Less.some (h : Less n T I L M) (hM : ∀ i, i < I.length → M i = 0) (hadj : ∀ x d : Nat, x < 3 * T.length → x / 3 ∉ I → opp T (x : Nat) = d → d / 3 ∈ I) {a : Nat} (ha : a < T.length) (hna : a ∉ I) : 1 ≤ nB (subT T I) M n 0 := by
  have hr := h.round hadj (x := 3 * a) (by omega) (by rw [show 3 * a / 3 = a by omega]; exact hna)
  obtain ⟨c, c1, c2, -⟩ := bord_mem_edges.1 hr
  obtain ⟨w, hw⟩ := bord_loop (k := 0) h.sub h.lsub (c := c) (List.mem_filter.2 ⟨List.mem_range.2 c1, by rw [hM _ (by rw [subT_len] at c1; omega)]; simp [c2]⟩)
  rw [← loops_length]
  exact List.length_pos_of_mem hw
end
def butI (len a : Nat) : List Nat := List.range a ++ List.range' (a + 1) (len - (a + 1))
theorem butI_mem {len a e : Nat} (ha : a < len) : e ∈ butI len a ↔ e < len ∧ e ≠ a := by
  unfold butI
  rw [List.mem_append, List.mem_range, List.mem_range'_1]
  omega
theorem butI_len {len a : Nat} (ha : a < len) : (butI len a).length = len - 1 := by
  unfold butI
  simp
  omega
theorem butI_nd (len a : Nat) : (butI len a).Nodup := by
  unfold butI
  rw [List.nodup_append]
  refine ⟨List.nodup_range, List.nodup_range', fun x hx y hy e => ?_⟩
  rw [List.mem_range] at hx
  rw [List.mem_range'_1] at hy
  omega
theorem butI_sub (T : List Tr) (a : Nat) (ha : a < T.length) : subT T (butI T.length a) = T.take a ++ T.drop (a + 1) := by
  unfold subT butI
  rw [List.map_append]
  congr 1
  · apply List.ext_getElem
    · simp; omega
    · intro i h1 h2
      simp at h1
      simp [T!, show i < T.length by omega]
  · apply List.ext_getElem
    · simp
    · intro i h1 h2
      simp at h1
      simp [T!, show a + 1 + i < T.length by omega]
def twoP (a b : Nat) (j : Nat) : Bool := (j != a) && (j != b)
def twoI (len a b : Nat) : List Nat := (List.range len).filter (twoP a b)
theorem twoI_mem {len a b e : Nat} : e ∈ twoI len a b ↔ e < len ∧ e ≠ a ∧ e ≠ b := by simp [twoI, twoP]
theorem twoI_len {len a b : Nat} (ha : a < len) (hb : b < len) (hab : a ≠ b) : (twoI len a b).length = len - 2 := by
  have h1 := filt_split (twoP a b) (List.range len)
  rw [List.length_range] at h1
  have hm : ∀ x, x ∈ ((List.range len).filter fun x => !twoP a b x) ↔ x < len ∧ (x = a ∨ x = b) := fun x => by
    rw [List.mem_filter, List.mem_range]
    unfold twoP
    by_cases e1 : x = a <;> by_cases e2 : x = b <;> simp [e1, e2]
  have h2 := sub_len ((List.range len).filter fun x => !twoP a b x) [a, b] (nodup_rf _ _) (fun x hx => by
    rcases ((hm x).1 hx).2 with rfl | rfl <;> simp)
  have h3 := sub_len [a, b] ((List.range len).filter fun x => !twoP a b x) (by simp [hab]) (fun x hx => by
    simp only [List.mem_cons, List.not_mem_nil, or_false] at hx
    rcases hx with rfl | rfl
    · exact (hm _).2 ⟨ha, .inl rfl⟩
    · exact (hm _).2 ⟨hb, .inr rfl⟩)
  simp at h2 h3
  unfold twoI
  omega
section
variable {n : Nat} {T : List Tr} {L M : Nat → Int}
theorem closed_of (hs : Surf n T) (hL : IsShells (Adj T) T.length L) (hc : cnt L T.length = 1) (h0 : nB T L n 0 = 0) : ∀ c : Nat, c < 3 * T.length → 0 ≤ opp T (c : Int) := fun c hc3 => by
  apply Classical.byContradiction
  intro hn
  have he := no_loop hs hL h0
  have : c ∈ bordOf T L ((0 : Nat) : Int) := List.mem_filter.2 ⟨List.mem_range.2 hc3, by rw [zero_of_cnt hL hc _ (by omega)]; simp; omega⟩
  rw [he] at this
  cases this
/-- A triangle less. -/
theorem hole1 (hs : Surf n T) (hL : IsShells (Adj T) T.length L) (hc : cnt L T.length = 1) (h0 : nB T L n 0 = 0) {a : Nat} (ha : a < T.length) (hs1 : Surf n (subT T (butI T.length a))) (hM : IsShells (Adj (subT T (butI T.length a))) (subT T (butI T.length a)).length M) :
    cnt M (subT T (butI T.length a)).length = 1 ∧ nB (subT T (butI T.length a)) M n 0 = 1 ∧ gnK (subT T (butI T.length a)) M n 0 = gnK T L n 0 ∧ euK (subT T (butI T.length a)) M n 0 = euK T L n 0 - 1 ∧ nF (subT T (butI T.length a)) M 0 + 1 = nF T L 0 ∧ nT (subT T (butI T.length a)) M 0 = nT T L 0 := by
  have hcl := closed_of hs hL hc h0
  have hLe : Less n T (butI T.length a) L M := ⟨hs, hL, zero_of_cnt hL hc, butI_nd _ _, fun e he => ((butI_mem ha).1 he).1, hcl, hs1, hM⟩
  have hI : ∀ e, e < T.length → (e ∈ butI T.length a ↔ e ≠ a) := fun e he => ⟨fun h => ((butI_mem ha).1 h).2, fun h => (butI_mem ha).2 ⟨he, h⟩⟩
  have hadj : ∀ x d : Nat, x < 3 * T.length → x / 3 ∉ butI T.length a → opp T (x : Nat) = d → d / 3 ∈ butI T.length a := fun x d hx hn hd => by
    obtain ⟨o, o1, o2, -, -, -⟩ := hs.opp_opp hx (hcl x hx)
    have e : d = o := by rw [hd] at o1; omega
    have hxa : x / 3 = a := Classical.byContradiction fun g => hn ((hI _ (by omega)).2 g)
    refine (hI _ (by omega)).2 ?_
    rw [← hxa]
    exact opp_self hs hx hd
  have hone := hLe.one1 ha hI
  have hz := hLe.zero hone
  have hne : 0 < (butI T.length a).length := by
    obtain ⟨o, o1, o2, -, -, -⟩ := hs.opp_opp (c := 3 * a) (by omega) (hcl _ (by omega))
    exact List.length_pos_of_mem (hadj (3 * a) o (by omega) (by rw [show 3 * a / 3 = a by omega]; exact fun g => ((butI_mem ha).1 g).2 rfl) o1)
  have hlen := butI_len ha
  have hzU : ∀ i, i < (subT T (butI T.length a)).length → M i = 0 := fun i hi => hz i (by rw [subT_len] at hi; exact hi)
  obtain ⟨n1, n2⟩ := hLe.nums hz hadj hne h0
  have hfew := hLe.few hadj [a] (fun e he hn => by
    have : e = a := Classical.byContradiction fun g => hn ((hI e he).2 g)
    simp [this])
  simp only [List.length_cons, List.length_nil] at hfew
  refine ⟨cnt_one (by rw [subT_len]; exact hne) hzU, by omega, by omega, by omega, ?_, hLe.nT hz hadj⟩
  rw [nF_one hzU, nF_one hLe.one, subT_len]
  omega
/-- Two triangles less. -/
theorem hole2 (hs : Surf n T) (hL : IsShells (Adj T) T.length L) (hc : cnt L T.length = 1) (h0 : nB T L n 0 = 0) {a b : Nat} (ha : a < T.length) (hb : b < T.length) (hfar : ∀ i j : Nat, i < 3 → j < 3 → tg (T! T a) i ≠ tg (T! T b) j)
    (hs1 : Surf n (subT T (twoI T.length a b))) (hM : IsShells (Adj (subT T (twoI T.length a b))) (subT T (twoI T.length a b)).length M) :
    cnt M (subT T (twoI T.length a b)).length = 1 ∧ nB (subT T (twoI T.length a b)) M n 0 = 2 ∧ gnK (subT T (twoI T.length a b)) M n 0 = gnK T L n 0 := by
  have hcl := closed_of hs hL hc h0
  have hfr : ∀ p q : Nat, p / 3 = a → q / 3 = b → vt T (p : Nat) ≠ vt T (q : Nat) := fun p q hp hq => by
    rw [vt_nat3, vt_nat3, hp, hq]
    exact hfar _ _ (by omega) (by omega)
  have hab : a ≠ b := fun e => hfr (3 * a) (3 * a) (by omega) (by omega) rfl
  have hLe : Less n T (twoI T.length a b) L M := ⟨hs, hL, zero_of_cnt hL hc, nodup_rf _ _, fun e he => (twoI_mem.1 he).1, hcl, hs1, hM⟩
  have hI : ∀ e, e < T.length → (e ∈ twoI T.length a b ↔ e ≠ a ∧ e ≠ b) := fun e he => ⟨fun h => (twoI_mem.1 h).2, fun h => twoI_mem.2 ⟨he, h⟩⟩
  have hadj : ∀ x d : Nat, x < 3 * T.length → x / 3 ∉ twoI T.length a b → opp T (x : Nat) = d → d / 3 ∈ twoI T.length a b := fun x d hx hn hd => by
    obtain ⟨o, o1, o2, -, -, -⟩ := hs.opp_opp hx (hcl x hx)
    have e : d = o := by rw [hd] at o1; omega
    have hself := opp_self hs hx hd
    have hxa : x / 3 = a ∨ x / 3 = b := by
      by_cases g1 : x / 3 = a
      · exact .inl g1
      · by_cases g2 : x / 3 = b
        · exact .inr g2
        · exact absurd ((hI _ (by omega)).2 ⟨g1, g2⟩) hn
    refine (hI _ (by omega)).2 ?_
    rcases hxa with hxa | hxa
    · exact ⟨by omega, opp_far hs hx hd hxa hfr⟩
    · exact ⟨opp_far hs hx hd hxa fun p q hp hq e => hfr q p hq hp e.symm, by omega⟩
  have hone := hLe.one2 ha hb hI hfr
  have hz := hLe.zero hone
  have hna : a ∉ twoI T.length a b := fun g => (twoI_mem.1 g).2.1 rfl
  have hne : 0 < (twoI T.length a b).length := by
    obtain ⟨o, o1, o2, -, -, -⟩ := hs.opp_opp (c := 3 * a) (by omega) (hcl _ (by omega))
    exact List.length_pos_of_mem (hadj (3 * a) o (by omega) (by rw [show 3 * a / 3 = a by omega]; exact hna) o1)
  have hlen := twoI_len ha hb hab
  have hzU : ∀ i, i < (subT T (twoI T.length a b)).length → M i = 0 := fun i hi => hz i (by rw [subT_len] at hi; exact hi)
  obtain ⟨n1, n2⟩ := hLe.nums hz hadj hne h0
  have hfew := hLe.few hadj [a, b] (fun e he hn => by
    by_cases g1 : e = a
    · simp [g1]
    · by_cases g2 : e = b
      · simp [g2]
      · exact absurd ((hI e he).2 ⟨g1, g2⟩) hn)
  have hsome := hLe.some hz hadj ha hna
  simp only [List.length_cons, List.length_nil] at hfew
  refine ⟨cnt_one (by rw [subT_len]; exact hne) hzU, by omega, by omega⟩
end
end Go.Proofs.YtbeefabboabfgaaGreat

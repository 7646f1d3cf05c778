/- Plain law: the edges that no link faces hang together. -/
import Derived.Test.YtkjamheoihlekaaGreatBfsLaw
import Derived.Test.YtkjamheoihlekaaGreatFaceLaw
namespace Go.Proofs.YtkjamheoihlekaaGreat
set_option linter.unusedVariables false
set_option linter.unusedSimpArgs false
theorem ukey_one {N : Int} {T : List Tr} (hs : Surf N T) {c d : Nat} (hc : c < 3 * T.length) (hd : d < 3 * T.length) (e : ukey T c = ukey T d) : c = d ∨ opp T (c : Nat) = (d : Int) := by
  unfold ukey at e
  simp only [Prod.mk.injEq] at e
  have h : (vt T (nxn c : Nat) = vt T (nxn d : Nat) ∧ vt T (pvn c : Nat) = vt T (pvn d : Nat)) ∨ (vt T (nxn c : Nat) = vt T (pvn d : Nat) ∧ vt T (pvn c : Nat) = vt T (nxn d : Nat)) := by omega
  rcases h with h | h
  · exact .inl (hs.edge_c hc hd (by rw [edgeAt_nat, edgeAt_nat, h.1, h.2]))
  · right
    have h0 : 0 ≤ opp T (c : Nat) := by
      rw [opp_nat]
      exact facing_of hd (by rw [edgeAt_nat, h.1, h.2])
    obtain ⟨o, o1, o2, -, o4, o5⟩ := hs.opp_opp hc h0
    rw [o1]
    have := hs.edge_c o2 hd (by rw [edgeAt_nat, edgeAt_nat, o4, o5, h.1, h.2])
    omega
theorem ukey_opp {N : Int} {T : List Tr} (hs : Surf N T) {c o : Nat} (hc : c < 3 * T.length) (ho : opp T (c : Nat) = (o : Int)) : ukey T o = ukey T c := by
  obtain ⟨o', o1, o2, -, o4, o5⟩ := hs.opp_opp hc (by omega)
  obtain rfl : o' = o := by omega
  unfold ukey
  rw [o4, o5]
  simp only [Prod.mk.injEq]
  omega
/-- The corners of a triangle are unlike. -/
theorem vt_ne18 {N : Int} {T : List Tr} (hs : Surf N T) {c : Nat} (hc : c < 3 * T.length) : vt T (c : Nat) ≠ vt T (nxn c : Nat) ∧ vt T (c : Nat) ≠ vt T (pvn c : Nat) ∧ vt T (nxn c : Nat) ≠ vt T (pvn c : Nat) := by
  have key : ∀ a b : Nat, a / 3 = c / 3 → b / 3 = c / 3 → a ≠ b → vt T (a : Nat) ≠ vt T (b : Nat) := by
    intro a b ha hb hne e
    unfold vt at e
    simp only [Int.toNat_natCast] at e
    rw [ha, hb] at e
    have := tg_ne (hs.noloop (c / 3) (by omega)) (Nat.mod_lt a (by omega)) (Nat.mod_lt b (by omega)) e
    omega
  refine ⟨key _ _ rfl (nxn_div c) ?_, key _ _ rfl (pvn_div c) ?_, key _ _ (nxn_div c) (pvn_div c) ?_⟩ <;> (try unfold nxn) <;> (try unfold pvn) <;> omega
/-- Edges that links face; edges that are left. -/
def facedB (T : List Tr) (s : BfS) (e : Int × Int) : Prop := ∃ t c : Nat, t ∈ s.o ∧ s.l t = c ∧ e = ukey T c
def restB (T : List Tr) (s : BfS) (e : Int × Int) : Prop := (∃ c : Nat, c < 3 * T.length ∧ c / 3 ∈ s.o ∧ e = ukey T c) ∧ ¬ facedB T s e
def EAdj (P : Int × Int → Prop) (u v : Nat) : Prop := P ((u : Int), (v : Int))
theorem Conn.map18 {A B : Nat → Nat → Prop} (h : ∀ u v, A u v → Conn B u v) {u v : Nat} (hc : Conn A u v) : Conn B u v := by
  induction hc with
  | refl => exact .refl _
  | step _ a ih => exact ih.trans (h _ _ a)
  | back _ a ih => exact ih.trans (h _ _ a).symm
theorem edge_conn {N : Int} {T : List Tr} (hs : Surf N T) {P : Int × Int → Prop} {c : Nat} (hc : c < 3 * T.length) (h : P (ukey T c)) : Conn (EAdj P) (vt T (nxn c : Nat)).toNat (vt T (pvn c : Nat)).toNat := by
  have h1 := hs.vin.vt (c := (nxn c : Nat)) (by omega) (by have := nxn_lt hc; omega)
  have h2 := hs.vin.vt (c := (pvn c : Nat)) (by omega) (by have := pvn_lt hc; omega)
  unfold ukey at h
  generalize vt T (nxn c : Nat) = a at *
  generalize vt T (pvn c : Nat) = b at *
  rcases Int.le_total a b with hab | hab
  · rw [Int.min_eq_left hab, Int.max_eq_right hab] at h
    refine (Conn.refl _).step ?_
    show P ((a.toNat : Int), (b.toNat : Int))
    rw [Int.toNat_of_nonneg h1.1, Int.toNat_of_nonneg h2.1]
    exact h
  · rw [Int.min_eq_right hab, Int.max_eq_left hab] at h
    refine (Conn.refl _).back ?_
    show P ((b.toNat : Int), (a.toNat : Int))
    rw [Int.toNat_of_nonneg h1.1, Int.toNat_of_nonneg h2.1]
    exact h
/-- What an edge of two numbers comes of. -/
theorem nxn_nxn18 (c : Nat) : nxn (nxn c) = pvn c := by unfold nxn pvn; omega
theorem pvn_pvn18 (c : Nat) : pvn (pvn c) = nxn c := by unfold nxn pvn; omega
def LeftOK (T : List Tr) (s : BfS) : Prop := ∀ c d : Nat, c < 3 * T.length → d < 3 * T.length → c / 3 ∈ s.o → d / 3 ∈ s.o → Conn (EAdj (restB T s)) (vt T (c : Nat)).toNat (vt T (d : Nat)).toNat
theorem tri_conn {N : Int} {T : List Tr} (hs : Surf N T) {P : Int × Int → Prop} {o : Nat} (ho : o < 3 * T.length) (h1 : P (ukey T (nxn o))) (h2 : P (ukey T (pvn o))) : ∀ c : Nat, c / 3 = o / 3 → Conn (EAdj P) (vt T (o : Nat)).toNat (vt T (c : Nat)).toNat := by
  intro c hc
  have e1 := edge_conn hs (nxn_lt ho) h1
  have e2 := edge_conn hs (pvn_lt ho) h2
  rw [nxn_nxn18, pvn_nxn] at e1
  rw [nxn_pvn, pvn_pvn18] at e2
  have : c = o ∨ c = nxn o ∨ c = pvn o := by unfold nxn pvn; omega
  rcases this with rfl | rfl | rfl
  · exact .refl _
  · exact e2
  · exact e1.symm
theorem left_init {N : Int} {T : List Tr} (hs : Surf N T) {f : Nat} (hf : f < 3 * T.length) : LeftOK T (initB f) := by
  intro c d hc hd hcf hdf
  simp [initB] at hcf hdf
  have hP : ∀ x : Nat, x < 3 * T.length → x / 3 = f / 3 → restB T (initB f) (ukey T x) := by
    intro x hx hxf
    refine ⟨⟨x, hx, by simp [initB, hxf], rfl⟩, ?_⟩
    rintro ⟨t, q, ht, hq, -⟩
    have hq' : (-1 : Int) = (q : Int) := hq
    omega
  have h := tri_conn hs (P := restB T (initB f)) hf (hP _ (nxn_lt hf) (nxn_div f)) (hP _ (pvn_lt hf) (pvn_div f))
  exact (h c hcf).symm.trans (h d hdf)
theorem left_over {N : Int} {T : List Tr} (hs : Surf N T) {f : Nat} {s : BfS} (hI : BfI T f s) (h : LeftOK T s) {c : Nat} (hc : c < 3 * T.length) (hcm : c / 3 ∈ s.o) : LeftOK T (overB T s c) := by
  have hI' := hI.over hs hc hcm
  obtain ⟨s0, hs0, hov⟩ : ∃ s', overB T s c = s' ∧ OverS T s c s' := ⟨_, rfl, over_any T s c⟩
  rw [hs0] at hI' ⊢
  cases hov with
  | no _ => exact h
  | yes o ho hn =>
    obtain ⟨o', ho', h1, h2, v1, v2⟩ := hs.opp_opp hc (by omega)
    obtain rfl : o' = o := by omega
    clear ho' hs0
    -- the links of before
    have lk : ∀ (t q : Nat), t ∈ s.o → s.l t = q → q < 3 * T.length ∧ q / 3 = t ∧ ∃ p : Nat, opp T (q : Int) = p ∧ p / 3 ∈ s.o := by
      intro t q ht hq
      have hne : t ≠ f / 3 := by rintro rfl; rw [hI.rt] at hq; omega
      obtain ⟨q', e1, e2, e3, e4, e5, -⟩ := hI.lk t ht hne
      obtain rfl : q' = q := by omega
      exact ⟨e2, e3, _, (Int.toNat_of_nonneg e4).symm, e5⟩
    generalize hs' : (⟨s.o ++ [o' / 3], fun t => if t = o' / 3 then (o' : Int) else s.l t, fun t => if t = o' / 3 then s.d (c / 3) + 1 else s.d t⟩ : BfS) = s' at *
    have so' : s'.o = s.o ++ [o' / 3] := by rw [← hs']
    have sl' : ∀ t, s'.l t = if t = o' / 3 then (o' : Int) else s.l t := by intro t; rw [← hs']
    have faced' : ∀ e, facedB T s' e ↔ facedB T s e ∨ e = ukey T o' := by
      intro e
      constructor
      · rintro ⟨t, q, ht, hq, he⟩
        rw [sl'] at hq
        by_cases hto : t = o' / 3
        · rw [if_pos hto] at hq
          right
          rw [he, show q = o' by omega]
        · rw [if_neg hto] at hq
          rw [so'] at ht
          rcases List.mem_append.1 ht with ht | ht
          · exact .inl ⟨t, q, ht, hq, he⟩
          · simp at ht; exact absurd ht hto
      · rintro (⟨t, q, ht, hq, he⟩ | he)
        · exact ⟨t, q, by rw [so']; exact List.mem_append_left _ ht, by rw [sl', if_neg (fun (e : t = o' / 3) => hn (e ▸ ht))]; exact hq, he⟩
        · exact ⟨o' / 3, o', by rw [so']; simp, by rw [sl', if_pos rfl], he⟩
    -- the two other sides of the new triangle
    have side : ∀ x : Nat, x < 3 * T.length → x / 3 = o' / 3 → x ≠ o' → restB T s' (ukey T x) := by
      intro x hx hxo hne
      refine ⟨⟨x, hx, by rw [so', hxo]; simp, rfl⟩, ?_⟩
      rw [faced']
      rintro (⟨t, q, ht, hq, he⟩ | he)
      · obtain ⟨q1, q2, p, q3, q4⟩ := lk t q ht hq
        rcases ukey_one hs q1 hx he.symm with e | e
        · subst e
          exact hn (by rw [← hxo, q2]; exact ht)
        · rw [q3] at e
          obtain rfl : p = x := by omega
          exact hn (hxo ▸ q4)
      · rcases ukey_one hs hx h1 he with e | e
        · exact hne e
        · -- both sides of one edge in one triangle
          obtain ⟨z, z1, z2, z3, z4, z5⟩ := hs.opp_opp hx (by omega)
          obtain rfl : z = o' := by omega
          have hxx : x = nxn z ∨ x = pvn z := by unfold nxn pvn; omega
          obtain ⟨n1, n2, n3⟩ := vt_ne18 hs h1
          rcases hxx with rfl | rfl
          · rw [pvn_nxn] at z4
            exact n1 z4.symm
          · rw [nxn_pvn] at z5
            exact n2 z5.symm
    have hnx : nxn o' ≠ o' := by unfold nxn; omega
    have hpv : pvn o' ≠ o' := by unfold pvn; omega
    have htri := tri_conn hs h1 (side _ (nxn_lt h1) (nxn_div _) hnx) (side _ (pvn_lt h1) (pvn_div _) hpv)
    -- what was connected stays so
    have keep : ∀ u v, Conn (EAdj (restB T s)) u v → Conn (EAdj (restB T s')) u v := by
      intro u v huv
      refine Conn.map18 (fun a b hab => ?_) huv
      obtain ⟨⟨q, q1, q2, q3⟩, q4⟩ := hab
      by_cases he : ukey T q = ukey T o'
      · have hq3 : ((a : Int), (b : Int)) = ukey T o' := by rw [q3, he]
        have e1 := htri (nxn o') (nxn_div _)
        have e2 := htri (pvn o') (pvn_div _)
        unfold ukey at hq3
        simp only [Prod.mk.injEq] at hq3
        have w1 := hs.vin.vt (c := (nxn o' : Nat)) (by omega) (by have := nxn_lt h1; omega)
        have w2 := hs.vin.vt (c := (pvn o' : Nat)) (by omega) (by have := pvn_lt h1; omega)
        generalize vt T (nxn o' : Nat) = x at *
        generalize vt T (pvn o' : Nat) = y at *
        have : (a = x.toNat ∧ b = y.toNat) ∨ (a = y.toNat ∧ b = x.toNat) := by omega
        rcases this with ⟨rfl, rfl⟩ | ⟨rfl, rfl⟩
        · exact e1.symm.trans e2
        · exact e2.symm.trans e1
      · refine (Conn.refl _).step ⟨⟨q, q1, by rw [so']; exact List.mem_append_left _ q2, q3⟩, ?_⟩
        rw [faced']
        rintro (hh | hh)
        · exact q4 hh
        · exact he (by rw [← q3, hh])
    -- each corner hangs together with the edge gone over
    have hnc : vt T (nxn o' : Nat) = vt T (pvn c : Nat) := v1
    have base : ∀ x : Nat, x < 3 * T.length → x / 3 ∈ s'.o → Conn (EAdj (restB T s')) (vt T (pvn c : Nat)).toNat (vt T (x : Nat)).toNat := by
      intro x hx hxs
      rw [so'] at hxs
      rcases List.mem_append.1 hxs with hxs | hxs
      · exact keep _ _ (h _ _ (pvn_lt hc) hx (by rw [pvn_div]; exact hcm) hxs)
      · simp at hxs
        have := htri x hxs
        have h0 := htri (nxn o') (nxn_div _)
        rw [hnc] at h0
        exact h0.symm.trans this
    intro a b ha hb hao hbo
    exact (base a ha hao).symm.trans (base b hb hbo)
theorem left_overs {N : Int} {T : List Tr} (hs : Surf N T) {f : Nat} : ∀ (cs : List Nat) {s : BfS}, BfI T f s → LeftOK T s → (∀ c, c ∈ cs → c < 3 * T.length ∧ c / 3 ∈ s.o) → LeftOK T (cs.foldl (overB T) s)
  | [], _, _, h, _ => h
  | c :: cs, s, hI, h, hc => left_overs hs cs (hI.over hs (hc c (by simp)).1 (hc c (by simp)).2) (left_over hs hI h (hc c (by simp)).1 (hc c (by simp)).2) fun x hx => ⟨(hc x (by simp [hx])).1, (over_ext T s c).o.subset (hc x (by simp [hx])).2⟩
theorem left_all {N : Int} {T : List Tr} (hs : Surf N T) {f : Nat} (hf : f < 3 * T.length) : ∀ k, LeftOK T (bfsB T f k)
  | 0 => left_init hs hf
  | k + 1 => by
    show LeftOK T (stepB T f k (bfsB T f k))
    have hI := bfs_inv hs hf k
    have ih := left_all hs hf k
    unfold stepB
    split
    · rename_i hi
      refine left_overs hs _ hI ih fun c hc => ?_
      obtain ⟨h1, h2⟩ := hI.sides hf hi c hc
      exact ⟨h1, h2 ▸ getD_mem18 hi⟩
    · exact ih
/-- Links face edges one by one. -/
theorem faced_inj {N : Int} {T : List Tr} (hs : Surf N T) {f : Nat} (hf : f < 3 * T.length) {t u a b : Nat} (ht : t ∈ (bfs T f).o) (hu : u ∈ (bfs T f).o) (ha : (bfs T f).l t = a) (hb : (bfs T f).l u = b) (e : ukey T a = ukey T b) : t = u := by
  have hI := bfs_inv hs hf T.length
  have get : ∀ t a : Nat, t ∈ (bfs T f).o → (bfs T f).l t = a → a < 3 * T.length ∧ a / 3 = t ∧ (bfs T f).d t = (bfs T f).d ((opp T (a : Int)).toNat / 3) + 1 := by
    intro t a ht ha
    have hne : t ≠ f / 3 := by
      rintro rfl
      have := hI.rt
      unfold bfs at ha
      omega
    obtain ⟨q', e1, e2, e3, e4, e5, e6⟩ := hI.lk t ht hne
    obtain rfl : q' = a := by unfold bfs at ha; omega
    exact ⟨e2, e3, e6⟩
  obtain ⟨a1, a2, a3⟩ := get t a ht ha
  obtain ⟨b1, b2, b3⟩ := get u b hu hb
  rcases ukey_one hs a1 b1 e with h | h
  · omega
  · rcases ukey_one hs b1 a1 e.symm with h' | h'
    · omega
    · rw [h] at a3
      rw [h'] at b3
      simp only [Int.toNat_natCast] at a3 b3
      rw [b2] at a3
      rw [a2] at b3
      omega
end Go.Proofs.YtkjamheoihlekaaGreat

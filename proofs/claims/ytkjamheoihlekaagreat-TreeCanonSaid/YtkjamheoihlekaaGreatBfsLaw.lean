/- Plain law: breadth first over a surface's faces: of each triangle its link, and the order. -/
import Derived.Test.YtkjamheoihlekaaGreatFaceLaw
import Derived.Test.YtkjamheoihlekaaGreatPruneLaw
namespace Go.Proofs.YtkjamheoihlekaaGreat
set_option linter.unusedVariables false
set_option linter.unusedSimpArgs false
/-- The order in which triangles are reached, their links, how far they are. -/
structure BfS where
  o : List Nat
  l : Nat → Int
  d : Nat → Nat
def overB (T : List Tr) (s : BfS) (c : Nat) : BfS :=
  if 0 ≤ opp T (c : Int) ∧ (opp T (c : Int)).toNat / 3 ∉ s.o then
    ⟨s.o ++ [(opp T (c : Int)).toNat / 3], fun t => if t = (opp T (c : Int)).toNat / 3 then opp T (c : Int) else s.l t, fun t => if t = (opp T (c : Int)).toNat / 3 then s.d (c / 3) + 1 else s.d t⟩
  else s
def sidesB (f i : Nat) (s : BfS) : List Nat :=
  if i = 0 then [f, nxn f, pvn f] else [nxn (s.l (s.o.getD i 0)).toNat, pvn (s.l (s.o.getD i 0)).toNat]
def stepB (T : List Tr) (f i : Nat) (s : BfS) : BfS := if i < s.o.length then (sidesB f i s).foldl (overB T) s else s
def initB (f : Nat) : BfS := ⟨[f / 3], fun _ => -1, fun _ => 0⟩
def bfsB (T : List Tr) (f : Nat) : Nat → BfS
  | 0 => initB f
  | k + 1 => stepB T f k (bfsB T f k)
/-- All of it. -/
def bfs (T : List Tr) (f : Nat) : BfS := bfsB T f T.length
/-- What holds all the way. -/
structure BfI (T : List Tr) (f : Nat) (s : BfS) : Prop where
  nd : s.o.Nodup
  lt : ∀ t, t ∈ s.o → t < T.length
  hd : s.o[0]? = some (f / 3)
  no : ∀ t, t ∉ s.o → s.l t = -1
  rt : s.l (f / 3) = -1
  d0 : s.d (f / 3) = 0
  dl : ∀ t, t ∈ s.o → s.d t < s.o.length
  lk : ∀ t, t ∈ s.o → t ≠ f / 3 → ∃ c : Nat, s.l t = c ∧ c < 3 * T.length ∧ c / 3 = t ∧ 0 ≤ opp T (c : Int) ∧ (opp T (c : Int)).toNat / 3 ∈ s.o ∧ s.d t = s.d ((opp T (c : Int)).toNat / 3) + 1
theorem BfI.init {T : List Tr} {f : Nat} (hf : f < 3 * T.length) : BfI T f (initB f) where
  nd := by simp [initB]
  lt := by intro t h; simp [initB] at h; omega
  hd := rfl
  no := fun _ _ => rfl
  rt := rfl
  d0 := rfl
  dl := by intro t h; simp [initB]
  lk := by intro t h hne; simp [initB] at h; exact absurd h hne
theorem BfI.hdm {T : List Tr} {f : Nat} {s : BfS} (h : BfI T f s) : f / 3 ∈ s.o := List.mem_of_getElem? h.hd
theorem BfI.len {T : List Tr} {f : Nat} {s : BfS} (h : BfI T f s) : s.o.length ≤ T.length := by
  have hsub : ∀ x ∈ s.o, x ∈ List.range T.length := fun x hx => List.mem_range.2 (h.lt x hx)
  have := sub_len18 _ _ h.nd hsub
  simpa using this
theorem nodup_get18 {l : List Nat} (h : l.Nodup) {i j : Nat} (hi : i < l.length) (hj : j < l.length) (e : l[i] = l[j]) : i = j := by
  have hp := List.pairwise_iff_getElem.1 (List.nodup_iff_pairwise_ne.1 h)
  rcases Nat.lt_trichotomy i j with q | q | q
  · exact absurd e (hp i j hi hj q)
  · exact q
  · exact absurd e.symm (hp j i hj hi q)
/-- One edge is gone over. -/
inductive OverS (T : List Tr) (s : BfS) (c : Nat) : BfS → Prop
  | no (h : ∀ o : Nat, opp T (c : Int) = o → o / 3 ∈ s.o) : OverS T s c s
  | yes (o : Nat) (h : opp T (c : Int) = o) (hn : o / 3 ∉ s.o) : OverS T s c ⟨s.o ++ [o / 3], fun t => if t = o / 3 then (o : Int) else s.l t, fun t => if t = o / 3 then s.d (c / 3) + 1 else s.d t⟩
theorem over_any (T : List Tr) (s : BfS) (c : Nat) : OverS T s c (overB T s c) := by
  unfold overB
  by_cases h : 0 ≤ opp T (c : Int)
  · obtain ⟨o, ho⟩ := Int.eq_ofNat_of_zero_le h
    by_cases hm : o / 3 ∈ s.o
    · rw [if_neg (by rw [ho]; simp [hm])]
      refine .no fun o' ho' => ?_
      obtain rfl : o' = o := by omega
      exact hm
    · rw [if_pos (by rw [ho]; simp [hm]), ho]
      simpa using OverS.yes (T := T) (s := s) (c := c) o ho hm
  · rw [if_neg (fun e => h e.1)]
    exact .no fun o ho => by omega
theorem BfI.over {N : Int} {T : List Tr} (hs : Surf N T) {f : Nat} {s : BfS} (h : BfI T f s) {c : Nat} (hc : c < 3 * T.length) (hcm : c / 3 ∈ s.o) : BfI T f (overB T s c) := by
  obtain ⟨s', hs', hov⟩ : ∃ s', overB T s c = s' ∧ OverS T s c s' := ⟨_, rfl, over_any T s c⟩
  rw [hs']
  cases hov with
  | no _ => exact h
  | yes o ho hn =>
    obtain ⟨o', ho', h1, h2, -, -⟩ := hs.opp_opp hc (by omega)
    obtain rfl : o' = o := by omega
    have hfo : f / 3 ≠ o' / 3 := fun e => hn (e ▸ h.hdm)
    refine ⟨?_, ?_, ?_, ?_, ?_, ?_, ?_, ?_⟩
    · simp only [List.nodup_append, h.nd, List.nodup_cons, List.not_mem_nil, not_false_eq_true, List.nodup_nil, and_self, List.mem_cons, or_false, true_and]
      intro a ha b hb e
      subst hb
      exact hn (e ▸ ha)
    · intro t ht
      rcases List.mem_append.1 ht with ht | ht
      · exact h.lt t ht
      · simp at ht; omega
    · show (s.o ++ [o' / 3])[0]? = _
      rw [List.getElem?_append_left]
      · exact h.hd
      · exact List.length_pos_of_mem h.hdm
    · intro t ht
      simp only [List.mem_append, List.mem_cons, List.not_mem_nil, or_false, not_or] at ht
      show (if t = o' / 3 then (o' : Int) else s.l t) = -1
      rw [if_neg ht.2]
      exact h.no t ht.1
    · show (if f / 3 = o' / 3 then (o' : Int) else s.l (f / 3)) = -1
      rw [if_neg hfo]
      exact h.rt
    · show (if f / 3 = o' / 3 then s.d (c / 3) + 1 else s.d (f / 3)) = 0
      rw [if_neg hfo]
      exact h.d0
    · intro t ht
      show (if t = o' / 3 then s.d (c / 3) + 1 else s.d t) < (s.o ++ [o' / 3]).length
      rw [List.length_append, List.length_singleton]
      by_cases hto : t = o' / 3
      · rw [if_pos hto]
        have := h.dl _ hcm
        omega
      · rw [if_neg hto]
        rcases List.mem_append.1 ht with ht | ht
        · have := h.dl t ht
          omega
        · simp at ht; exact absurd ht hto
    · intro t ht hne
      rcases List.mem_append.1 ht with ht | ht
      · have hto : t ≠ o' / 3 := fun e => hn (e ▸ ht)
        obtain ⟨q, e1, e2, e3, e4, e5, e6⟩ := h.lk t ht hne
        refine ⟨q, ?_, e2, e3, e4, List.mem_append_left _ e5, ?_⟩
        · show (if t = o' / 3 then (o' : Int) else s.l t) = q
          rw [if_neg hto]; exact e1
        · show (if t = o' / 3 then s.d (c / 3) + 1 else s.d t) = (if (opp T (q : Int)).toNat / 3 = o' / 3 then s.d (c / 3) + 1 else s.d ((opp T (q : Int)).toNat / 3)) + 1
          rw [if_neg hto, if_neg (fun (e : (opp T (q : Int)).toNat / 3 = o' / 3) => hn (e ▸ e5))]
          exact e6
      · simp at ht
        have hco : c / 3 ≠ o' / 3 := fun e => hn (e ▸ hcm)
        refine ⟨o', ?_, h1, ht.symm, by omega, ?_, ?_⟩
        · show (if t = o' / 3 then (o' : Int) else s.l t) = o'
          rw [if_pos ht]
        · rw [h2]; exact List.mem_append_left _ (by simpa using hcm)
        · show (if t = o' / 3 then s.d (c / 3) + 1 else s.d t) = (if (opp T (o' : Int)).toNat / 3 = o' / 3 then s.d (c / 3) + 1 else s.d ((opp T (o' : Int)).toNat / 3)) + 1
          rw [h2]
          simp [hco, ht]
/-- The order grows at its end; what stood there stays as it was. -/
structure BfX (s s' : BfS) : Prop where
  o : s.o <+: s'.o
  l : ∀ t, t ∈ s.o → s'.l t = s.l t
  d : ∀ t, t ∈ s.o → s'.d t = s.d t
theorem BfX.refl (s : BfS) : BfX s s := ⟨List.prefix_refl _, fun _ _ => rfl, fun _ _ => rfl⟩
theorem BfX.trans {a b c : BfS} (h : BfX a b) (k : BfX b c) : BfX a c :=
  ⟨h.o.trans k.o, fun t ht => (k.l t (h.o.subset ht)).trans (h.l t ht), fun t ht => (k.d t (h.o.subset ht)).trans (h.d t ht)⟩
theorem over_ext (T : List Tr) (s : BfS) (c : Nat) : BfX s (overB T s c) := by
  obtain ⟨s', hs', hov⟩ : ∃ s', overB T s c = s' ∧ OverS T s c s' := ⟨_, rfl, over_any T s c⟩
  rw [hs']
  cases hov with
  | no _ => exact BfX.refl s
  | yes o ho hn =>
    refine ⟨List.prefix_append _ _, fun t ht => ?_, fun t ht => ?_⟩
    · exact if_neg fun (e : t = o / 3) => hn (e ▸ ht)
    · exact if_neg fun (e : t = o / 3) => hn (e ▸ ht)
theorem over_done (T : List Tr) (s : BfS) (c : Nat) {o : Nat} (h : opp T (c : Int) = o) : o / 3 ∈ (overB T s c).o := by
  obtain ⟨s', hs', hov⟩ : ∃ s', overB T s c = s' ∧ OverS T s c s' := ⟨_, rfl, over_any T s c⟩
  rw [hs']
  cases hov with
  | no hh => exact hh o h
  | yes o' ho hn =>
    obtain rfl : o' = o := by omega
    simp
theorem BfX.getD {s s' : BfS} (h : BfX s s') {i : Nat} (hi : i < s.o.length) : s'.o.getD i 0 = s.o.getD i 0 := by
  obtain ⟨t, ht⟩ := h.o
  rw [← ht, List.getD_eq_getElem?_getD, List.getD_eq_getElem?_getD, List.getElem?_append_left hi]
/-- Several edges. -/
theorem overs_ext (T : List Tr) : ∀ (cs : List Nat) (s : BfS), BfX s (cs.foldl (overB T) s)
  | [], s => BfX.refl s
  | c :: cs, s => (over_ext T s c).trans (overs_ext T cs _)
theorem overs_inv {N : Int} {T : List Tr} (hs : Surf N T) {f : Nat} : ∀ (cs : List Nat) {s : BfS}, BfI T f s → (∀ c, c ∈ cs → c < 3 * T.length ∧ c / 3 ∈ s.o) → BfI T f (cs.foldl (overB T) s)
  | [], s, h, _ => h
  | c :: cs, s, h, hc => overs_inv hs cs (h.over hs (hc c (by simp)).1 (hc c (by simp)).2) fun x hx => ⟨(hc x (by simp [hx])).1, (over_ext T s c).o.subset (hc x (by simp [hx])).2⟩
theorem overs_done (T : List Tr) : ∀ (cs : List Nat) (s : BfS) {c : Nat}, c ∈ cs → ∀ {o : Nat}, opp T (c : Int) = o → o / 3 ∈ (cs.foldl (overB T) s).o
  | c' :: cs, s, c, hc, o, ho => by
    rcases List.mem_cons.1 hc with rfl | hc
    · exact (overs_ext T cs _).o.subset (over_done T s c ho)
    · exact overs_done T cs _ hc ho
/-- The sides of a triangle in its turn. -/
theorem BfI.sides {T : List Tr} {f : Nat} {s : BfS} (h : BfI T f s) (hf : f < 3 * T.length) {i : Nat} (hi : i < s.o.length) : ∀ c, c ∈ sidesB f i s → c < 3 * T.length ∧ c / 3 = s.o.getD i 0 := by
  intro c hc
  unfold sidesB at hc
  have h0 := h.hd
  by_cases hi0 : i = 0
  · subst hi0
    rw [if_pos rfl] at hc
    have hg : s.o.getD 0 0 = f / 3 := by rw [List.getD_eq_getElem?_getD, h0]; rfl
    rw [hg]
    simp only [List.mem_cons, List.not_mem_nil, or_false] at hc
    rcases hc with rfl | rfl | rfl
    · exact ⟨hf, rfl⟩
    · exact ⟨nxn_lt hf, nxn_div _⟩
    · exact ⟨pvn_lt hf, pvn_div _⟩
  · rw [if_neg hi0] at hc
    have hgi : s.o.getD i 0 = s.o[i] := by rw [List.getD_eq_getElem?_getD, List.getElem?_eq_getElem hi]; rfl
    have hne : s.o[i] ≠ f / 3 := by
      intro e
      have h0' : 0 < s.o.length := by omega
      rw [List.getElem?_eq_getElem h0'] at h0
      have := nodup_get18 h.nd hi h0' (by rw [e]; exact (Option.some.inj h0).symm)
      exact hi0 this
    obtain ⟨q, e1, e2, e3, -⟩ := h.lk _ (List.getElem_mem hi) hne
    rw [hgi, e1] at hc
    rw [hgi]
    simp only [Int.toNat_natCast, List.mem_cons, List.not_mem_nil, or_false] at hc
    rcases hc with rfl | rfl
    · exact ⟨nxn_lt e2, by rw [nxn_div]; exact e3⟩
    · exact ⟨pvn_lt e2, by rw [pvn_div]; exact e3⟩
theorem getD_mem18 {l : List Nat} {i : Nat} (hi : i < l.length) : l.getD i 0 ∈ l := by
  rw [List.getD_eq_getElem?_getD, List.getElem?_eq_getElem hi]
  exact List.getElem_mem hi
theorem BfI.step {N : Int} {T : List Tr} (hs : Surf N T) {f : Nat} (hf : f < 3 * T.length) {s : BfS} (h : BfI T f s) (i : Nat) : BfI T f (stepB T f i s) := by
  unfold stepB
  split
  · rename_i hi
    refine overs_inv hs _ h fun c hc => ?_
    obtain ⟨h1, h2⟩ := h.sides hf hi c hc
    exact ⟨h1, h2 ▸ getD_mem18 hi⟩
  · exact h
theorem step_ext (T : List Tr) (f i : Nat) (s : BfS) : BfX s (stepB T f i s) := by
  unfold stepB
  split
  · exact overs_ext T _ s
  · exact BfX.refl s
theorem bfs_inv {N : Int} {T : List Tr} (hs : Surf N T) {f : Nat} (hf : f < 3 * T.length) : ∀ k, BfI T f (bfsB T f k)
  | 0 => BfI.init hf
  | k + 1 => (bfs_inv hs hf k).step hs hf k
theorem bfs_ext (T : List Tr) (f : Nat) {i j : Nat} (h : i ≤ j) : BfX (bfsB T f i) (bfsB T f j) := by
  induction j with
  | zero => obtain rfl : i = 0 := by omega
            exact BfX.refl _
  | succ j ih =>
    by_cases e : i = j + 1
    · subst e; exact BfX.refl _
    · exact (ih (by omega)).trans (step_ext T f j _)
theorem bfs_stop (T : List Tr) (f : Nat) {i : Nat} (h : (bfsB T f i).o.length ≤ i) : ∀ k, bfsB T f (i + k) = bfsB T f i
  | 0 => rfl
  | k + 1 => by
    have ih := bfs_stop T f h k
    show stepB T f (i + k) (bfsB T f (i + k)) = _
    rw [ih]
    unfold stepB
    rw [if_neg (by omega)]
/-- Where the walk ends it is all. -/
theorem bfs_end {N : Int} {T : List Tr} (hs : Surf N T) {f : Nat} (hf : f < 3 * T.length) {i : Nat} (h : (bfsB T f i).o.length ≤ i) : bfs T f = bfsB T f i := by
  unfold bfs
  by_cases hi : i ≤ T.length
  · have := bfs_stop T f h (T.length - i)
    rw [show i + (T.length - i) = T.length by omega] at this
    exact this
  · have h1 := bfs_stop T f (i := T.length) (bfs_inv hs hf T.length).len (i - T.length)
    rw [show T.length + (i - T.length) = i by omega] at h1
    exact h1.symm
/-- Where a triangle has had its turn, all beside it is reached. -/
theorem bfs_done {N : Int} {T : List Tr} (hs : Surf N T) {f : Nat} (hf : f < 3 * T.length) {i : Nat} (hi : i < (bfsB T f i).o.length) {c o : Nat} (hc : c < 3 * T.length) (hci : c / 3 = (bfsB T f i).o.getD i 0) (ho : opp T (c : Int) = o) : o / 3 ∈ (bfsB T f (i + 1)).o := by
  show o / 3 ∈ (stepB T f i (bfsB T f i)).o
  have hI := bfs_inv hs hf i
  generalize bfsB T f i = s at *
  unfold stepB
  rw [if_pos hi]
  have h0 := hI.hd
  by_cases hi0 : i = 0
  · subst hi0
    have hg : s.o.getD 0 0 = f / 3 := by rw [List.getD_eq_getElem?_getD, h0]; rfl
    rw [hg] at hci
    refine overs_done T _ s (c := c) ?_ ho
    unfold sidesB
    rw [if_pos rfl]
    unfold nxn pvn
    simp only [List.mem_cons, List.not_mem_nil, or_false]
    omega
  · have hgi : s.o.getD i 0 = s.o[i] := by rw [List.getD_eq_getElem?_getD, List.getElem?_eq_getElem hi]; rfl
    have hne : s.o[i] ≠ f / 3 := by
      intro e
      have h0' : 0 < s.o.length := by omega
      rw [List.getElem?_eq_getElem h0'] at h0
      have := nodup_get18 hI.nd hi h0' (by rw [e]; exact (Option.some.inj h0).symm)
      exact hi0 this
    obtain ⟨q, e1, e2, e3, e4, e5, e6⟩ := hI.lk _ (List.getElem_mem hi) hne
    rw [hgi] at hci
    by_cases hcq : c = q
    · subst hcq
      exact (overs_ext T _ s).o.subset (by rw [ho] at e5; simpa using e5)
    · refine overs_done T _ s (c := c) ?_ ho
      unfold sidesB
      rw [if_neg hi0, hgi, e1]
      unfold nxn pvn
      simp only [Int.toNat_natCast, List.mem_cons, List.not_mem_nil, or_false]
      omega
/-- What is reached is closed: all beside a reached triangle is reached. -/
theorem bfs_closed {N : Int} {T : List Tr} (hs : Surf N T) {f : Nat} (hf : f < 3 * T.length) {c o : Nat} (hc : c < 3 * T.length) (hco : c / 3 ∈ (bfs T f).o) (ho : opp T (c : Int) = o) : o / 3 ∈ (bfs T f).o := by
  obtain ⟨i, hi, he⟩ := List.mem_iff_getElem.1 hco
  have hl := (bfs_inv hs hf T.length).len
  -- the turn of i is before the end
  have hiF : i < T.length := by unfold bfs at hi; omega
  by_cases hii : i < (bfsB T f i).o.length
  · have hx := bfs_ext T f (show i ≤ T.length by omega)
    have hg := hx.getD hii
    refine (bfs_ext T f (show i + 1 ≤ T.length by omega)).o.subset (bfs_done hs hf hii hc ?_ ho)
    rw [← hg, List.getD_eq_getElem?_getD]
    unfold bfs at he hi
    rw [List.getElem?_eq_getElem hi, he]
    rfl
  · have := bfs_end hs hf (i := i) (by omega)
    rw [this] at hi
    exact absurd hi hii
/-- The queue: who is reached later is not nearer, and no one is much farther. -/
structure QInv18 (s : BfS) (D : Nat) : Prop where
  pw : s.o.Pairwise fun a b => s.d a ≤ s.d b
  mx : ∀ t, t ∈ s.o → s.d t ≤ D + 1
theorem QInv18.over (T : List Tr) {s : BfS} {D c : Nat} (h : QInv18 s D) (hcm : c / 3 ∈ s.o) (hd : s.d (c / 3) = D) : QInv18 (overB T s c) D := by
  obtain ⟨s', hs', hov⟩ : ∃ s', overB T s c = s' ∧ OverS T s c s' := ⟨_, rfl, over_any T s c⟩
  rw [hs']
  cases hov with
  | no _ => exact h
  | yes o ho hn =>
    have hold : ∀ t, t ∈ s.o → (if t = o / 3 then s.d (c / 3) + 1 else s.d t) = s.d t := fun t ht => if_neg fun (e : t = o / 3) => hn (e ▸ ht)
    refine ⟨?_, ?_⟩
    · show (s.o ++ [o / 3]).Pairwise fun a b => (if a = o / 3 then s.d (c / 3) + 1 else s.d a) ≤ (if b = o / 3 then s.d (c / 3) + 1 else s.d b)
      refine List.pairwise_append.2 ⟨?_, List.pairwise_singleton _ _, ?_⟩
      · exact List.Pairwise.imp_of_mem (fun {a b} ha hb hab => by rw [hold a ha, hold b hb]; exact hab) h.pw
      · intro a ha b hb
        simp at hb
        rw [hold a ha, if_pos hb, hd]
        exact h.mx a ha
    · intro t ht
      show (if t = o / 3 then s.d (c / 3) + 1 else s.d t) ≤ D + 1
      rcases List.mem_append.1 ht with ht | ht
      · rw [hold t ht]; exact h.mx t ht
      · simp at ht
        rw [if_pos ht, hd]
        exact Nat.le_refl _
theorem QInv18.overs (T : List Tr) {D : Nat} : ∀ (cs : List Nat) {s : BfS}, QInv18 s D → (∀ c, c ∈ cs → c / 3 ∈ s.o ∧ s.d (c / 3) = D) → QInv18 (cs.foldl (overB T) s) D
  | [], _, h, _ => h
  | c :: cs, s, h, hc => QInv18.overs T cs (h.over T (hc c (by simp)).1 (hc c (by simp)).2) fun x hx => by
    obtain ⟨h1, h2⟩ := hc x (by simp [hx])
    exact ⟨(over_ext T s c).o.subset h1, by rw [(over_ext T s c).d _ h1]; exact h2⟩
theorem bfs_queue {N : Int} {T : List Tr} (hs : Surf N T) {f : Nat} (hf : f < 3 * T.length) : ∀ i, (bfsB T f i).o.Pairwise (fun a b => (bfsB T f i).d a ≤ (bfsB T f i).d b) ∧ (i < (bfsB T f i).o.length → QInv18 (bfsB T f i) ((bfsB T f i).d ((bfsB T f i).o.getD i 0)) ∧ QInv18 (bfsB T f (i + 1)) ((bfsB T f i).d ((bfsB T f i).o.getD i 0)))
  | 0 => by
    have h0 : QInv18 (bfsB T f 0) ((bfsB T f 0).d ((bfsB T f 0).o.getD 0 0)) := ⟨by simp [bfsB, initB], by intro t ht; simp [bfsB, initB]⟩
    refine ⟨h0.pw, fun hi => ⟨h0, ?_⟩⟩
    exact bfs_qstep hs hf hi h0
  | i + 1 => by
    obtain ⟨h1, h2⟩ := bfs_queue hs hf i
    by_cases hi : i < (bfsB T f i).o.length
    · obtain ⟨h3, h4⟩ := h2 hi
      refine ⟨h4.pw, fun hi' => ?_⟩
      have hx : BfX (bfsB T f i) (bfsB T f (i + 1)) := bfs_ext T f (Nat.le_succ i)
      have hg := hx.getD hi
      have hq : QInv18 (bfsB T f (i + 1)) ((bfsB T f (i + 1)).d ((bfsB T f (i + 1)).o.getD (i + 1) 0)) := by
        refine ⟨h4.pw, fun t ht => ?_⟩
        have ha := h4.mx t ht
        have hb : (bfsB T f (i + 1)).d ((bfsB T f (i + 1)).o.getD i 0) ≤ (bfsB T f (i + 1)).d ((bfsB T f (i + 1)).o.getD (i + 1) 0) := by
          have := List.pairwise_iff_getElem.1 h4.pw i (i + 1) (by omega) hi' (by omega)
          simpa [List.getD_eq_getElem?_getD, List.getElem?_eq_getElem hi', List.getElem?_eq_getElem (show i < (bfsB T f (i + 1)).o.length by omega)] using this
        rw [hg, hx.d _ (getD_mem18 hi)] at hb
        omega
      exact ⟨hq, bfs_qstep hs hf hi' hq⟩
    · have : bfsB T f (i + 1) = bfsB T f i := bfs_stop T f (by omega) 1
      rw [this]
      exact ⟨h1, fun h => by omega⟩
where
  bfs_qstep {N : Int} {T : List Tr} (hs : Surf N T) {f : Nat} (hf : f < 3 * T.length) {i : Nat} (hi : i < (bfsB T f i).o.length) (h : QInv18 (bfsB T f i) ((bfsB T f i).d ((bfsB T f i).o.getD i 0))) : QInv18 (bfsB T f (i + 1)) ((bfsB T f i).d ((bfsB T f i).o.getD i 0)) := by
    show QInv18 (stepB T f i (bfsB T f i)) _
    unfold stepB
    rw [if_pos hi]
    refine QInv18.overs T _ h fun c hc => ?_
    obtain ⟨h1, h2⟩ := (bfs_inv hs hf i).sides hf hi c hc
    exact ⟨h2 ▸ getD_mem18 hi, by rw [h2]⟩
theorem bfs_turn {N : Int} {T : List Tr} (hs : Surf N T) {f : Nat} (hf : f < 3 * T.length) {t : Nat} (ht : t ∈ (bfs T f).o) : ∃ i, i < T.length ∧ i < (bfsB T f i).o.length ∧ (bfsB T f i).o.getD i 0 = t := by
  obtain ⟨i, hi, he⟩ := List.mem_iff_getElem.1 ht
  have hl := (bfs_inv hs hf T.length).len
  have hiF : i < T.length := by unfold bfs at hi; omega
  have hii : i < (bfsB T f i).o.length := by
    apply Classical.byContradiction
    intro hii
    have := bfs_end hs hf (i := i) (by omega)
    rw [this] at hi
    exact hii hi
  refine ⟨i, hiF, hii, ?_⟩
  have hx := bfs_ext T f (show i ≤ T.length by omega)
  rw [← hx.getD hii, List.getD_eq_getElem?_getD]
  unfold bfs at he hi
  rw [List.getElem?_eq_getElem hi, he]
  rfl
/-- Neighbours are not much farther. -/
theorem bfs_lip {N : Int} {T : List Tr} (hs : Surf N T) {f : Nat} (hf : f < 3 * T.length) {c o : Nat} (hc : c < 3 * T.length) (hco : c / 3 ∈ (bfs T f).o) (ho : opp T (c : Int) = o) : (bfs T f).d (o / 3) ≤ (bfs T f).d (c / 3) + 1 := by
  obtain ⟨i, hiF, hii, he⟩ := bfs_turn hs hf hco
  have hd := bfs_done hs hf hii hc he.symm ho
  have hq := ((bfs_queue hs hf i).2 hii).2
  have h1 := hq.mx _ hd
  have hx := bfs_ext T f (show i + 1 ≤ T.length by omega)
  have hx0 := bfs_ext T f (show i ≤ T.length by omega)
  have e1 : (bfs T f).d (o / 3) = (bfsB T f (i + 1)).d (o / 3) := hx.d _ hd
  have e2 : (bfs T f).d (c / 3) = (bfsB T f i).d (c / 3) := hx0.d _ (by rw [← he]; exact getD_mem18 hii)
  rw [e1, e2, ← he]
  exact h1
end Go.Proofs.YtkjamheoihlekaaGreat

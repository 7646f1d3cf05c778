/- gypsumref18.Paths: contract. -/
import Derived.Test.YtkjamheoihlekaaGreatRefFollow18
namespace Go.Proofs.YtkjamheoihlekaaGreat
set_option linter.unusedVariables false
set_option linter.unusedSimpArgs false
open Go.RowKit
/-- The step from the k-th end of the i-th edge. -/
def dk (E : List (Int × Int)) (i k : Nat) : Int × Int := if k = 0 then E! E i else revD (E! E i)
/-- Steps that have been looked at. -/
def OD (E : List (Int × Int)) (i k : Nat) (e : Int × Int) : Prop := ∃ i' k', i' < E.length ∧ k' < 2 ∧ (i' < i ∨ i' = i ∧ k' < k) ∧ e = dk E i' k'
theorem dk_flat {E : List (Int × Int)} (h : RightE E) {i : Nat} (hi : i < E.length) (k : Nat) : flatE (dk E i k).1 (dk E i k).2 = E! E i := by
  have hlt := h.lt _ (E!_mem hi)
  unfold dk
  split
  · exact flatE_lt hlt
  · show flatE (E! E i).2 (E! E i).1 = _
    rw [flatE_comm]
    exact flatE_lt hlt
theorem dk_isD {E : List (Int × Int)} (h : RightE E) {i : Nat} (hi : i < E.length) (k : Nat) : IsD E (dk E i k) := by
  unfold IsD
  rw [nbE_mem h, dk_flat h hi]
  exact E!_mem hi
theorem od_all {E : List (Int × Int)} (h : RightE E) {d : Int × Int} (hd : IsD E d) : OD E E.length 0 d := by
  have hm := (nbE_mem h).1 hd
  obtain ⟨i, hi, he⟩ := List.mem_iff_getElem.1 hm
  have he' : E! E i = flatE d.1 d.2 := by rw [← he]; simp [E!, hi]
  have hf : flatE d.1 d.2 = flatE (E! E i).1 (E! E i).2 := by rw [flatE_lt (h.lt _ (E!_mem hi)), he']
  rcases flat_dart hf with q | q
  · exact ⟨i, 0, hi, by omega, .inl hi, by rw [q]; rfl⟩
  · exact ⟨i, 1, hi, by omega, .inl hi, by rw [q]; rfl⟩
/-- The open ways that have been found, and what is on them. -/
structure OP18 (E : List (Int × Int)) (i k : Nat) (O : List (List Int)) (A : List Int) : Prop where
  r : RSt18 E (fun e => OD E i k e ∧ degE E e.1 ≠ 2) O
  is : ∀ x, x ∈ A → ∃ e L, Path18 E e L ∧ degE E e.1 ≠ 2 ∧ x ∈ pathL E e L
  has : ∀ e L, OD E i k e → degE E e.1 ≠ 2 → Path18 E e L → ∀ x, x ∈ pathL E e L → x ∈ A
  la : A.length ≤ (2 * i + k) * 201
  lo : O.length ≤ 2 * i + k
theorem OP18.init (E : List (Int × Int)) : OP18 E 0 0 [] [] := by
  have hno : ∀ e, ¬ OD E 0 0 e := by
    rintro e ⟨i', k', -, -, h, -⟩
    omega
  exact ⟨(RSt18.init E).more fun d K hd _ => (hno d hd.1).elim, fun x hx => (by cases hx), fun e L ho => (hno e ho).elim, by simp, by simp⟩
theorem od_succ {E : List (Int × Int)} {i k : Nat} {e : Int × Int} (h : OD E i (k + 1) e) : OD E i k e ∨ e = dk E i k := by
  obtain ⟨i', k', h1, h2, h3, rfl⟩ := h
  by_cases q : i' = i ∧ k' = k
  · rw [q.1, q.2]; exact .inr rfl
  · exact .inl ⟨i', k', h1, h2, by omega, rfl⟩
theorem OP18.skip {E : List (Int × Int)} {i k : Nat} {O : List (List Int)} {A : List Int} (s : OP18 E i k O A) (h2 : degE E (dk E i k).1 = 2) : OP18 E i (k + 1) O A where
  r := s.r.more fun d K hd _ => by
    rcases od_succ hd.1 with q | rfl
    · exact ⟨q, hd.2⟩
    · exact absurd h2 hd.2
  is := s.is
  has e L ho hn p := by
    rcases od_succ ho with q | rfl
    · exact s.has e L q hn p
    · exact absurd h2 hn
  la := by have := s.la; omega
  lo := by have := s.lo; omega
theorem OP18.add {E : List (Int × Int)} (hR : RightE E) (hl : E.length ≤ 100) {i k K : Nat} {O R : List (List Int)} {A : List Int} (s : OP18 E i k O A) (p : Path18 E (dk E i k) K) (h2 : degE E (dk E i k).1 ≠ 2) (hi : InsG ltR O (canonR (pathL E (dk E i k) K)) R) : OP18 E i (k + 1) R (A ++ pathL E (dk E i k) K) where
  r := by
    obtain ⟨q1, q2⟩ := hi.rows s.r.st
    refine (s.r.put p q1 q2).more fun d L hd _ => ?_
    rcases od_succ hd.1 with q | q
    · exact .inl ⟨q, hd.2⟩
    · exact .inr q
  is x hx := by
    rcases List.mem_append.1 hx with q | q
    · exact s.is x q
    · exact ⟨_, K, p, h2, q⟩
  has e L ho hn pe x hx := by
    rcases od_succ ho with q | rfl
    · exact List.mem_append.2 (.inl (s.has e L q hn pe x hx))
    · have := trail_one pe.w.tr pe.w.stop p.w.tr p.w.stop
      subst this
      exact List.mem_append.2 (.inr hx)
  la := by
    have := s.la
    have := p.w.tr.bound hR
    rw [List.length_append, pathL_len]
    omega
  lo := by
    have := s.lo
    have := hi.len
    omega
theorem OP18.next {E : List (Int × Int)} {i : Nat} {O : List (List Int)} {A : List Int} (s : OP18 E i 2 O A) : OP18 E (i + 1) 0 O A where
  r := s.r.more fun d K hd _ => by
    obtain ⟨⟨i', k', h1, h2, h3, rfl⟩, hn⟩ := hd
    exact ⟨⟨i', k', h1, h2, by omega, rfl⟩, hn⟩
  is := s.is
  has e L ho hn p := by
    obtain ⟨i', k', h1, h2, h3, rfl⟩ := ho
    exact s.has _ L ⟨i', k', h1, h2, by omega, rfl⟩ hn p
  la := by have := s.la; omega
  lo := by have := s.lo; omega
/-- Steps that have been looked at, when the rounds are sought. -/
def RD (E : List (Int × Int)) (i : Nat) (e : Int × Int) : Prop := (IsD E e ∧ degE E e.1 ≠ 2) ∨ (degE E e.1 = 2 ∧ ∃ i', i' < i ∧ e = E! E i')
theorem OP18.rounds {E : List (Int × Int)} (h : RightE E) {O : List (List Int)} {A : List Int} (s : OP18 E E.length 0 O A) : RSt18 E (RD E 0) O :=
  s.r.more fun d K hd _ => by
    rcases hd with ⟨h1, h2⟩ | ⟨-, i', h1, -⟩
    · exact ⟨od_all h h1, h2⟩
    · omega
theorem rd_succ {E : List (Int × Int)} {i : Nat} {e : Int × Int} (h : RD E (i + 1) e) : RD E i e ∨ (degE E e.1 = 2 ∧ e = E! E i) := by
  rcases h with h | ⟨h1, i', h2, h3⟩
  · exact .inl (.inl h)
  · by_cases q : i' = i
    · rw [q] at h3; exact .inr ⟨h1, h3⟩
    · exact .inl (.inr ⟨h1, i', by omega, h3⟩)
theorem RSt18.skipR {E : List (Int × Int)} {i : Nat} {O : List (List Int)} (s : RSt18 E (RD E i) O) (hno : degE E (E! E i).1 = 2 → ∀ K, ¬ Path18 E (E! E i) K) : RSt18 E (RD E (i + 1)) O :=
  s.more fun d K hd p => by
    rcases rd_succ hd with q | ⟨h2, rfl⟩
    · exact q
    · exact absurd p (hno h2 K)
theorem RSt18.addR {E : List (Int × Int)} {i K : Nat} {O R : List (List Int)} (s : RSt18 E (RD E i) O) (p : Path18 E (E! E i) K) (hi : InsG ltR O (canonR (pathL E (E! E i) K)) R) : RSt18 E (RD E (i + 1)) R := by
  obtain ⟨q1, q2⟩ := hi.rows s.st
  refine (s.put p q1 q2).more fun d L hd _ => ?_
  rcases rd_succ hd with q | ⟨-, q⟩
  · exact .inl q
  · exact .inr q
theorem pathL_mem {E : List (Int × Int)} {d : Int × Int} {K : Nat} {x : Int} : x ∈ pathL E d K ↔ ∃ j, j ≤ K ∧ (x = (dartE E d j).1 ∨ x = (dartE E d j).2) := by
  constructor
  · intro h
    rcases List.mem_cons.1 h with rfl | h
    · exact ⟨0, by omega, .inl rfl⟩
    · obtain ⟨j, hj, rfl⟩ := List.mem_map.1 h
      exact ⟨j, by simp at hj; omega, .inr rfl⟩
  · rintro ⟨j, hj, h⟩
    obtain ⟨q1, q2⟩ := pathL_get (E := E) (d := d) hj
    rcases h with rfl | rfl
    · exact List.mem_of_getElem? q1
    · exact List.mem_of_getElem? q2
/-- An edge of a vertex of another degree, or on an open way, begins no round. -/
theorem OP18.noRound {E : List (Int × Int)} (h : RightE E) {O : List (List Int)} {A : List Int} (s : OP18 E E.length 0 O A) {i : Nat} (hb : degE E (E! E i).2 ≠ 2 ∨ (E! E i).1 ∈ A ∨ (E! E i).2 ∈ A) (h2 : degE E (E! E i).1 = 2) : ∀ K, ¬ Path18 E (E! E i) K := by
  intro K p
  have hd := p.w.deg h2 0 (by omega)
  have hon : ∀ x, x ∈ A → (∃ j, j ≤ K ∧ x = (dartE E (E! E i) j).1) → False := by
    rintro x hx ⟨j, hj, rfl⟩
    obtain ⟨e, L, pe, he, hm⟩ := s.is _ hx
    obtain ⟨j', hj', hv⟩ := pathL_mem.1 hm
    exact open_round_v h pe he p.w h2 hj hj' hv
  rcases hb with q | q | q
  · exact q hd.2
  · exact hon _ q ⟨0, by omega, rfl⟩
  · by_cases hK : K = 0
    · subst hK
      rcases p.w.ends with ⟨r, -⟩ | ⟨-, r⟩
      · exact r h2
      · exact hon _ q ⟨0, by omega, r⟩
    · exact hon _ q ⟨1, by omega, rfl⟩
/-- An edge of vertices of degree 2 that are on no open way leads round. -/
theorem OP18.round {E : List (Int × Int)} (h : RightE E) {O : List (List Int)} {A : List Int} (s : OP18 E E.length 0 O A) {i : Nat} (hi : i < E.length) (h2 : degE E (E! E i).1 = 2) (h3 : (E! E i).1 ∉ A) : ∃ K, Whole18 E (E! E i) K := by
  have hd : IsD E (E! E i) := dk_isD h hi 0
  rcases round_or h hd h2 with q | ⟨e, L, j, p, he, hj, hr⟩
  · exact q
  · exact absurd (s.has e L (od_all h p.w.tr.isD) he p _ (pathL_mem.2 ⟨j, hj, .inr (by rw [hr]; rfl)⟩)) h3
/-- The least of a list. -/
theorem least_path {E : List (Int × Int)} {d : Int × Int} {K : Nat} (hw : Whole18 E d K) (h2 : degE E d.1 = 2) : (∀ x, x ∈ pathL E d K → d.1 ≤ x) ↔ Path18 E d K := by
  constructor
  · intro h
    exact ⟨hw, fun _ j hj => h _ (pathL_mem.2 ⟨j, hj, .inr rfl⟩)⟩
  · intro p x hx
    rcases List.mem_cons.1 hx with rfl | hx
    · exact Int.le_refl _
    · obtain ⟨j, hj, rfl⟩ := List.mem_map.1 hx
      exact p.l h2 j (by simp at hj; omega)
theorem path_only {E : List (Int × Int)} {d : Int × Int} {K L : Nat} (hw : Whole18 E d K) (p : Path18 E d L) : Path18 E d K := by
  have := trail_one p.w.tr p.w.stop hw.tr hw.stop
  subst this
  exact p
/-- What gypsumref18.Paths comes to. -/
def RPathsP (E : List (Int × Int)) (w : World) (e : Ending) (w' : World) : Prop :=
  ∃ ao cap R, e = .returned (.slice ao R.length cap) ∧ RowsAt w' ao R ∧ Below w.heap.size w w' ∧ (¬ RightE E → R = []) ∧ R.length ≤ 300 ∧ (RightE E → RSt18 E (RD E E.length) R)
theorem rpaths_same {E : List (Int × Int)} (h : RightE E) {O S R : List (List Int)} (hO : PFin18 E O) (hp : S.Perm O) (hS : S.Pairwise fun x y => cmpR y x < 0 → False) (hR : RSt18 E (RD E E.length) R) : S = R :=
  paths_one h hO hp hS hR (fun _ hd hn => .inl ⟨hd, hn⟩) fun d hd h2 => by
    obtain ⟨i, hi, he⟩ := List.mem_iff_getElem.1 hd
    exact .inr ⟨h2, i, hi, by rw [← he]; simp [E!, hi]⟩
theorem RowsV.at {gg : Nat} {w : World} {v : Value} {S : List (List Int)} (h : RowsV gg w v S) : ∃ ao cap, v = .slice ao S.length cap ∧ RowsAt w ao S := by
  obtain ⟨b, off, cap, ds, h1, hc, h3, h4, h5, h6, h7⟩ := h
  refine ⟨_, cap, h1, fun _ => ⟨b, off, rfl, h3.1, fun i hi => ?_⟩⟩
  have hd : i < ds.length := by omega
  obtain ⟨a, c, q1, q2, q3, q4⟩ := h7 i S[i] ds[i] (List.getElem?_eq_getElem hi) (List.getElem?_eq_getElem hd)
  have e : S.getD i [] = S[i] := by simp [hi]
  rw [e]
  exact ⟨a, c, by rw [← q1]; exact h5 i _ (List.getElem?_eq_getElem hd), q3⟩
theorem wpList_append_on {ops : Array Oper} {rest : List Oper} {o : Oper} {a : Act} {Q : Exit → Act → World → Prop} (w : World) (hgd : o.guard = none) (s x : Operand)
    (ho : o.op = .call { callee := .builtin .append, args := #[s, x], argTypes := #[28, 28] })
    (base g n oc : Nat) (xs : List Int) (hs : a.eval s = .slice (some ⟨g, 0, none⟩) n oc) (hown : w.ownsRow base 3 1 (.slice (some ⟨g, 0, none⟩) n oc) n (ic xs)) (ao : Option Addr) (m c : Nat) (hx : a.eval x = .slice ao m c) (P : List Int) (hm : m = P.length) (hP : IntsAt w ao P) (h0 : 0 < m) (hl : n + m ≤ 1000000) (hb : base ≤ w.heap.size)
    (h : ∀ g' c' w', w'.ownsRow base 3 1 (.slice (some ⟨g', 0, none⟩) (n + m) c') (n + m) (ic (xs ++ P)) → (g' = g ∨ w.heap.size ≤ g') → w.grownBy w' (some g) → wpList Tryz.prog ops Q rest (a.put o.dst (.slice (some ⟨g', 0, none⟩) (n + m) c')) w') : wpList Tryz.prog ops Q (o :: rest) a w := by
  obtain ⟨i0, hi0, hz0, hz1, hz2⟩ := info_parts info3
  refine wpList_plain hgd fun K hK => ?_
  obtain ⟨b', off, rfl, hlt, hc⟩ := hP (List.length_pos_iff.1 (by omega))
  obtain ⟨v', w', hr, h2, h3, -, h5⟩ := run_append_own_at (P := Tryz.prog) w base 28 o.type 3 i0 (.int .i64 0) 1 8 (by kernel_rfl) hi0 hz0 hz1 hz2 rfl (by decide) _ n _ hown ⟨b', off, none⟩ m c (ic P) (by simp [ic, hm]) (by
    intro j u hj
    obtain ⟨hj1, hj2⟩ := List.getElem?_eq_some_iff.1 hj
    have hjl : j < P.length := by simpa [ic] using hj1
    rw [Addr.add_lit, hc j hjl, ← hj2]
    simp [ic, I!, hjl]) (ic_one P) (by unfold maxLen; omega) (by omega) hb
  obtain ⟨g', c', rfl, -⟩ := owns_block h2 (by omega)
  unfold Oper.wp execOp
  simp only [ho, resolve, invoke, builtin, Sem.run_bind, Sem.run_pure, Result.andThen_ok, List.map_toArray, List.map_cons, List.map_nil, hs, hx, hr]
  refine hK _ _ (h g' c' w' (by rw [show ic (xs ++ P) = ic xs ++ ic P by simp [ic]]; exact h2) ?_ h3)
  rcases h5 with q | q
  · left; simpa [Value.ownBlock] using q
  · right
    have : g' = w.heap.size := by simpa [Value.ownBlock] using q
    omega
/-- The open ways, in memory. -/
def OpS (E : List (Int × Int)) (bl : Nat) (w ws : World) (i k : Nat) (ov onv : Value) : Prop :=
  ∃ (g oc m : Nat) (O : List (List Int)) (A : List Int), onv = .slice (some ⟨g, 0, none⟩) m oc ∧ m = A.length ∧ OP18 E i k O A ∧ RowsV g ws ov O ∧ ws.ownsRow (bl + 1) 3 1 (.slice (some ⟨g, 0, none⟩) m oc) m (ic A) ∧ g < ws.heap.size ∧ bl + 1 ≤ ws.heap.size ∧ Below w.heap.size w ws
theorem OpS.skip {E : List (Int × Int)} {bl : Nat} {w ws : World} {i k : Nat} {ov onv : Value} (h : OpS E bl w ws i k ov onv) (h2 : degE E (dk E i k).1 = 2) : OpS E bl w ws i (k + 1) ov onv := by
  obtain ⟨g, oc, m, O, A, h1, hm, s, r⟩ := h
  exact ⟨g, oc, m, O, A, h1, hm, s.skip h2, r⟩
theorem OpS.next {E : List (Int × Int)} {bl : Nat} {w ws : World} {i : Nat} {ov onv : Value} (h : OpS E bl w ws i 2 ov onv) : OpS E bl w ws (i + 1) 0 ov onv := by
  obtain ⟨g, oc, m, O, A, h1, hm, s, r⟩ := h
  exact ⟨g, oc, m, O, A, h1, hm, s.next, r⟩
/-- What the document has found of the rounds, in memory. -/
def RdS (E : List (Int × Int)) (g : Nat) (W ws : World) (i : Nat) (ov : Value) : Prop :=
  ∃ R, RSt18 E (RD E i) R ∧ RowsV g ws ov R ∧ R.length ≤ 2 * E.length + i ∧ Below W.heap.size W ws
def LeastI (x : Int) (P : List Int) (k : Nat) (v : Int) : Prop := v ≤ x ∧ (∀ j, j < k → v ≤ I! P j) ∧ (v = x ∨ ∃ j, j < k ∧ v = I! P j)
theorem LeastI.fin {x v : Int} {P : List Int} {k : Nat} (h : LeastI x P k v) (hk : k = P.length) : v = x ↔ ∀ y, y ∈ P → x ≤ y := by
  obtain ⟨h1, h2, h3⟩ := h
  constructor
  · rintro rfl y hy
    obtain ⟨j, hj, e⟩ := List.mem_iff_getElem.1 hy
    have := h2 j (by omega)
    simp only [I!, hj, List.getD_eq_getElem?_getD, List.getElem?_eq_getElem, Option.getD_some] at this
    rw [e] at this
    exact this
  · intro h
    rcases h3 with q | ⟨j, hj, q⟩
    · exact q
    · have hj' : j < P.length := by omega
      have : x ≤ I! P j := h _ (List.mem_of_getElem? (I!_get hj'))
      omega
set_option maxRecDepth 100000 in
set_option maxHeartbeats 8000000 in
theorem rpaths18 (E : List (Int × Int)) (ao : Option Addr) (cap : Nat) (w : World) (hE : EdgesAt w ao E) (hI : EI64 E) (hl : E.length ≤ 100) :
    Calls Tryz.prog 24 #[.slice ao E.length cap] w (RPathsP E w) := by
  obtain ⟨n, hn⟩ : ∃ n, n = E.length := ⟨_, rfl⟩
  have HE := Lib.hid hE
  have HI := Lib.hid hI
  have HN := Lib.hid hn
  rw [← hn] at hl ⊢
  clear hE hI hn
  go_enter Tryz.func24, Tryz.ntmps24
  go_wp2
  go_loopw [3] (fun iv ws => ∃ i : Nat, i ≤ n ∧ iv = .int .i64 i ∧ Hid (∀ j, j < i → (E! E j).1 < (E! E j).2) ∧ Hid (∀ j k, j < i → k < j → E! E k ≠ E! E j) ∧ Below w.heap.size w ws) (fun iv _ => n - (intOf iv).toNat)
  case atStart => exact ⟨0, by omega, rfl, Lib.hid fun j hj => by omega, Lib.hid fun j k hj => by omega, Below.refl _ _⟩
  case round =>
  obtain ⟨i, hi, rfl, HLT, HND, hb⟩ := hrel
  obtain ⟨X, rfl⟩ : ∃ X : World, X = wr := ⟨_, rfl⟩
  have HB := Lib.hid hb
  by_cases hlt : i < n
  case pos =>
    obtain ⟨eb, eoff, rfl, hes, hec⟩ := (HE.out.mono (Nat.le_refl _) hb) (by intro e; have := HN.out; rw [e] at this; simp at this; omega)
    obtain ⟨c1, c2⟩ := hec i (by rw [← HN.out]; exact hlt)
    obtain ⟨⟨x, y⟩, hx⟩ : ∃ e, e = E! E i := ⟨_, rfl⟩
    have HX := Lib.hid hx
    rw [← hx] at c1 c2
    have bi : (0 : Int) ≤ (i : Int) ∧ (i : Int) < (n : Int) := by omega
    have HQN := Lib.hid (show ∀ q, Below w.heap.size w (X.drewN q) from fun q => below_drewN hb q)
    have HMM := Lib.hid (E!_mem (E := E) (i := i) (by rw [← HN.out]; exact hlt))
    clear hec hx hb hes
    by_cases hxy : x < y
    case neg =>
      have g1 : decide (x ≥ y) = true := by simp; omega
      have HNR := Lib.hid (show ¬ RightE E from fun h => hxy (by have := h.lt _ HMM.out; rw [← HX.out] at this; exact this))
      clear hxy
      go_wp2
      go_quiet (fail)
      rename_i nq
      have HQ := Lib.hid (HQN.out nq)
      go_wp2
      exact bodyPost_ret (v := .slice none 0 0) (by simp [results, Tryz.results24, go_sem]) rfl ⟨none, 0, [], rfl, fun h => absurd rfl h, HQ.out, fun _ => rfl, by simp, fun h => absurd h HNR.out⟩
    case pos =>
    have g1 : decide (x ≥ y) = false := by simp; omega
    have HXY := Lib.hid hxy
    clear hxy
    go_wp2
    go_quiet (fail)
    rename_i nq
    obtain ⟨X1, hX1⟩ : ∃ V, V = X.drewN nq := ⟨_, rfl⟩
    have HB1 := HQN.out nq
    rw [← hX1] at HB1 ⊢
    have HB1 := Lib.hid HB1
    clear hX1 HQN c1 c2 HB
    go_wp2
    go_loopw [4] (fun kv ws => ∃ k : Nat, k ≤ i ∧ kv = .int .i64 k ∧ Hid (∀ j, j < k → E! E j ≠ E! E i) ∧ Below w.heap.size w ws) (fun kv _ => i - (intOf kv).toNat)
    case atStart => exact ⟨0, by omega, rfl, Lib.hid fun j hj => by omega, HB1.out⟩
    case round =>
    obtain ⟨k, hk, rfl, HNE, hb⟩ := hrel
    obtain ⟨X2, rfl⟩ : ∃ X : World, X = wr := ⟨_, rfl⟩
    have HB2 := Lib.hid hb
    by_cases hki : k < i
    case neg =>
      obtain rfl : i = k := by omega
      have HLT2 := Lib.hid (show ∀ j, j < i + 1 → (E! E j).1 < (E! E j).2 from fun j hj => by
        by_cases e : j = i
        · subst e; rw [← HX.out]; exact HXY.out
        · exact HLT.out j (by omega))
      have HND2 := Lib.hid (show ∀ j k, j < i + 1 → k < j → E! E k ≠ E! E j from fun j k hj hkj => by
        by_cases e : j = i
        · rw [e] at hkj ⊢; exact HNE.out k hkj
        · exact HND.out j k (by omega) hkj)
      have g2 : decide ((i : Int) < (i : Int)) = false := by simp
      clear hb hki
      go_wp2
      go_roundw
      case rel => exact ⟨i + 1, by omega, by go_num, HLT2, HND2, HB2.out⟩
      case measure => simp [intOf]; omega
    case pos =>
    obtain ⟨eb', eoff', ee, -, hec⟩ := (HE.out.mono (Nat.le_refl _) hb) (by intro e; have := HN.out; rw [e] at this; simp at this; omega)
    cases ee
    obtain ⟨c1, c2⟩ := hec i (by rw [← HN.out]; exact hlt)
    obtain ⟨c3, c4⟩ := hec k (by rw [← HN.out]; omega)
    rw [← HX.out] at c1 c2
    obtain ⟨⟨u, v⟩, hu⟩ : ∃ e, e = E! E k := ⟨_, rfl⟩
    rw [← hu] at c3 c4
    have bk : (0 : Int) ≤ (k : Int) ∧ (k : Int) < (n : Int) := by omega
    obtain ⟨t, ht⟩ : ∃ t, t = (u == x && v == y) := ⟨_, rfl⟩
    have hte : ∀ w, (Op.equalIn 10000 40 (.agg #[.int .i64 u, .int .i64 v]) (.agg #[.int .i64 x, .int .i64 y])).run Tryz.prog w = .ok t w := fun w => by rw [ht]; exact edge_equal u v x y w
    have HTT := Lib.hid (show t = true ↔ E! E k = E! E i from by
      rw [ht, ← hu, ← HX.out]
      simp [Prod.ext_iff])
    have HQN := Lib.hid (show ∀ q, Below w.heap.size w (X2.drewN q) from fun q => below_drewN hb q)
    have g2 : decide ((k : Int) < (i : Int)) = true := by simp; omega
    clear hec hu hb ht
    cases t
    case true =>
      have HNR := Lib.hid (show ¬ RightE E from fun h => by
        have e := HTT.out.1 rfl
        have hil : i < E.length := by rw [← HN.out]; exact hlt
        have hkl : k < E.length := by omega
        have h1 : E! E k = E[k] := by simp [E!, hkl]
        have h2 : E! E i = E[i] := by simp [E!, hil]
        rw [h1, h2] at e
        exact List.pairwise_iff_getElem.1 (List.nodup_iff_pairwise_ne.1 h.nd) k i hkl hil hki e)
      go_wp2
      go_quiet (fail)
      rename_i nq
      have HQ := Lib.hid (HQN.out nq)
      go_wp2
      exact bodyPost_ret (v := .slice none 0 0) (by simp [results, Tryz.results24, go_sem]) rfl ⟨none, 0, [], rfl, fun h => absurd rfl h, HQ.out, fun _ => rfl, by simp, fun h => absurd h HNR.out⟩
    case false =>
      have HNX := Lib.hid (show ∀ j, j < k + 1 → E! E j ≠ E! E i from fun j hj => by
        by_cases e : j = k
        · subst e; intro q; have := HTT.out.2 q; cases this
        · exact HNE.out j (by omega))
      go_wp2
      go_quiet (fail)
      rename_i nq
      have HQ := Lib.hid (HQN.out nq)
      go_wp2
      go_roundw
      case rel => exact ⟨k + 1, by omega, by go_num, HNX, HQ.out⟩
      case measure => simp [intOf]; omega
  case neg =>
  obtain rfl : n = i := by omega
  have HR := Lib.hid (show RightE E from ⟨fun e he => by
    obtain ⟨j, hj, q⟩ := List.mem_iff_getElem.1 he
    have := HLT.out j (by rw [HN.out]; exact hj)
    have e2 : E! E j = E[j] := by simp [E!, hj]
    rw [e2, q] at this
    exact this, by
    rw [List.nodup_iff_pairwise_ne, List.pairwise_iff_getElem]
    intro a b ha hb hab
    have := HND.out b a (by rw [HN.out]; exact hb) hab
    have e1 : E! E a = E[a] := by simp [E!, ha]
    have e2 : E! E b = E[b] := by simp [E!, hb]
    rw [e1, e2] at this
    exact this⟩)
  obtain ⟨bl, hbl⟩ : ∃ b, b = X.heap.size := ⟨_, rfl⟩
  obtain ⟨W0, hW0⟩ : ∃ W0, W0 = (X.alloc (.cells #[] 28)).alloc (.cells #[] 3) := ⟨_, rfl⟩
  have hb0 : Below w.heap.size w W0 := by
    rw [hW0]
    exact (hb.alloc hb.size _).alloc (by have := hb.size; simp; omega) _
  have HBL := Lib.hid hbl
  have HW0 := Lib.hid hW0
  have HSZ := Lib.hid (show W0.heap.size = bl + 2 by rw [hW0, hbl]; simp)
  have HO0 := Lib.hid (show W0.ownsRow (bl + 1) 3 1 (.slice (some ⟨bl + 1, 0, none⟩) 0 0) 0 (ic []) from by
    rw [hW0, hbl]
    have h := World.ownsRow_made (X.alloc (.cells #[] 28)) #[] 0 (e := 3) (size := 1) (Nat.le_refl _) (Nat.zero_le _) rfl
    simpa [ic] using h)
  have HRV := Lib.hid (show RowsV (bl + 1) W0 (.slice (some ⟨bl, 0, none⟩) 0 0) [] from ⟨bl, 0, 0, [], rfl, by simp, ⟨by rw [HSZ.out]; omega, by omega⟩, rfl, fun j u h => by simp at h, fun u h => by simp at h, fun i p d h => by simp at h⟩)
  have HWS := Lib.hid (show w.heap.size ≤ bl by have := HB.out.size; rw [hbl]; exact this)
  have HB0 := Lib.hid hb0
  have g0 : decide ((n : Int) < (n : Int)) = false := by simp
  clear hbl hW0 hb hb0 HLT HND HB
  go_upto_region 13 with fail
  simp only [← HBL.out]
  rw [← HW0.out]
  go_wp2
  go_loopw [5, 6, 7] (fun ov onv iv ws => ∃ i : Nat, i ≤ n ∧ iv = .int .i64 i ∧ Hid (OpS E bl w ws i 0 ov onv)) (fun _ _ iv _ => n - (intOf iv).toNat)
  case atStart => exact ⟨0, by omega, rfl, Lib.hid ⟨bl + 1, 0, 0, [], [], rfl, rfl, OP18.init E, HRV.out, HO0.out, by rw [HSZ.out]; omega, by rw [HSZ.out]; omega, HB0.out⟩⟩
  case round =>
  clear HRV HO0 HSZ HB0
  obtain ⟨i, hi, rfl, HS⟩ := hrel
  obtain ⟨X1, rfl⟩ : ∃ X : World, X = wr := ⟨_, rfl⟩
  by_cases hlt : i < n
  case pos =>
    have HS1 := HS
    have g3 : decide ((i : Int) < (n : Int)) = true := by simp; omega
    go_wp2
    go_loopw [5, 6, 8] (fun ov onv kv ws => ∃ k : Nat, k ≤ 2 ∧ kv = .int .i64 k ∧ Hid (OpS E bl w ws i k ov onv)) (fun _ _ kv _ => 2 - (intOf kv).toNat)
    case atStart => exact ⟨0, by omega, rfl, HS1⟩
    case round =>
    clear HS HS1
    obtain ⟨k, hk, rfl, HS⟩ := hrel
    obtain ⟨X2, rfl⟩ : ∃ X : World, X = wr := ⟨_, rfl⟩
    by_cases hk2 : k < 2
    case neg =>
      obtain rfl : 2 = k := by omega
      have HS2 := Lib.hid HS.out.next
      go_wp2
      go_roundw
      case rel => exact ⟨i + 1, by omega, by go_num, HS2⟩
      case measure => simp [intOf]; omega
    case pos =>
    obtain ⟨g, oc, m, O, A, rfl, hm, hop, hrv, hown, hg, hbs, hb⟩ := HS.out
    have hil : i < E.length := by rw [← HN.out]; exact hlt
    obtain ⟨eb, eoff, rfl, hes, hec⟩ := (HE.out.mono (Nat.le_refl _) hb) (by intro e; rw [e] at hil; simp at hil)
    obtain ⟨c1, c2⟩ := hec i hil
    obtain ⟨fv, hfv⟩ : ∃ x, x = (dk E i k).1 := ⟨_, rfl⟩
    have ck : X2.cell? ⟨eb, eoff + i * 2 + k, none⟩ = some (.int .i64 fv) := by
      rw [hfv]
      unfold dk
      split
      · subst_vars; exact c1
      · rw [show k = 1 by omega]; exact c2
    have bi : (0 : Int) ≤ (i : Int) ∧ (i : Int) < (n : Int) := by omega
    have bk : (0 : Int) ≤ (k : Int) ∧ (k : Int) < 2 := by omega
    have g4 : decide ((k : Int) < 2) = true := by simp; omega
    have HE2 := Lib.hid (HE.out.mono (Nat.le_refl _) hb)
    have HM := Lib.hid hm
    have HOP := Lib.hid hop
    have HRV := Lib.hid hrv
    have HOW := Lib.hid hown
    have HSZ := Lib.hid (show g < X2.heap.size ∧ bl + 1 ≤ X2.heap.size from ⟨hg, hbs⟩)
    have HB2 := Lib.hid hb
    have HFV := Lib.hid hfv
    have HIL := Lib.hid hil
    have hDG := degree18 E (some ⟨eb, eoff, none⟩) cap fv X2 HE2.out (by have := HN.out; omega)
    rw [← HN.out] at hDG
    obtain ⟨dg, hdg⟩ : ∃ x, x = degE E fv := ⟨_, rfl⟩
    rw [← hdg] at hDG
    have HDG := Lib.hid hDG
    have HDGE := Lib.hid hdg
    clear hm hop hrv hown hg hbs hb hil hec c1 c2 hfv hDG hdg hes
    go_wp2_with fail
    refine HDG.out.mono ?_
    rintro e X3 ⟨rfl, rfl⟩
    by_cases h2 : dg = 2
    case pos =>
      have g5 : ((dg : Int) != 2) = false := by rw [h2]; rfl
      have HS2 := Lib.hid (HS.out.skip (by rw [← HFV.out, ← HDGE.out]; exact h2))
      clear h2 HS
      go_wp2
      go_roundw
      case rel => exact ⟨k + 1, by omega, by go_num, HS2⟩
      case measure => simp [intOf]; omega
    case neg =>
    have g5 : ((dg : Int) != 2) = true := by simp; omega
    have HH2 := Lib.hid (show degE E (dk E i k).1 ≠ 2 by rw [← HFV.out, ← HDGE.out]; exact h2)
    obtain ⟨K, hK⟩ := open_whole HR.out (dk_isD HR.out HIL.out k) HH2.out
    have HK := Lib.hid hK
    have hFO := follow18 E (some ⟨eb, eoff, none⟩) cap i (dk E i k) K X2 HE2.out HI.out HR.out (by have := HN.out; omega) HIL.out (dk_flat HR.out HIL.out k) hK.w.tr hK.w.stop
    rw [← HN.out, ← HFV.out] at hFO
    have HFO := Lib.hid hFO
    have hKB : K + 1 ≤ 200 := by have := hK.w.tr.bound HR.out; have := HN.out; omega
    have HKB := Lib.hid hKB
    clear h2 hK hFO hKB HS HDG
    go_wp2_with fail
    refine HFO.out.mono ?_
    rintro e X3 ⟨pa, pc, rfl, hpI, hpN, hb3⟩
    have HB3 := Lib.hid hb3
    have HPI := Lib.hid hpI
    have HPN := Lib.hid (hpN.not HSZ.out.1)
    have hPU := put18 g O _ (pathL E (dk E i k) K) pa pc X3 (HRV.out.more hb3) (by have := HSZ.out.1; have := hb3.size; omega) hpI (by rw [pathL_len]; exact HPN.out) (by have := HOP.out.lo; have := HN.out; omega) (by rw [pathL_len]; have := HKB.out; omega)
    rw [pathL_len] at hPU
    have HPU := Lib.hid hPU
    clear hb3 hpI hpN hPU HFO
    go_wp2_with fail
    refine HPU.out.mono ?_
    rintro e X4 ⟨v4, R, rfl, hrv4, hins, hb4⟩
    have HB4 := Lib.hid (below_more HB3.out hb4 HB3.out.size)
    have HIN := Lib.hid hins
    have HRV4 := Lib.hid hrv4
    have HOW4 := Lib.hid (owns_below HOW.out HB4.out)
    have HPI4 := Lib.hid (HPI.out.mono (Nat.le_refl _) hb4)
    have HSZ4 := Lib.hid (show g < X4.heap.size ∧ bl + 1 ≤ X4.heap.size from ⟨by have := HSZ.out; have := HB4.out.size; omega, by have := HSZ.out; have := HB4.out.size; omega⟩)
    have HAM := Lib.hid (show m + (K + 2) ≤ 1000000 by have := HOP.out.la; have := HM.out; have := HKB.out; have := HN.out; omega)
    clear hrv4 hins hb4 HPU
    go_wp2_with (at_builtin; refine wpList_append_on X4 rfl _ _ rfl (bl + 1) g m oc A rfl HOW4.out pa (K + 2) pc rfl (pathL E (dk E i k) K) (by rw [pathL_len]) HPI4.out (by omega) HAM.out HSZ4.out.2 ?_)
    intro g5n c5 X5 hown5 hg5 hgr5
    have HS5 := Lib.hid (show OpS E bl w X5 i (k + 1) v4 (.slice (some ⟨g5n, 0, none⟩) (m + (K + 2)) c5) from by
      obtain ⟨g', c', q, -, hlt', -⟩ := owns_block hown5 (by omega)
      cases q
      refine ⟨_, _, _, R, A ++ pathL E (dk E i k) K, rfl, by rw [List.length_append, pathL_len, HM.out], HOP.out.add HR.out (by have := HN.out; omega) HK.out HH2.out HIN.out, HRV4.out.grown hgr5 hg5, hown5, hlt', by have := hgr5.size; have := HSZ4.out.2; omega, ?_⟩
      exact (below_more HB2.out HB4.out HB2.out.size).grown hgr5 (by have := HB2.out.size; have := HB4.out.size; omega) (fun q hq => by
        cases hq
        have := (HOW.out.lt g (by simp [Value.ownBlock])).1
        have := HWS.out
        omega))
    clear hown5 hg5 hgr5
    go_wp2
    go_roundw
    case rel => exact ⟨k + 1, by omega, by go_num, HS5⟩
    case measure => simp [intOf]; omega
  case neg =>
  obtain rfl : n = i := by omega
  obtain ⟨g, oc, m, O, A, rfl, hm, hop, hrv, hown, hg, hbs, hb⟩ := HS.out
  have HM := Lib.hid hm
  have HOP := Lib.hid (show OP18 E E.length 0 O A from by rw [← HN.out]; exact hop)
  have HON := Lib.hid (show IntsAt X1 (some ⟨g, 0, none⟩) A from by
    obtain ⟨a, c, q, hI⟩ := owns_ic hown hm
    cases q
    exact hI)
  have HAM := Lib.hid (show A.length ≤ 1000000 by have := hop.la; omega)
  have HRS := Lib.hid (show RdS E g X1 X1 0 _ from ⟨O, HOP.out.rounds HR.out, hrv, by have := HOP.out.lo; omega, Below.refl _ _⟩)
  have HGX := Lib.hid hg
  have HB1 := Lib.hid hb
  have g3 : decide ((n : Int) < (n : Int)) = false := by simp
  clear HS hm hop hrv hown hg hbs hb
  go_wp2
  go_loopw [5, 10] (fun ov iv ws => ∃ i : Nat, i ≤ n ∧ iv = .int .i64 i ∧ Hid (RdS E g X1 ws i ov)) (fun _ iv _ => n - (intOf iv).toNat)
  case atStart => exact ⟨0, by omega, rfl, HRS⟩
  case round =>
  clear HRS
  obtain ⟨i, hi, rfl, HS⟩ := hrel
  obtain ⟨X2, rfl⟩ : ∃ X : World, X = wr := ⟨_, rfl⟩
  obtain ⟨S, hrs, hrv, hsl, hb⟩ := HS.out
  have HB2 := Lib.hid (show Below w.heap.size w X2 from below_more HB1.out hb HB1.out.size)
  have HBX := Lib.hid hb
  by_cases hlt : i < n
  case neg =>
    obtain rfl : n = i := by omega
    obtain ⟨fa, fc, rfl, hra⟩ := hrv.at
    have HRA := Lib.hid hra
    have HSR := Lib.hid (show RSt18 E (RD E E.length) S from by rw [← HN.out]; exact hrs)
    have HSL := Lib.hid (show S.length ≤ 300 by have := HN.out; omega)
    clear hrs hrv hsl hb hra
    go_wp2
    exact bodyPost_ret (v := .slice fa S.length fc) (by simp [results, Tryz.results24, go_sem]) rfl ⟨fa, fc, S, rfl, HRA.out, HB2.out, fun h => absurd HR.out h, HSL.out, fun _ => HSR.out⟩
  case pos =>
  have hil : i < E.length := by rw [← HN.out]; exact hlt
  obtain ⟨eb, eoff, rfl, hes, hec⟩ := (HE.out.mono (Nat.le_refl _) HB2.out) (by intro e; rw [e] at hil; simp at hil)
  obtain ⟨c1, c2⟩ := hec i hil
  obtain ⟨⟨x, y⟩, hx⟩ : ∃ e, e = E! E i := ⟨_, rfl⟩
  rw [← hx] at c1 c2
  have HX := Lib.hid hx
  have HIL := Lib.hid hil
  have bi : (0 : Int) ≤ (i : Int) ∧ (i : Int) < (n : Int) := by omega
  have HE2 := Lib.hid (HE.out.mono (Nat.le_refl _) HB2.out)
  have hD1 := degree18 E (some ⟨eb, eoff, none⟩) cap x X2 HE2.out (by have := HN.out; omega)
  have hD2 := degree18 E (some ⟨eb, eoff, none⟩) cap y X2 HE2.out (by have := HN.out; omega)
  rw [← HN.out] at hD1 hD2
  obtain ⟨d1, hd1⟩ : ∃ d, d = degE E x := ⟨_, rfl⟩
  obtain ⟨d2, hd2⟩ : ∃ d, d = degE E y := ⟨_, rfl⟩
  rw [← hd1] at hD1
  rw [← hd2] at hD2
  have HD1 := Lib.hid hD1
  have HD2 := Lib.hid hD2
  have hN1 := in18 A (some ⟨g, 0, none⟩) oc x X2 (HON.out.mono (Nat.le_refl _) hb) HAM.out
  have hN2 := in18 A (some ⟨g, 0, none⟩) oc y X2 (HON.out.mono (Nat.le_refl _) hb) HAM.out
  rw [← HM.out] at hN1 hN2
  have HN1 := Lib.hid hN1
  have HN2 := Lib.hid hN2
  have HRS := Lib.hid hrs
  have HRV := Lib.hid hrv
  have HSL := Lib.hid hsl
  have HE1 := Lib.hid hd1
  have HE2' := Lib.hid hd2
  have HSK := Lib.hid (show (d1 ≠ 2 ∨ d2 ≠ 2 ∨ x ∈ A ∨ y ∈ A) → RdS E g X1 X2 (i + 1) _ from fun h => by
    refine ⟨S, HRS.out.skipR fun q => ?_, HRV.out, by have := HSL.out; omega, HBX.out⟩
    rw [← HX.out] at q
    rcases h with h | h
    · exact absurd (HE1.out.trans q) h
    · refine HOP.out.noRound HR.out ?_ (by rw [← HX.out]; exact q)
      rw [← HX.out]
      rcases h with h | h
      · exact .inl (by rw [← HE2'.out]; exact h)
      · exact .inr h)
  clear hil hes hec hx hD1 hD2 hd1 hd2 hN1 hN2 hrs hrv hsl hb HS
  by_cases q1 : d1 = 2
  case neg =>
    have g5 : ((d1 : Int) != 2) = true := by simp; omega
    have HS2 := Lib.hid (HSK.out (.inl q1))
    clear q1
    go_wp2_with fail
    refine HD1.out.mono ?_
    rintro e X3 ⟨rfl, rfl⟩
    go_wp2
    go_roundw
    case rel => exact ⟨i + 1, by omega, by go_num, HS2⟩
    case measure => simp [intOf]; omega
  case pos =>
  have g5 : ((d1 : Int) != 2) = false := by rw [q1]; rfl
  by_cases q2 : d2 = 2
  case neg =>
    have g6 : ((d2 : Int) != 2) = true := by simp; omega
    have HS2 := Lib.hid (HSK.out (.inr (.inl q2)))
    clear q1 q2
    go_wp2_with fail
    refine HD1.out.mono ?_
    rintro e X3 ⟨rfl, rfl⟩
    go_wp2_with fail
    refine HD2.out.mono ?_
    rintro e X3 ⟨rfl, rfl⟩
    go_wp2
    go_roundw
    case rel => exact ⟨i + 1, by omega, by go_num, HS2⟩
    case measure => simp [intOf]; omega
  case pos =>
  have g6 : ((d2 : Int) != 2) = false := by rw [q2]; rfl
  have HQ1 := Lib.hid q1
  have HQ2 := Lib.hid q2
  clear q1 q2
  go_wp2_with fail
  refine HD1.out.mono ?_
  rintro e X3 ⟨rfl, rfl⟩
  go_wp2_with fail
  refine HD2.out.mono ?_
  rintro e X3 ⟨rfl, rfl⟩
  go_wp2_with fail
  refine HN1.out.mono ?_
  rintro e X3 ⟨r1, rfl, hr1, rfl⟩
  cases r1
  case' true =>
    have HS2 := Lib.hid (HSK.out (.inr (.inr (.inl (hr1.1 rfl)))))
    clear hr1
    go_wp2
    go_roundw
    case rel => exact ⟨i + 1, by omega, by go_num, HS2⟩
    case measure => simp [intOf]; omega
  case' false =>
  have HXA := Lib.hid (show x ∉ A from fun h => by have := hr1.2 h; cases this)
  clear hr1
  go_wp2_with fail
  refine HN2.out.mono ?_
  rintro e X3 ⟨r2, rfl, hr2, rfl⟩
  cases r2
  case' true =>
    have HS2 := Lib.hid (HSK.out (.inr (.inr (.inr (hr2.1 rfl)))))
    clear hr2
    go_wp2
    go_roundw
    case rel => exact ⟨i + 1, by omega, by go_num, HS2⟩
    case measure => simp [intOf]; omega
  case' false =>
  clear hr2 HSK HD1 HD2 HN1 HN2
  obtain ⟨K, hK⟩ := HOP.out.round HR.out HIL.out (by rw [← HX.out]; exact HE1.out.symm.trans HQ1.out) (by rw [← HX.out]; exact HXA.out)
  rw [← HX.out] at hK
  have HK := Lib.hid hK
  have hFO := follow18 E (some ⟨eb, eoff, none⟩) cap i (x, y) K X2 HE2.out HI.out HR.out (by have := HN.out; omega) HIL.out (by rw [HX.out]; exact dk_flat HR.out HIL.out 0) hK.tr hK.stop
  rw [← HN.out] at hFO
  have HFO := Lib.hid hFO
  have hKB : K + 1 ≤ 200 := by have := hK.tr.bound HR.out; have := HN.out; omega
  have HKB := Lib.hid hKB
  obtain ⟨P, hP⟩ : ∃ P, P = pathL E (x, y) K := ⟨_, rfl⟩
  have HP := Lib.hid hP
  have HPL := Lib.hid (show P.length = K + 2 by rw [hP, pathL_len])
  clear hK hFO hKB hP
  go_wp2_with fail
  refine HFO.out.mono ?_
  rintro e X3 ⟨pa, pc, rfl, hpI, hpN, hb3⟩
  rw [← HP.out] at hpI
  have HB3 := Lib.hid hb3
  have HPI := Lib.hid hpI
  have HPN := Lib.hid (hpN.not (show g < X2.heap.size by have := HGX.out; have := HBX.out.size; omega))
  obtain ⟨eb3, eoff3, e3, -, hec3⟩ := (HE2.out.mono (Nat.le_refl _) hb3) (by intro e; have := HIL.out; rw [e] at this; simp at this)
  cases e3
  have f1 := (hec3 i HIL.out).1
  rw [← HX.out] at f1
  clear hb3 hpI hpN hec3 HFO c1 c2
  go_wp2
  go_loopw [12, 13] (fun lv kv ws => ∃ (k : Nat) (v : Int), k ≤ K + 2 ∧ kv = .int .i64 k ∧ lv = .int .i64 v ∧ Hid (LeastI x P k v) ∧ Hid (X3 = ws)) (fun _ kv _ => K + 2 - (intOf kv).toNat)
  case atStart => exact ⟨0, x, by omega, rfl, rfl, Lib.hid ⟨Int.le_refl _, fun j hj => by omega, .inl rfl⟩, Lib.hid rfl⟩
  case round =>
  obtain ⟨k, v, hk, rfl, rfl, HLE, HW⟩ := hrel
  obtain rfl : X3 = wr := HW.out
  by_cases hk2 : k < K + 2
  case pos =>
    obtain ⟨pb, poff, rfl, hps, hpc⟩ := HPI.out (by intro e; have := HPL.out; rw [e] at this; simp at this)
    have c1 := hpc k (by rw [HPL.out]; exact hk2)
    obtain ⟨u, hu⟩ : ∃ u, u = I! P k := ⟨_, rfl⟩
    rw [← hu] at c1
    have HU := Lib.hid hu
    have bk : (0 : Int) ≤ (k : Int) ∧ (k : Int) < ((K : Int) + 2) := by omega
    have hkb : k ≤ 1000 := by have := HKB.out; omega
    clear hpc hu hps
    by_cases huv : u < v
    · have g7 : decide (u < v) = true := by simpa using huv
      have HL2 := Lib.hid (show LeastI x P (k + 1) u from by
        obtain ⟨h1, h2, h3⟩ := HLE.out
        refine ⟨by omega, fun j hj => ?_, .inr ⟨k, by omega, HU.out⟩⟩
        by_cases e : j = k
        · rw [e, ← HU.out]; exact Int.le_refl _
        · have := h2 j (by omega); omega)
      clear huv
      go_wp2
      go_roundw
      case rel => exact ⟨k + 1, u, by omega, by go_num, rfl, HL2, by first | exact Lib.hid rfl | trivial⟩
      case measure => simp [intOf]; omega
    · have g7 : decide (u < v) = false := by simpa using huv
      have HL2 := Lib.hid (show LeastI x P (k + 1) v from by
        obtain ⟨h1, h2, h3⟩ := HLE.out
        refine ⟨h1, fun j hj => ?_, ?_⟩
        · by_cases e : j = k
          · rw [e, ← HU.out]; omega
          · exact h2 j (by omega)
        · rcases h3 with q | ⟨j, hj, q⟩
          · exact .inl q
          · exact .inr ⟨j, by omega, q⟩)
      clear huv
      go_wp2
      go_roundw
      case rel => exact ⟨k + 1, v, by omega, by go_num, rfl, HL2, by first | exact Lib.hid rfl | trivial⟩
      case measure => simp [intOf]; omega
  case neg =>
  obtain rfl : k = K + 2 := by omega
  have HLF := Lib.hid ((HLE.out.fin HPL.out.symm).trans (show (∀ y, y ∈ P → x ≤ y) ↔ Path18 E (x, y) K from by rw [HP.out]; exact least_path HK.out (HE1.out.symm.trans HQ1.out)))
  by_cases hv : v = x
  case neg =>
    have g8 : (v == x) = false := by simpa using hv
    have HS2 := Lib.hid (show RdS E g X1 X3 (i + 1) _ from ⟨S, HRS.out.skipR fun _ L p => hv (HLF.out.2 (path_only HK.out (by rw [HX.out]; exact p))), HRV.out.more HB3.out, by have := HSL.out; omega, below_more HBX.out HB3.out HBX.out.size⟩)
    clear hv hk2
    go_wp2
    go_roundw
    case rel => exact ⟨i + 1, by omega, by go_num, HS2⟩
    case measure => simp [intOf]; omega
  case pos =>
  have g8 : (v == x) = true := by simpa using hv
  have HPP := Lib.hid (HLF.out.1 hv)
  have hPU := put18 g S _ P pa pc X3 (HRV.out.more HB3.out) (by have := HGX.out; have := HBX.out.size; have := HB3.out.size; omega) HPI.out (by rw [HPL.out]; exact HPN.out) (by have := HSL.out; have := HN.out; omega) (by rw [HPL.out]; have := HKB.out; omega)
  rw [HPL.out] at hPU
  have HPU := Lib.hid hPU
  clear hv hk2 hPU
  go_wp2_with fail
  refine HPU.out.mono ?_
  rintro e X4 ⟨v4, R, rfl, hrv4, hins, hb4⟩
  have HS2 := Lib.hid (show RdS E g X1 X4 (i + 1) v4 from ⟨R, by
      rw [HP.out] at hins
      have hp := HPP.out
      rw [HX.out] at hp hins
      exact HRS.out.addR hp hins, hrv4, by have := HSL.out; have := hins.len; omega, below_more (below_more HBX.out HB3.out HBX.out.size) hb4 (by have := HBX.out.size; have := HB3.out.size; omega)⟩)
  clear hrv4 hins hb4 HPU
  go_wp2
  go_roundw
  case rel => exact ⟨i + 1, by omega, by go_num, HS2⟩
  case measure => simp [intOf]; omega
end Go.Proofs.YtkjamheoihlekaaGreat

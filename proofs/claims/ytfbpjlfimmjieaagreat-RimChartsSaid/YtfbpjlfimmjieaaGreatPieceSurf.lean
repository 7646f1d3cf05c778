/- A piece of a surface, its vertices parted, is a surface. Plain. -/
import Derived.Test.YtfbpjlfimmjieaaGreatSelLaw
import Derived.Test.YtfbpjlfimmjieaaGreatSideLaw
import Derived.Test.YtfbpjlfimmjieaaGreatTogether
import Derived.Test.YtfbpjlfimmjieaaGreatFanLaw
namespace Go.Proofs.YtfbpjlfimmjieaaGreat
set_option linter.unusedVariables false
set_option linter.unusedSimpArgs false
open Go.RowKit
theorem vt_natP (T : List Tr) (c : Nat) : vt T (c : Int) = tg (T! T (c / 3)) (c % 3) := by unfold vt; simp
theorem hasB_vtP {T : List Tr} {c : Nat} : hasB (T! T (c / 3)) (vt T (c : Int)) = true := hasB_iff.2 ⟨c % 3, by omega, (vt_natP T c).symm⟩
theorem selP_mem {bays : List Int} {bay : Int} {k t : Nat} : t ∈ sel bays bay k ↔ t < k ∧ I! bays t = bay := by simp [sel]
theorem selP_sorted (bays : List Int) (bay : Int) (k : Nat) : (sel bays bay k).Pairwise (· < ·) := by
  unfold sel
  exact List.Pairwise.filter _ List.pairwise_lt_range
theorem selP_ix {bays : List Int} {bay : Int} {k t : Nat} (h : t < k) (hb : I! bays t = bay) : ∃ i : Nat, (sel bays bay k)[i]? = some t := List.getElem?_of_mem (selP_mem.2 ⟨h, hb⟩)
/-- What is told of a piece: corners that A joins are one vertex of it. -/
structure Piece (A : Nat → Nat → Prop) (T : List Tr) (bays : List Int) (bay : Int) (L : Nat → Int) (F : List Nat) : Prop where
  least : IsLeast A (3 * T.length) L
  perm : F.Perm (reps bays bay L (3 * T.length))
  sorted : F.Pairwise (fun a b => ¬ ltC T b a)
  inb : ∀ x y, A x y → x < 3 * T.length ∧ y < 3 * T.length
  sym : ∀ x y, A x y → A y x
  tri : ∀ x y, A x y → I! bays (y / 3) = I! bays (x / 3)
  ver : ∀ x y, A x y → vt T (y : Nat) = vt T (x : Nat)
  oth : ∀ x y, A x y → ∃ x' y', A x' y' ∧ x' / 3 = x / 3 ∧ y' / 3 = y / 3 ∧ vt T (x' : Nat) ≠ vt T (x : Nat)
section
variable {n : Nat} {A : Nat → Nat → Prop} {T : List Tr} {bays : List Int} {bay : Int} {L : Nat → Int} {F : List Nat}
theorem Piece.side_vt (hc : Piece A T bays bay L F) {x y : Nat} (h : Conn A x y) : vt T (y : Nat) = vt T (x : Nat) := by
  induction h with
  | refl => rfl
  | step _ s ih => rw [hc.ver _ _ s, ih]
  | back _ s ih => rw [← ih, hc.ver _ _ s]
theorem Piece.side_tri (hc : Piece A T bays bay L F) {x y : Nat} (h : Conn A x y) : I! bays (y / 3) = I! bays (x / 3) := by
  induction h with
  | refl => rfl
  | step _ s ih => rw [hc.tri _ _ s, ih]
  | back _ s ih => rw [← ih, hc.tri _ _ s]
theorem Piece.nodup (hc : Piece A T bays bay L F) : F.Nodup := hc.perm.nodup_iff.2 (List.Pairwise.filter _ List.nodup_range)
theorem Piece.mem (hc : Piece A T bays bay L F) {c : Nat} : c ∈ F ↔ c < 3 * T.length ∧ I! bays (c / 3) = bay ∧ L c = c := by rw [hc.perm.mem_iff, reps_mem]
theorem Piece.len (hc : Piece A T bays bay L F) : F.length ≤ 3 * T.length := by rw [hc.perm.length_eq]; exact reps_le _ _ _ _
/-- A corner's least one. -/
theorem Piece.rep (hc : Piece A T bays bay L F) {c : Nat} (h : c < 3 * T.length) (hb : I! bays (c / 3) = bay) : ((L c).toNat : Int) = L c ∧ (L c).toNat ∈ F := by
  have h0 := hc.least.nonneg c h
  have h1 := hc.least.top hc.inb h
  refine ⟨by omega, hc.mem.2 ⟨h1.1, ?_, by omega⟩⟩
  rw [← hc.side_tri (hc.least.con c h)]; exact hb
/-- Its number in the bay. -/
theorem Piece.num (hc : Piece A T bays bay L F) {c : Nat} (h : c < 3 * T.length) (hb : I! bays (c / 3) = bay) : ∃ k : Nat, ixF F (L c) = k ∧ F[k]? = some (L c).toNat := by
  refine ⟨_, rfl, ?_⟩
  have hm := (hc.rep h hb).2
  rw [List.getElem?_eq_getElem (List.idxOf_lt_length_iff.2 hm), List.getElem_idxOf]
theorem Piece.num_iff (hc : Piece A T bays bay L F) {c d : Nat} (h : c < 3 * T.length) (hb : I! bays (c / 3) = bay) (h' : d < 3 * T.length) (hb' : I! bays (d / 3) = bay) : ixF F (L c) = ixF F (L d) ↔ Conn (A) c d := by
  rw [← hc.least.iff hc.inb h h']
  obtain ⟨k, e, g⟩ := hc.num h hb
  obtain ⟨k', e', g'⟩ := hc.num h' hb'
  have r1 := (hc.rep h hb).1
  have r2 := (hc.rep h' hb').1
  constructor
  · intro q
    rw [e, e'] at q
    obtain rfl : k = k' := by omega
    rw [g] at g'
    simp at g'
    omega
  · intro q; rw [q]
theorem Piece.num_vt (hc : Piece A T bays bay L F) (hs : Surf n T) {c d : Nat} (h : c < 3 * T.length) (hb : I! bays (c / 3) = bay) (h' : d < 3 * T.length) (hb' : I! bays (d / 3) = bay) (e : ixF F (L c) = ixF F (L d)) : vt T (c : Nat) = vt T (d : Nat) :=
  (hc.side_vt ((hc.num_iff h hb h' hb').1 e)).symm
/-- The old vertex of a corner's number. -/
theorem Piece.old (hc : Piece A T bays bay L F) (hs : Surf n T) {c : Nat} (h : c < 3 * T.length) (hb : I! bays (c / 3) = bay) : ∃ k : Nat, ixF F (L c) = k ∧ k < F.length ∧ I! (cutV T F) k = vt T (c : Nat) := by
  obtain ⟨k, e, g⟩ := hc.num h hb
  have hk := (List.getElem?_eq_some_iff.1 g).1
  refine ⟨k, e, hk, ?_⟩
  have h1 := hc.least.top hc.inb h
  rw [show I! (cutV T F) k = vtx T (L c).toNat by simp [I!, cutV, List.getD_eq_getElem?_getD, g]]
  unfold vtx
  rw [if_pos h1.1]
  exact (hc.side_vt (hc.least.con c h)).symm
theorem cutP_get (T : List Tr) {i t : Nat} {k : Nat} (h : (sel bays bay k)[i]? = some t) : T! (cutT bays bay L F k) i = cutTri L F t := by
  simp [T!, cutT, List.getD_eq_getElem?_getD, h]
theorem tg_cutTriP (t : Nat) {j : Nat} (hj : j < 3) : tg (cutTri L F t) j = ixF F (L (3 * t + j)) := by
  rcases (show j = 0 ∨ j = 1 ∨ j = 2 by omega) with rfl | rfl | rfl <;> rfl
/-- Of a bay's triangle: which it was, and its corners' numbers. -/
theorem cutP_at {i : Nat} (h : i < (cutT bays bay L F T.length).length) : ∃ t, t < T.length ∧ I! bays t = bay ∧ (sel bays bay T.length)[i]? = some t ∧ ∀ j, j < 3 → tg (T! (cutT bays bay L F T.length) i) j = ixF F (L (3 * t + j)) := by
  have hi : i < (sel bays bay T.length).length := by simpa [cutT] using h
  have hg := List.getElem?_eq_getElem hi
  have hm := selP_mem.1 (List.getElem_mem hi)
  exact ⟨_, hm.1, hm.2, hg, fun j hj => by rw [cutP_get T hg, tg_cutTriP _ hj]⟩
theorem vt3P (T : List Tr) (t : Nat) {j : Nat} (hj : j < 3) : vt T ((3 * t + j : Nat) : Int) = tg (T! T t) j := by
  rw [vt_natP, show (3 * t + j) / 3 = t by omega, show (3 * t + j) % 3 = j by omega]
/-- A bay is a surface. -/
theorem Piece.surf (hc : Piece A T bays bay L F) (hs : Surf n T) (hl : T.length ≤ 1000) : Surf F.length (cutT bays bay L F T.length) := by
  have hlen := hc.len
  have hsl : (cutT bays bay L F T.length).length ≤ T.length := by simpa [cutT] using sel_le bays bay T.length
  -- equal numbers: equal vertices
  have key : ∀ {t u p q : Nat}, t < T.length → I! bays t = bay → u < T.length → I! bays u = bay → p < 3 → q < 3 → ixF F (L (3 * t + p)) = ixF F (L (3 * u + q)) → tg (T! T t) p = tg (T! T u) q := fun {t u p q} ht hb hu hb' hp hq e => by
    have := hc.num_vt hs (c := 3 * t + p) (d := 3 * u + q) (by omega) (by rw [show (3 * t + p) / 3 = t by omega]; exact hb) (by omega) (by rw [show (3 * u + q) / 3 = u by omega]; exact hb') e
    rwa [vt3P T t hp, vt3P T u hq] at this
  have lt_of : ∀ {a b t u : Nat}, (sel bays bay T.length)[a]? = some t → (sel bays bay T.length)[b]? = some u → a < b → t < u := fun {a b t u} h1 h2 hab => by
    obtain ⟨k1, e1⟩ := List.getElem?_eq_some_iff.1 h1
    obtain ⟨k2, e2⟩ := List.getElem?_eq_some_iff.1 h2
    rw [← e1, ← e2]
    exact List.pairwise_iff_getElem.1 (selP_sorted bays bay T.length) a b k1 k2 hab
  refine ⟨by omega, by omega, by omega, VIn.of_three fun i hi j hj => ?_, fun i hi => ?_, fun b a hb hab => ?_, fun b a hb hab => ?_, fun v v0 v1 => ?_, fun v v0 v1 => ?_⟩
  · obtain ⟨t, ht, hb, -, hg⟩ := cutP_at hi
    obtain ⟨k, e, hk, -⟩ := hc.old hs (c := 3 * t + j) (by omega) (by rw [show (3 * t + j) / 3 = t by omega]; exact hb)
    rw [hg j hj, e]
    omega
  · obtain ⟨t, ht, hb, -, hg⟩ := cutP_at hi
    refine loop_iff (N := F.length) fun j hj => ⟨?_, ?_, ?_⟩
    · obtain ⟨k, e, hk, -⟩ := hc.old hs (c := 3 * t + j) (by omega) (by rw [show (3 * t + j) / 3 = t by omega]; exact hb)
      rw [hg j hj, e]; omega
    · obtain ⟨k, e, hk, -⟩ := hc.old hs (c := 3 * t + j) (by omega) (by rw [show (3 * t + j) / 3 = t by omega]; exact hb)
      rw [hg j hj, e]; omega
    · rw [hg j hj, hg _ (Nat.mod_lt _ (by omega))]
      intro e
      have := tg_inj (hs.noloop t ht) hj (Nat.mod_lt _ (by omega)) (key ht hb ht hb hj (Nat.mod_lt _ (by omega)) e)
      omega
  · obtain ⟨t, ht, hbt, st, hg⟩ := cutP_at (show a < (cutT bays bay L F T.length).length by omega)
    obtain ⟨u, hu, hbu, su, hg'⟩ := cutP_at hb
    cases q : twB (T! (cutT bays bay L F T.length) a) (T! (cutT bays bay L F T.length) b)
    · rfl
    · exfalso
      obtain ⟨x, y, hx, hy, e⟩ := dir_tw.1 q
      simp only [dirB, Bool.and_eq_true, beq_iff_eq] at e
      rw [hg' x hx, hg' _ (Nat.mod_lt _ (by omega)), hg y hy, hg _ (Nat.mod_lt _ (by omega))] at e
      have := hs.tw u t hu (lt_of st su hab)
      rw [dir_tw.2 ⟨x, y, hx, hy, by
        simp only [dirB, Bool.and_eq_true, beq_iff_eq]
        exact ⟨key hu hbu ht hbt hx hy e.1, key hu hbu ht hbt (Nat.mod_lt _ (by omega)) (Nat.mod_lt _ (by omega)) e.2⟩⟩] at this
      cases this
  · obtain ⟨t, ht, hbt, st, hg⟩ := cutP_at (show a < (cutT bays bay L F T.length).length by omega)
    obtain ⟨u, hu, hbu, su, hg'⟩ := cutP_at hb
    cases q : mirB (T! (cutT bays bay L F T.length) a) (T! (cutT bays bay L F T.length) b)
    · rfl
    · exfalso
      have := hs.mir u t hu (lt_of st su hab)
      rw [mir_iff.2 fun j hj => by
        obtain ⟨p, hp, e⟩ := hasB_iff.1 (mir_iff.1 q j hj)
        rw [hg j hj, hg' p hp] at e
        exact hasB_iff.2 ⟨p, hp, key hu hbu ht hbt hp hj e⟩] at this
      cases this
  · obtain ⟨k, rfl⟩ := Int.eq_ofNat_of_zero_le v0
    have hk : k < F.length := by omega
    have hm := hc.mem.1 (List.getElem_mem hk)
    obtain ⟨i, hi⟩ := selP_ix (k := T.length) (show F[k] / 3 < T.length by omega) hm.2.1
    refine ⟨i, by simpa [cutT] using (List.getElem?_eq_some_iff.1 hi).1, hasB_iff.2 ⟨F[k] % 3, by omega, ?_⟩⟩
    rw [cutP_get T hi, tg_cutTriP _ (by omega), show 3 * (F[k] / 3) + F[k] % 3 = F[k] by omega, hm.2.2]
    unfold ixF
    rw [Int.toNat_natCast, hc.nodup.idxOf_getElem]
  · -- what hangs together round a vertex
    have one : ∀ {x i : Nat}, x < 3 * T.length → I! bays (x / 3) = bay → ixF F (L x) = v → (sel bays bay T.length)[i]? = some (x / 3) → hasB (T! (cutT bays bay L F T.length) i) v = true := fun {x i} hx hb e hi => hasB_iff.2 ⟨x % 3, by omega, by
      rw [cutP_get T hi, tg_cutTriP _ (by omega), show 3 * (x / 3) + x % 3 = x by omega]; exact e⟩
    have stp : ∀ {x y i k : Nat}, A x y → I! bays (x / 3) = bay → ixF F (L x) = v → (sel bays bay T.length)[i]? = some (x / 3) → (sel bays bay T.length)[k]? = some (y / 3) → PAdj (cutT bays bay L F T.length) v i k := fun {x y i k} h hb e hi hk => by
      obtain ⟨x', y', h', d1, d2, hne⟩ := hc.oth _ _ h
      have hb' : I! bays (y / 3) = bay := (hc.tri _ _ h).trans hb
      have ey : ixF F (L y) = v := by rw [← e]; exact ((hc.num_iff (hc.inb _ _ h).1 hb (hc.inb _ _ h).2 hb').2 ((Conn.refl x).step h)).symm
      refine ⟨by simpa [cutT] using (List.getElem?_eq_some_iff.1 hi).1, by simpa [cutT] using (List.getElem?_eq_some_iff.1 hk).1, one (hc.inb _ _ h).1 hb e hi, one (hc.inb _ _ h).2 hb' ey hk, x' % 3, by omega, ?_, ?_⟩
      · rw [cutP_get T hi, tg_cutTriP _ (by omega), show 3 * (x / 3) + x' % 3 = x' by omega]
        intro q
        exact hne (hc.num_vt hs (hc.inb _ _ h').1 (by rw [d1]; exact hb) (hc.inb _ _ h).1 hb (q.trans e.symm))
      · rw [cutP_get T hi, tg_cutTriP _ (by omega), show 3 * (x / 3) + x' % 3 = x' by omega]
        refine hasB_iff.2 ⟨y' % 3, by omega, ?_⟩
        rw [cutP_get T hk, tg_cutTriP _ (by omega), show 3 * (y / 3) + y' % 3 = y' by omega]
        exact ((hc.num_iff (hc.inb _ _ h').1 (by rw [d1]; exact hb) (hc.inb _ _ h').2 (by rw [d2]; exact hb')).2 ((Conn.refl x').step h')).symm
    have all : ∀ {x y : Nat}, Conn (A) x y → x < 3 * T.length → I! bays (x / 3) = bay → ixF F (L x) = v → ∀ i k, (sel bays bay T.length)[i]? = some (x / 3) → (sel bays bay T.length)[k]? = some (y / 3) → Conn (PAdj (cutT bays bay L F T.length) v) i k := fun {x y} h hx hb e => by
      have nd : (sel bays bay T.length).Nodup := (selP_sorted bays bay T.length).imp fun h => by omega
      induction h with
      | refl =>
        intro i k hi hk
        obtain ⟨k1, e1⟩ := List.getElem?_eq_some_iff.1 hi
        obtain ⟨k2, e2⟩ := List.getElem?_eq_some_iff.1 hk
        have : i = k := (List.getElem_inj nd).1 (e1.trans e2.symm)
        subst this
        exact .refl _
      | @step y z hxy hyz ih =>
        intro i k hi hk
        have hb' : I! bays (y / 3) = bay := (hc.side_tri hxy).trans hb
        have ey : ixF F (L y) = v := by rw [← e]; exact ((hc.num_iff hx hb (hc.inb _ _ hyz).1 hb').2 hxy).symm
        obtain ⟨m, hm⟩ := selP_ix (k := T.length) (show y / 3 < T.length by have := (hc.inb _ _ hyz).1; omega) hb'
        exact (ih i m hi hm).step (stp hyz hb' ey hm hk)
      | @back y z hxy hzy ih =>
        intro i k hi hk
        have hyz := hc.sym _ _ hzy
        have hb' : I! bays (y / 3) = bay := (hc.side_tri hxy).trans hb
        have ey : ixF F (L y) = v := by rw [← e]; exact ((hc.num_iff hx hb (hc.inb _ _ hyz).1 hb').2 hxy).symm
        obtain ⟨m, hm⟩ := selP_ix (k := T.length) (show y / 3 < T.length by have := (hc.inb _ _ hyz).1; omega) hb'
        exact (ih i m hi hm).step (stp hyz hb' ey hm hk)
    intro i k hi hk hvi hvk
    obtain ⟨t, ht, hbt, st, hg⟩ := cutP_at hi
    obtain ⟨u, hu, hbu, su, hg'⟩ := cutP_at hk
    obtain ⟨p, hp, ep⟩ := hasB_iff.1 hvi
    obtain ⟨q, hq, eq⟩ := hasB_iff.1 hvk
    rw [hg p hp] at ep
    rw [hg' q hq] at eq
    have t3 : (3 * t + p) / 3 = t := by omega
    have u3 : (3 * u + q) / 3 = u := by omega
    have hcn := (hc.num_iff (c := 3 * t + p) (d := 3 * u + q) (by omega) (by rw [t3]; exact hbt) (by omega) (by rw [u3]; exact hbu)).1 (ep.trans eq.symm)
    exact all hcn (by omega) (by rw [t3]; exact hbt) ep i k (by rw [t3]; exact st) (by rw [u3]; exact su)
end
end Go.Proofs.YtfbpjlfimmjieaaGreat

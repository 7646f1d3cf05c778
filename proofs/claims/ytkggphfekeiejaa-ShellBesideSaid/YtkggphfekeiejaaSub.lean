/- Plain laws: some triangles of a surface as a list of their own; a shell's part is a surface of one shell. -/
import Derived.Test.YtkggphfekeiejaaJoinBack
namespace Go.Proofs.Ytkggphfekeiejaa
set_option linter.unusedVariables false
set_option linter.unusedSimpArgs false
open Go.RowKit
/-- Triangles of a list, their vertices numbered anew. -/
def subS (T : List Tr) (E : List Nat) : List Tr := E.map fun i => ranked (vertsOf T E) (T! T i)
theorem subS_length (T : List Tr) (E : List Nat) : (subS T E).length = E.length := by simp [subS]
theorem tg_ranked (V : List Int) (t : Tr) (j : Nat) : tg (ranked V t) j = rank V (tg t j) := by
  match j with
  | 0 => rfl
  | 1 => rfl
  | _ + 2 => rfl
theorem subS_get (T : List Tr) {E : List Nat} {i e : Nat} (h : E[i]? = some e) : T! (subS T E) i = ranked (vertsOf T E) (T! T e) := by
  simp [T!, subS, List.getD_eq_getElem?_getD, h]
theorem verts_sorted (T : List Tr) (E : List Nat) : (vertsOf T E).Pairwise (· < ·) := uniq_lt _
theorem verts_tg {T : List Tr} {E : List Nat} {i e : Nat} (h : E[i]? = some e) (j : Nat) : tg (T! T e) j ∈ vertsOf T E := verts_mem.2 ⟨e, List.mem_of_getElem? h, by
  unfold hasB tg
  match j with
  | 0 => simp
  | 1 => simp
  | _ + 2 => simp⟩
theorem sorted_ge {V : List Int} (hV : V.Pairwise (· < ·)) (h0 : ∀ x, x ∈ V → 0 ≤ x) : ∀ i (h : i < V.length), (i : Int) ≤ V[i]
  | 0, h => h0 _ (List.getElem_mem h)
  | i + 1, h => by
    have := sorted_ge hV h0 i (by omega)
    have := List.pairwise_iff_getElem.1 hV i (i + 1) (by omega) h (by omega)
    omega
theorem sorted_len {V : List Int} (hV : V.Pairwise (· < ·)) {n : Int} (hn : 0 ≤ n) (h0 : ∀ x, x ∈ V → 0 ≤ x ∧ x < n) : (V.length : Int) ≤ n := by
  by_cases e : V.length = 0
  · omega
  · have h1 := sorted_ge hV (fun x hx => (h0 x hx).1) (V.length - 1) (by omega)
    have h2 := (h0 _ (List.getElem_mem (show V.length - 1 < V.length by omega))).2
    omega
theorem sorted_inj {E : List Nat} (hE : E.Pairwise (· < ·)) {p q a : Nat} (hp : E[p]? = some a) (hq : E[q]? = some a) : p = q := by
  obtain ⟨u1, u2⟩ := List.getElem?_eq_some_iff.1 hp
  obtain ⟨u3, u4⟩ := List.getElem?_eq_some_iff.1 hq
  rcases Nat.lt_trichotomy p q with h | h | h
  · have := List.pairwise_iff_getElem.1 hE p q u1 u3 h; omega
  · exact h
  · have := List.pairwise_iff_getElem.1 hE q p u3 u1 h; omega
theorem rank_inj {V : List Int} (hV : V.Pairwise (· < ·)) {x y : Int} (hx : x ∈ V) (hy : y ∈ V) (h : rank V x = rank V y) : x = y := by
  rw [← (rank_at hV hx).2, ← (rank_at hV hy).2, h]
theorem rank_beq {V : List Int} (hV : V.Pairwise (· < ·)) {x y : Int} (hx : x ∈ V) (hy : y ∈ V) : (rank V x == rank V y) = (x == y) := by
  by_cases h : x = y
  · subst h; simp
  · have : rank V x ≠ rank V y := fun e => h (rank_inj hV hx hy e)
    rw [beq_eq_false_iff_ne.2 h, beq_eq_false_iff_ne.2 this]
theorem rank_get {V : List Int} (hV : V.Pairwise (· < ·)) {i : Nat} (h : i < V.length) : rank V (I! V i) = i := by
  have hm : I! V i ∈ V := mem_I.2 ⟨i, h, rfl⟩
  obtain ⟨h1, h2⟩ := rank_at hV hm
  have h0 := rank_nonneg V (I! V i)
  obtain ⟨r, hr⟩ := Int.eq_ofNat_of_zero_le h0
  rw [hr] at h1 h2
  have hlt : r < V.length := by omega
  simp only [Int.toNat_natCast] at h2
  have e1 : I! V r = V[r] := by simp [I!, List.getD_eq_getElem?_getD, List.getElem?_eq_getElem hlt]
  have e2 : I! V i = V[i] := by simp [I!, List.getD_eq_getElem?_getD, List.getElem?_eq_getElem h]
  rw [e1, e2] at h2
  rw [hr]
  have hp := List.pairwise_iff_getElem.1 hV
  rcases Nat.lt_trichotomy r i with q | q | q
  · have := hp r i hlt h q; omega
  · rw [q]
  · have := hp i r h hlt q; omega
section
variable {T : List Tr} {E : List Nat}
theorem sub_tg_iff {i j e f : Nat} (hi : E[i]? = some e) (hj : E[j]? = some f) (p q : Nat) : tg (T! (subS T E) i) p = tg (T! (subS T E) j) q ↔ tg (T! T e) p = tg (T! T f) q := by
  rw [subS_get T hi, subS_get T hj, tg_ranked, tg_ranked]
  exact ⟨rank_inj (verts_sorted T E) (verts_tg hi p) (verts_tg hj q), fun h => by rw [h]⟩
theorem sub_tri {i e : Nat} (hi : E[i]? = some e) : ∃ x y z : Int, T! T e = (x, y, z) ∧ x ∈ vertsOf T E ∧ y ∈ vertsOf T E ∧ z ∈ vertsOf T E ∧ T! (subS T E) i = (rank (vertsOf T E) x, rank (vertsOf T E) y, rank (vertsOf T E) z) :=
  ⟨_, _, _, rfl, verts_tg hi 0, verts_tg hi 1, verts_tg hi 2, subS_get T hi⟩
theorem sub_hasB {i e : Nat} (hi : E[i]? = some e) {x : Int} (hx : x ∈ vertsOf T E) : hasB (T! (subS T E) i) (rank (vertsOf T E) x) = hasB (T! T e) x := by
  obtain ⟨a, b, c, e1, ha, hb, hc, e2⟩ := sub_tri hi
  rw [e1, e2]
  unfold hasB
  simp only
  rw [rank_beq (verts_sorted T E) ha hx, rank_beq (verts_sorted T E) hb hx, rank_beq (verts_sorted T E) hc hx]
theorem sub_edgeB {i e : Nat} (hi : E[i]? = some e) {x y : Int} (hx : x ∈ vertsOf T E) (hy : y ∈ vertsOf T E) : edgeB (T! (subS T E) i) (rank (vertsOf T E) x) (rank (vertsOf T E) y) = edgeB (T! T e) x y := by
  obtain ⟨a, b, c, e1, ha, hb, hc, e2⟩ := sub_tri hi
  rw [e1, e2]
  unfold edgeB
  simp only
  rw [rank_beq (verts_sorted T E) ha hx, rank_beq (verts_sorted T E) hb hy, rank_beq (verts_sorted T E) hb hx, rank_beq (verts_sorted T E) hc hy, rank_beq (verts_sorted T E) hc hx, rank_beq (verts_sorted T E) ha hy]
theorem sub_loopB {i e : Nat} (hi : E[i]? = some e) : loopB (T! (subS T E) i) = loopB (T! T e) := by
  obtain ⟨a, b, c, e1, ha, hb, hc, e2⟩ := sub_tri hi
  rw [e1, e2]
  unfold loopB
  simp only
  rw [rank_beq (verts_sorted T E) ha hb, rank_beq (verts_sorted T E) hb hc, rank_beq (verts_sorted T E) hc ha]
theorem sub_twB {i j e f : Nat} (hi : E[i]? = some e) (hj : E[j]? = some f) : twB (T! (subS T E) i) (T! (subS T E) j) = twB (T! T e) (T! T f) := by
  obtain ⟨a, b, c, e1, ha, hb, hc, e2⟩ := sub_tri hi
  rw [e1, e2]
  unfold twB
  simp only
  rw [sub_edgeB hj ha hb, sub_edgeB hj hb hc, sub_edgeB hj hc ha]
theorem sub_mirB {i j e f : Nat} (hi : E[i]? = some e) (hj : E[j]? = some f) : mirB (T! (subS T E) i) (T! (subS T E) j) = mirB (T! T e) (T! T f) := by
  obtain ⟨a, b, c, e1, ha, hb, hc, e2⟩ := sub_tri hi
  rw [e1, e2]
  unfold mirB
  simp only
  rw [sub_hasB hj ha, sub_hasB hj hb, sub_hasB hj hc]
theorem sub_nbB {i j e f : Nat} (hi : E[i]? = some e) (hj : E[j]? = some f) : nbB (T! (subS T E) i) (T! (subS T E) j) = true ↔ nbB (T! T e) (T! T f) = true := by
  rw [nbB_iff, nbB_iff]
  constructor
  · rintro ⟨p, q, hp, hq, h1, h2⟩
    exact ⟨p, q, hp, hq, (sub_tg_iff hi hj _ _).1 h1, (sub_tg_iff hi hj _ _).1 h2⟩
  · rintro ⟨p, q, hp, hq, h1, h2⟩
    exact ⟨p, q, hp, hq, (sub_tg_iff hi hj _ _).2 h1, (sub_tg_iff hi hj _ _).2 h2⟩
theorem sub_get? {i : Nat} (h : i < (subS T E).length) : ∃ e, E[i]? = some e := ⟨_, List.getElem?_eq_getElem (by rw [subS_length] at h; exact h)⟩
theorem sub_lt {i e : Nat} (h : E[i]? = some e) : i < (subS T E).length := by
  rw [subS_length]
  exact (List.getElem?_eq_some_iff.1 h).1
/-- All but the triangles round a vertex: a list of triangles of a surface is a surface. -/
theorem sub_surf {N : Int} (hs : Surf N T) (hE : E.Pairwise (· < ·)) (hlt : ∀ e, e ∈ E → e < T.length) (hpin : ∀ v, 0 ≤ v → v < ((vertsOf T E).length : Int) → Unpinched (subS T E) v) : Surf ((vertsOf T E).length : Nat) (subS T E) := by
  have mem : ∀ {i e : Nat}, E[i]? = some e → e < T.length := fun h => hlt _ (List.mem_of_getElem? h)
  have lenE : E.length ≤ T.length := by
    have h1 : (E.map fun (e : Nat) => (e : Int)).Pairwise (· < ·) := List.pairwise_map.2 (hE.imp fun h => by omega)
    have := sorted_len h1 (n := T.length) (by omega) fun x hx => by
      simp only [List.mem_map] at hx
      obtain ⟨e, he, rfl⟩ := hx
      have := hlt e he
      omega
    simp at this
    omega
  have lenV : ((vertsOf T E).length : Int) ≤ N := sorted_len (verts_sorted T E) hs.n0 fun x hx => by
    obtain ⟨e, he, hh⟩ := verts_mem.1 hx
    obtain ⟨j, ej⟩ := hasB_tg hh
    rw [← ej]
    exact hs.vin e (hlt e he) j
  refine ⟨by omega, by have := hs.n1; omega, by rw [subS_length]; have := hs.t1; omega, fun i hi j => ?_, fun i hi => ?_, fun b a hb hab => ?_, fun b a hb hab => ?_, fun v h0 h1 => ?_, hpin⟩
  · obtain ⟨e, he⟩ := sub_get? hi
    rw [subS_get T he, tg_ranked]
    exact ⟨rank_nonneg _ _, (rank_at (verts_sorted T E) (verts_tg he j)).1⟩
  · obtain ⟨e, he⟩ := sub_get? hi
    rw [sub_loopB he]
    exact hs.noloop e (mem he)
  · obtain ⟨e, he⟩ := sub_get? hb
    obtain ⟨f, hf⟩ := sub_get? (show a < (subS T E).length by omega)
    rw [sub_twB hf he]
    refine hs.tw e f (mem he) ?_
    obtain ⟨q1, q2⟩ := List.getElem?_eq_some_iff.1 he
    obtain ⟨q3, q4⟩ := List.getElem?_eq_some_iff.1 hf
    have := List.pairwise_iff_getElem.1 hE a b q3 q1 hab
    omega
  · obtain ⟨e, he⟩ := sub_get? hb
    obtain ⟨f, hf⟩ := sub_get? (show a < (subS T E).length by omega)
    rw [sub_mirB hf he]
    refine hs.mir e f (mem he) ?_
    obtain ⟨q1, q2⟩ := List.getElem?_eq_some_iff.1 he
    obtain ⟨q3, q4⟩ := List.getElem?_eq_some_iff.1 hf
    have := List.pairwise_iff_getElem.1 hE a b q3 q1 hab
    omega
  · obtain ⟨x, hx⟩ := Int.eq_ofNat_of_zero_le h0
    have hxl : x < (vertsOf T E).length := by omega
    have hm : I! (vertsOf T E) x ∈ vertsOf T E := mem_I.2 ⟨x, hxl, rfl⟩
    obtain ⟨e, he, hh⟩ := verts_mem.1 hm
    obtain ⟨i, hi⟩ := List.mem_iff_getElem?.1 he
    refine ⟨i, sub_lt hi, ?_⟩
    rw [hx, ← rank_get (verts_sorted T E) hxl, sub_hasB hi hm]
    exact hh
end
section
variable {N : Int} {T : List Tr} {L : Nat → Int} {m : Nat}
theorem ofShell_sorted (L : Nat → Int) (n k : Nat) : (ofShell L n k).Pairwise (· < ·) := List.pairwise_lt_range.filter _
/-- A shell's part is a surface. -/
theorem part_surf (hs : Surf N T) (hL : IsShells (Adj T) T.length L) (k : Nat) : Surf ((vertsOf T (ofShell L T.length k)).length : Nat) (subS T (ofShell L T.length k)) := by
  refine sub_surf hs (ofShell_sorted _ _ _) (fun e he => (mem_ofShell.1 he).1) fun v h0 h1 => ?_
  obtain ⟨x, hx⟩ := Int.eq_ofNat_of_zero_le h0
  have hxl : x < (vertsOf T (ofShell L T.length k)).length := by omega
  have hm : I! (vertsOf T (ofShell L T.length k)) x ∈ vertsOf T (ofShell L T.length k) := mem_I.2 ⟨x, hxl, rfl⟩
  have hv : v = rank (vertsOf T (ofShell L T.length k)) (I! (vertsOf T (ofShell L T.length k)) x) := by rw [rank_get (verts_sorted _ _) hxl, hx]
  obtain ⟨y, hy⟩ : ∃ y, y = I! (vertsOf T (ofShell L T.length k)) x := ⟨_, rfl⟩
  rw [← hy] at hm hv
  subst hv
  obtain ⟨z, hz, hzh⟩ := verts_mem.1 hm
  have hyN : 0 ≤ y ∧ y < N := by
    obtain ⟨j, ej⟩ := hasB_tg hzh
    rw [← ej]
    exact hs.vin z (mem_ofShell.1 hz).1 j
  have inE : ∀ a, a < T.length → hasB (T! T a) y = true → ∃ p : Nat, (ofShell L T.length k)[p]? = some a := fun a ha hh => by
    have := hs.at_vertex hL ha (mem_ofShell.1 hz).1 hh hzh
    exact List.mem_iff_getElem?.1 (mem_ofShell.2 ⟨ha, this.trans (mem_ofShell.1 hz).2⟩)
  have step : ∀ {a b p q : Nat}, (ofShell L T.length k)[p]? = some a → (ofShell L T.length k)[q]? = some b → PAdj T y a b → PAdj (subS T (ofShell L T.length k)) (rank (vertsOf T (ofShell L T.length k)) y) p q := fun {a b p q} hp hq h => by
    obtain ⟨ha, hb, h1, h2, j, hj, hne, h3⟩ := h
    refine ⟨sub_lt hp, sub_lt hq, by rw [sub_hasB hp hm]; exact h1, by rw [sub_hasB hq hm]; exact h2, j, hj, ?_, ?_⟩
    · rw [subS_get T hp, tg_ranked]
      exact fun e => hne (rank_inj (verts_sorted _ _) (verts_tg hp j) hm e)
    · rw [subS_get T hp, tg_ranked, sub_hasB hq (verts_tg hp j)]
      exact h3
  intro i i' hi hi' g1 g2
  obtain ⟨e, he⟩ := sub_get? hi
  obtain ⟨f, hf⟩ := sub_get? hi'
  rw [sub_hasB he hm] at g1
  rw [sub_hasB hf hm] at g2
  have hc := hs.pin y hyN.1 hyN.2 e f (mem_ofShell.1 (List.mem_of_getElem? he)).1 (mem_ofShell.1 (List.mem_of_getElem? hf)).1 g1 g2
  have gen : ∀ a b, Conn (PAdj T y) a b → ∀ p, (ofShell L T.length k)[p]? = some a → ∀ q, (ofShell L T.length k)[q]? = some b → Conn (PAdj (subS T (ofShell L T.length k)) (rank (vertsOf T (ofShell L T.length k)) y)) p q := by
    intro a b c
    induction c with
    | refl =>
      intro p hp q hq
      obtain rfl := sorted_inj (ofShell_sorted L T.length k) hp hq
      exact .refl _
    | step _ s ih =>
      intro p hp q hq
      obtain ⟨r, hr⟩ := inE _ s.1 s.2.2.1
      exact (ih p hp r hr).step (step hr hq s)
    | back _ s ih =>
      intro p hp q hq
      obtain ⟨r, hr⟩ := inE _ s.2.1 s.2.2.2.1
      exact (ih p hp r hr).back (step hq hr s)
  exact gen e f hc i he i' hf
theorem has_shell {A : Nat → Nat → Prop} {n : Nat} (hL : IsShells A n L) (hm : (m : Int) = cnt L n) {k : Nat} (hk : k < m) : ∃ i, i < n ∧ L i = (k : Int) := by
  obtain ⟨i, hi, e⟩ := cnt_has L n (by omega)
  by_cases h : L i = (k : Int)
  · exact ⟨i, hi, h⟩
  · obtain ⟨j, hj, e'⟩ := hL.rg i hi k (by omega) (by omega)
    exact ⟨j, by omega, e'⟩
/-- It has one shell. -/
theorem part_one (hs : Surf N T) (hL : IsShells (Adj T) T.length L) (hm : (m : Int) = cnt L T.length) {k : Nat} (hk : k < m) {M : Nat → Int} (hM : IsShells (Adj (subS T (ofShell L T.length k))) (subS T (ofShell L T.length k)).length M) :
    cnt M (subS T (ofShell L T.length k)).length = 1 := by
  have hp := part_surf hs hL k
  have step : ∀ {a b p q : Nat}, (ofShell L T.length k)[p]? = some a → (ofShell L T.length k)[q]? = some b → Adj T a b → Adj (subS T (ofShell L T.length k)) p q := fun {a b p q} hp' hq h => by
    refine hp.nb_adj ⟨sub_lt hp', sub_lt hq, (sub_nbB hp' hq).2 (hs.adj_nb h).2.2⟩
  have inE : ∀ a b, L a = k → Adj T a b → ∃ p : Nat, (ofShell L T.length k)[p]? = some b := fun a b ha h => by
    obtain ⟨h1, h2, _⟩ := hs.adj_nb h
    exact List.mem_iff_getElem?.1 (mem_ofShell.2 ⟨h2, (hL.clo a b h1 h2 h).trans ha⟩)
  have same : ∀ p q a b, (ofShell L T.length k)[p]? = some a → (ofShell L T.length k)[q]? = some b → Conn (Adj T) a b → M p = M q := by
    have gen : ∀ a b, Conn (Adj T) a b → ∀ p, (ofShell L T.length k)[p]? = some a → ∀ q, (ofShell L T.length k)[q]? = some b → M p = M q := by
      intro a b c
      induction c with
      | refl =>
        intro p hp q hq
        obtain rfl := sorted_inj (ofShell_sorted L T.length k) hp hq
        rfl
      | step _ s ih =>
        intro p hp' q hq
        obtain ⟨r, hr⟩ := inE _ _ ((mem_ofShell.1 (List.mem_of_getElem? hq)).2) (hs.adj_symm s)
        exact (ih p hp' r hr).trans (hM.clo r q (sub_lt hr) (sub_lt hq) (step hr hq s)).symm
      | back _ s ih =>
        intro p hp' q hq
        obtain ⟨r, hr⟩ := inE _ _ ((mem_ofShell.1 (List.mem_of_getElem? hq)).2) s
        exact (ih p hp' r hr).trans (hM.clo q r (sub_lt hq) (sub_lt hr) (step hq hr s))
    exact fun p q a b h1 h2 c => gen a b c p h1 q h2
  have all : ∀ p q, p < (subS T (ofShell L T.length k)).length → q < (subS T (ofShell L T.length k)).length → M p = M q := fun p q h1 h2 => by
    obtain ⟨a, ha⟩ := sub_get? h1
    obtain ⟨b, hb⟩ := sub_get? h2
    have ma := mem_ofShell.1 (List.mem_of_getElem? ha)
    have mb := mem_ofShell.1 (List.mem_of_getElem? hb)
    exact same p q a b ha hb (hL.con a b ma.1 mb.1 (ma.2.trans mb.2.symm))
  have zero : ∀ p, p < (subS T (ofShell L T.length k)).length → M p = 0 := fun p h1 => by
    have h0 := hM.nonneg p h1
    by_cases e : M p = 0
    · exact e
    · obtain ⟨j, hj, e'⟩ := hM.rg p h1 0 (by omega) (by omega)
      have := all j p (by omega) h1
      omega
  obtain ⟨i, hi, ei⟩ := has_shell hL hm hk
  obtain ⟨p, hp'⟩ := List.mem_iff_getElem?.1 (mem_ofShell.2 ⟨hi, ei⟩)
  have h1 := cnt_lt M _ p (sub_lt (T := T) hp')
  rw [zero p (sub_lt hp')] at h1
  obtain ⟨q, hq, eq⟩ := cnt_has M (subS T (ofShell L T.length k)).length (by omega)
  rw [zero q hq] at eq
  omega
theorem part_is_sub (k : Nat) : (partOf T L T.length k).S = subS T (ofShell L T.length k) ∧ (partOf T L T.length k).N = ((vertsOf T (ofShell L T.length k)).length : Nat) := ⟨rfl, rfl⟩
end
end Go.Proofs.Ytkggphfekeiejaa

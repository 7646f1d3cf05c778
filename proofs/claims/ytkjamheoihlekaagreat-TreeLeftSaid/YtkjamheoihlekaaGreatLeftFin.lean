/- Plain law: what is left over of a surface of one shell. -/
import Derived.Test.YtkjamheoihlekaaGreatLeftLaw
import Derived.Test.YtkjamheoihlekaaGreatSeenLaw
import Derived.Test.YtkjamheoihlekaaGreatShellOf
namespace Go.Proofs.YtkjamheoihlekaaGreat
set_option linter.unusedVariables false
set_option linter.unusedSimpArgs false
section
variable {N : Int} {T : List Tr} (hs : Surf N T) {f : Nat} (hf : f < 3 * T.length)
include hs hf
theorem bfs_I : BfI T f (bfs T f) := bfs_inv hs hf _
theorem reach_all {L : Nat → Int} (hL : IsShells (Adj T) T.length L) (one : ∀ i j, i < T.length → j < T.length → L i = L j) : ∀ t, t < T.length → t ∈ (bfs T f).o := by
  intro t ht
  have hI := bfs_I hs hf
  have hc := hL.con (f / 3) t (by omega) ht (one _ _ (by omega) ht)
  have step : ∀ i j, i ∈ (bfs T f).o → Adj T i j → j ∈ (bfs T f).o := by
    rintro i j hi ⟨k, hk, h0, hj⟩
    have hiF := hI.lt i hi
    have e : (3 * (i : Int) + k) = ((3 * i + k : Nat) : Int) := by omega
    rw [e] at h0 hj
    obtain ⟨o, ho, -⟩ := hs.opp_opp (c := 3 * i + k) (by omega) h0
    rw [ho, Int.toNat_natCast] at hj
    rw [← hj]
    exact bfs_closed hs hf (c := 3 * i + k) (by omega) (by rw [show (3 * i + k) / 3 = i by omega]; exact hi) ho
  induction hc with
  | refl => exact hI.hdm
  | step _ a ih =>
    rename_i j k _
    have hj : j < T.length := by
      obtain ⟨q, -⟩ := hs.adj_nb a
      exact q
    exact step _ _ (ih hj) a
  | back _ a ih =>
    rename_i j k _
    have hj : j < T.length := by
      obtain ⟨-, q, -⟩ := hs.adj_nb a
      exact q
    exact step _ _ (ih hj) (hs.adj_symm a)
variable {D : List (Int × Int)} (hn : D.Nodup) (hD : ∀ e, e ∈ D ↔ restB T (bfs T f) e)
omit hf in
theorem ukey_lt {c : Nat} (hc : c < 3 * T.length) : (ukey T c).1 < (ukey T c).2 := by
  have h := (vt_ne18 hs hc).2.2
  unfold ukey
  simp only
  omega
include hn hD in
omit hf in
theorem rest_right : RightE D := ⟨fun e he => by
  obtain ⟨⟨c, hc, -, rfl⟩, -⟩ := (hD e).1 he
  exact ukey_lt hs hc, hn⟩
include hD in
omit hs hf in
theorem conn_l {a b : Nat} (h : Conn (EAdj (restB T (bfs T f))) a b) : LConn D (a : Int) (b : Int) := by
  induction h with
  | refl => exact .refl _
  | step _ s ih => exact ih.step (.inl ((hD _).2 s))
  | back _ s ih => exact ih.step (.inr ((hD _).2 s))
omit hs hf in
theorem ukey_ends {c : Nat} {u : Int} (h : u = (ukey T c).1 ∨ u = (ukey T c).2) : u = vt T (nxn c : Nat) ∨ u = vt T (pvn c : Nat) := by
  unfold ukey at h
  simp only at h
  omega
include hD in
omit hs hf in
theorem vert_corner {u : Int} (h : u ∈ vertsE D) : ∃ x : Nat, x < 3 * T.length ∧ x / 3 ∈ (bfs T f).o ∧ u = vt T (x : Nat) := by
  obtain ⟨e, he, hu⟩ := vertsE_mem.1 h
  obtain ⟨⟨c, hc, hco, rfl⟩, -⟩ := (hD e).1 he
  rcases ukey_ends hu with q | q
  · exact ⟨nxn c, nxn_lt hc, by rw [nxn_div]; exact hco, q⟩
  · exact ⟨pvn c, pvn_lt hc, by rw [pvn_div]; exact hco, q⟩
include hD in
theorem corner_conn {x y : Nat} (hx : x < 3 * T.length) (hy : y < 3 * T.length) (hxo : x / 3 ∈ (bfs T f).o) (hyo : y / 3 ∈ (bfs T f).o) : LConn D (vt T (x : Nat)) (vt T (y : Nat)) := by
  have h := conn_l hD (left_all hs hf T.length x y hx hy hxo hyo)
  have a := hs.vin.vt (c := (x : Nat)) (by omega) (by omega)
  have b := hs.vin.vt (c := (y : Nat)) (by omega) (by omega)
  rwa [Int.toNat_of_nonneg a.1, Int.toNat_of_nonneg b.1] at h
include hD in
theorem rest_conn : ConnE D := by
  intro u v hu hv
  obtain ⟨x, x1, x2, rfl⟩ := vert_corner hD hu
  obtain ⟨y, y1, y2, rfl⟩ := vert_corner hD hv
  exact corner_conn hs hf hD x1 y1 x2 y2
omit hs hf in
theorem LConn.ends {X : List (Int × Int)} {a b : Int} (h : LConn X a b) (hne : a ≠ b) : a ∈ vertsE X := by
  have h' := h.symm
  cases h' with
  | refl => exact absurd rfl hne
  | step _ s =>
    rcases s with s | s
    · exact vertsE_mem.2 ⟨_, s, .inr rfl⟩
    · exact vertsE_mem.2 ⟨_, s, .inl rfl⟩
include hD in
theorem corner_vert {x : Nat} (hx : x < 3 * T.length) (hxo : x / 3 ∈ (bfs T f).o) : vt T (x : Nat) ∈ vertsE D := by
  have h := corner_conn hs hf hD hx (nxn_lt hx) hxo (by rw [nxn_div]; exact hxo)
  exact LConn.ends h (vt_ne18 hs hx).1
include hD in
theorem rest_verts (all : ∀ t, t < T.length → t ∈ (bfs T f).o) {v : Int} : v ∈ vertsE D ↔ 0 ≤ v ∧ v < N := by
  constructor
  · intro h
    obtain ⟨x, x1, x2, rfl⟩ := vert_corner hD h
    exact hs.vin.vt (by omega) (by omega)
  · rintro ⟨h0, h1⟩
    obtain ⟨i, hi, hb⟩ := hs.used v h0 h1
    have : ∃ j : Nat, j < 3 ∧ tg (T! T i) j = v := by
      unfold hasB at hb
      simp only [Bool.or_eq_true, beq_iff_eq] at hb
      rcases hb with (q | q) | q
      · exact ⟨0, by omega, q⟩
      · exact ⟨1, by omega, q⟩
      · exact ⟨2, by omega, q⟩
    obtain ⟨j, hj, hv⟩ := this
    have he := vt_tri T i j hj
    rw [hv] at he
    have e : (3 * (i : Int) + j) = ((3 * i + j : Nat) : Int) := by omega
    rw [e] at he
    rw [← he]
    exact corner_vert hs hf hD (x := 3 * i + j) (by omega) (all _ (by omega))
include hD in
theorem verts_len (all : ∀ t, t < T.length → t ∈ (bfs T f).o) : ((vertsE D).length : Int) = N := by
  have hv := fun v => rest_verts hs hf hD all (v := v)
  have hn1 : ((List.range N.toNat).map fun i : Nat => (i : Int)).Nodup := by
    rw [List.nodup_iff_pairwise_ne, List.pairwise_map]
    refine List.Pairwise.imp (fun {a b} hab => ?_) List.pairwise_lt_range
    omega
  have e1 := sub_len18 (vertsE D) ((List.range N.toNat).map fun i : Nat => (i : Int)) (vertsE_nodup _) fun x hx => by
    obtain ⟨a, b⟩ := (hv x).1 hx
    exact List.mem_map.2 ⟨x.toNat, by simp; omega, by omega⟩
  have e2 := sub_len18 ((List.range N.toNat).map fun i : Nat => (i : Int)) (vertsE D) hn1 fun x hx => by
    obtain ⟨i, hi, rfl⟩ := List.mem_map.1 hx
    simp at hi
    exact (hv _).2 ⟨by omega, by omega⟩
  simp at e1 e2
  have := hs.n0
  omega
/-- The edges that links face, one by one. -/
def facedL (T : List Tr) (f : Nat) : List (Int × Int) := ((bfs T f).o.filter fun t => decide (t ≠ f / 3)).map fun t => ukey T ((bfs T f).l t).toNat
theorem link_c {t : Nat} (ht : t ∈ (bfs T f).o) (hne : t ≠ f / 3) : ∃ c : Nat, (bfs T f).l t = c ∧ c < 3 * T.length ∧ c / 3 = t := by
  obtain ⟨c, h1, h2, h3, -⟩ := (bfs_I hs hf).lk t ht hne
  exact ⟨c, h1, h2, h3⟩
theorem facedL_mem {e : Int × Int} : e ∈ facedL T f ↔ facedB T (bfs T f) e := by
  unfold facedL facedB
  rw [List.mem_map]
  constructor
  · rintro ⟨t, ht, rfl⟩
    obtain ⟨h1, h2⟩ := List.mem_filter.1 ht
    obtain ⟨c, c1, -⟩ := link_c hs hf h1 (by simpa using h2)
    exact ⟨t, c, h1, c1, by rw [c1]; rfl⟩
  · rintro ⟨t, c, h1, h2, rfl⟩
    refine ⟨t, List.mem_filter.2 ⟨h1, ?_⟩, by rw [h2]; rfl⟩
    have : t ≠ f / 3 := by
      rintro rfl
      rw [(bfs_I hs hf).rt] at h2
      omega
    simpa using this
theorem facedL_nodup : (facedL T f).Nodup := by
  have hI := bfs_I hs hf
  unfold facedL
  rw [List.nodup_iff_pairwise_ne, List.pairwise_map]
  refine List.Pairwise.imp_of_mem (fun {a b} ha hb hab e => ?_) (hI.nd.filter _)
  obtain ⟨a1, a2⟩ := List.mem_filter.1 ha
  obtain ⟨b1, b2⟩ := List.mem_filter.1 hb
  obtain ⟨c, c1, -⟩ := link_c hs hf a1 (by simpa using a2)
  obtain ⟨d, d1, -⟩ := link_c hs hf b1 (by simpa using b2)
  rw [c1, d1] at e
  exact hab (faced_inj hs hf a1 b1 c1 d1 e)
theorem facedL_len : (facedL T f).length + 1 = (bfs T f).o.length := by
  have hI := bfs_I hs hf
  unfold facedL
  rw [List.length_map]
  have : ∀ l : List Nat, l.Nodup → f / 3 ∈ l → (l.filter fun t => decide (t ≠ f / 3)).length + 1 = l.length := by
    intro l hl hm
    induction l with
    | nil => cases hm
    | cons a l ih =>
      have hl' := List.nodup_cons.1 hl
      by_cases e : a = f / 3
      · have : (l.filter fun t => decide (t ≠ f / 3)) = l := List.filter_eq_self.2 fun x hx => by
          have : x ≠ f / 3 := fun q => hl'.1 (e ▸ q ▸ hx)
          simpa using this
        rw [List.filter_cons, if_neg (by simpa using e), this]
        rfl
      · have hm' : f / 3 ∈ l := by
          rcases List.mem_cons.1 hm with q | q
          · exact absurd q.symm e
          · exact q
        rw [List.filter_cons, if_pos (by simpa using e), List.length_cons, List.length_cons, ih hl'.2 hm']
  exact this _ hI.nd hI.hdm
include hn hD in
/-- What is left and what is faced are all edges. -/
theorem rest_all {K : List (Int × Int)} (hK : K.Nodup) (hKm : ∀ e, e ∈ K ↔ ∃ c, c < 3 * T.length ∧ e = ukey T c) (all : ∀ t, t < T.length → t ∈ (bfs T f).o) :
    (D ++ facedL T f).Nodup ∧ (∀ e, e ∈ D ++ facedL T f ↔ e ∈ K) ∧ D.length + (facedL T f).length = K.length := by
  have hI := bfs_I hs hf
  have nd : (D ++ facedL T f).Nodup := by
    refine List.nodup_append.2 ⟨hn, facedL_nodup hs hf, fun a ha b hb e => ?_⟩
    subst e
    exact ((hD a).1 ha).2 ((facedL_mem hs hf).1 hb)
  have hm : ∀ e, e ∈ D ++ facedL T f ↔ e ∈ K := by
    intro e
    rw [List.mem_append, hD, facedL_mem hs hf, hKm]
    constructor
    · rintro (⟨⟨c, h1, -, h2⟩, -⟩ | ⟨t, c, h1, h2, h3⟩)
      · exact ⟨c, h1, h2⟩
      · have hne : t ≠ f / 3 := by
          rintro rfl
          rw [hI.rt] at h2
          omega
        obtain ⟨d, d1, d2, -⟩ := link_c hs hf h1 hne
        obtain rfl : d = c := by omega
        exact ⟨d, d2, h3⟩
    · rintro ⟨c, h1, h2⟩
      by_cases h : facedB T (bfs T f) e
      · exact .inr h
      · exact .inl ⟨⟨c, h1, all _ (by omega), h2⟩, h⟩
  refine ⟨nd, hm, ?_⟩
  have a := sub_len18 _ _ nd fun x hx => (hm x).1 hx
  have b := sub_len18 _ _ hK fun x hx => (hm x).2 hx
  rw [List.length_append] at a b
  omega
/-- All triangles but one have links. -/
theorem order_len (all : ∀ t, t < T.length → t ∈ (bfs T f).o) : (bfs T f).o.length = T.length := by
  have hI := bfs_I hs hf
  have := sub_len18 (List.range T.length) (bfs T f).o List.nodup_range fun x hx => all x (by simpa using hx)
  have h2 := hI.len
  simp at this
  omega
end
end Go.Proofs.YtkjamheoihlekaaGreat

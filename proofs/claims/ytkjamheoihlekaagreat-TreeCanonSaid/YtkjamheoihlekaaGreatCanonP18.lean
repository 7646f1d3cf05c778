/- Plain law: what gypsumlaw18.TreeCanon lays down is a renumbering. -/
import Derived.Test.YtkjamheoihlekaaGreatCanonLaw
import Derived.Test.YtkjamheoihlekaaGreatPathLaw
import Derived.Test.YtkjamheoihlekaaGreatEachC18
namespace Go.Proofs.YtkjamheoihlekaaGreat
set_option linter.unusedVariables false
set_option linter.unusedSimpArgs false
theorem tg_big18 (t : Tr) (j : Nat) : ∃ j', j' < 3 ∧ tg t j = tg t j' := by
  obtain ⟨x, y, z⟩ := t
  match j with
  | 0 => exact ⟨0, by omega, rfl⟩
  | 1 => exact ⟨1, by omega, rfl⟩
  | j + 2 => exact ⟨2, by omega, rfl⟩
theorem turn_zero (c : Nat) : turn c 0 = c := by unfold turn; omega
theorem turn_one (c : Nat) : turn c 1 = nxn c := by unfold turn nxn; omega
theorem turn_two (c : Nat) : turn c 2 = pvn c := by unfold turn pvn; omega
theorem turn_of {c d : Nat} (h : d / 3 = c / 3) : ∃ j, j < 3 ∧ d = turn c j := ⟨(d % 3 + 3 - c % 3) % 3, by omega, by unfold turn; omega⟩
theorem turn_inj {c j k : Nat} (hj : j < 3) (hk : k < 3) (h : turn c j = turn c k) : j = k := by unfold turn at h; omega
/-- Where the corners of the first i triangles lie. -/
structure Plc (F : Nat) (C : Nat → Nat) (i : Nat) (pl : Nat → Int) : Prop where
  cor : ∀ k, k < i → C k < 3 * F
  set : ∀ k j, k < i → j < 3 → pl (turn (C k) j) = ((3 * k + j : Nat) : Int)
  un : ∀ c, c < 3 * F → pl c = -1 ∨ ∃ k j, k < i ∧ j < 3 ∧ c = turn (C k) j
theorem Plc.start (F : Nat) (C : Nat → Nat) : Plc F C 0 (fun _ => -1) := ⟨fun k h => by omega, fun k j h => by omega, fun c _ => .inl rfl⟩
def up3 (pl : Nat → Int) (x i : Nat) : Nat → Int := fun c => if c = pvn x then ((3 * i + 2 : Nat) : Int) else if c = nxn x then ((3 * i + 1 : Nat) : Int) else if c = x then ((3 * i : Nat) : Int) else pl c
theorem up3_turn (pl : Nat → Int) (x i : Nat) {j : Nat} (hj : j < 3) : up3 pl x i (turn x j) = ((3 * i + j : Nat) : Int) := by
  unfold up3
  rcases (by omega : j = 0 ∨ j = 1 ∨ j = 2) with rfl | rfl | rfl
  · rw [turn_zero, if_neg (by unfold pvn; omega), if_neg (by unfold nxn; omega), if_pos rfl]; simp
  · rw [turn_one, if_neg (by unfold pvn nxn; omega), if_pos rfl]
  · rw [turn_two, if_pos rfl]
theorem up3_else (pl : Nat → Int) (x i : Nat) {c : Nat} (h : c / 3 ≠ x / 3) : up3 pl x i c = pl c := by
  unfold up3
  rw [if_neg (by unfold pvn; omega), if_neg (by unfold nxn; omega), if_neg (by intro e; exact h (by rw [e]))]
theorem Plc.put {F : Nat} {C : Nat → Nat} {i : Nat} {pl : Nat → Int} (h : Plc F C i pl) (hx : C i < 3 * F) (hn : pl (C i) < 0) : Plc F C (i + 1) (up3 pl (C i) i) := by
  have hne : ∀ k, k < i → C k / 3 ≠ C i / 3 := fun k hk e => by
    obtain ⟨j, hj, e2⟩ := turn_of (c := C k) (d := C i) e.symm
    have := h.set k j hk hj
    rw [← e2] at this
    omega
  refine ⟨fun k hk => ?_, fun k j hk hj => ?_, fun c hc => ?_⟩
  · by_cases e : k = i
    · rw [e]; exact hx
    · exact h.cor k (by omega)
  · by_cases e : k = i
    · rw [e]; exact up3_turn pl _ i hj
    · rw [up3_else pl (C i) i (by rw [turn_div]; exact hne k (by omega))]
      exact h.set k j (by omega) hj
  · by_cases e : c / 3 = C i / 3
    · obtain ⟨j, hj, e2⟩ := turn_of e
      exact .inr ⟨i, j, by omega, hj, e2⟩
    · rw [up3_else pl (C i) i e]
      rcases h.un c hc with q | ⟨k, j, h1, h2, h3⟩
      · exact .inl q
      · exact .inr ⟨k, j, by omega, h2, h3⟩
theorem vt_rn18 {r : Int → Int} {T : List Tr} {c : Nat} (hc : c < 3 * T.length) : vt (rnT r T) (c : Nat) = r (vt T (c : Nat)) := by
  rw [vt_nat3, vt_nat3, rnT_get r T (by omega), tg_rn]
theorem pick_fit {n : Nat} {T : List Tr} {C : List Nat} (hs : Surf n T) (hC : ∀ c ∈ C, c < 3 * T.length) (hl : C.length ≤ 8192) : FitS n (pickT T C) where
  n0 := hs.n0
  n1 := hs.n1
  t1 := by rw [pick_len]; exact hl
  vin i hi j := by
    rw [pick_len] at hi
    have hc := hC _ (getD_mem18 hi)
    obtain ⟨j', hj', e⟩ := tg_big18 (rotT T (C.getD i 0)) j
    rw [pick_get T hi, e, tg_rot T _ hj']
    refine hs.vin.vt (by omega) ?_
    have := turn_div (C.getD i 0) j'
    omega
  noloop i hi := by
    rw [pick_len] at hi
    have hc := hC _ (getD_mem18 hi)
    rw [pick_get T hi]
    have hl := hs.noloop (C.getD i 0 / 3) (by omega)
    generalize C.getD i 0 = c at *
    have e : ∀ j, j < 3 → vt T (turn c j : Nat) = tg (T! T (c / 3)) ((c % 3 + j) % 3) := fun j hj => by
      rw [vt_nat3, turn_div]
      unfold turn
      congr 1
      omega
    unfold rotT
    rw [e 0 (by omega), e 1 (by omega), e 2 (by omega)]
    generalize T! T (c / 3) = t at *
    obtain ⟨a, b, d⟩ := t
    rcases (by omega : c % 3 = 0 ∨ c % 3 = 1 ∨ c % 3 = 2) with q | q | q <;> rw [q] <;> simp [loopB, tg] at hl ⊢ <;> omega
section
variable {F : Nat} {C : Nat → Nat} {pl : Nat → Int} (h : Plc F C F pl)
include h
theorem Plc.one {k k' : Nat} (hk : k < F) (hk' : k' < F) (e : C k / 3 = C k' / 3) : k = k' := by
  obtain ⟨j, hj, e2⟩ := turn_of (c := C k) (d := C k') e.symm
  have a := h.set k j hk hj
  have b := h.set k' 0 hk' (by omega)
  rw [turn_zero] at b
  rw [← e2] at a
  omega
theorem Plc.all {c : Nat} (hc : c < 3 * F) : ∃ k j, k < F ∧ j < 3 ∧ c = turn (C k) j := by
  have hnd : ((List.range F).map fun k => C k / 3).Nodup := by
    rw [List.nodup_iff_pairwise_ne, List.pairwise_map]
    refine List.Pairwise.imp_of_mem (fun {a b} ha hb hab e => ?_) List.pairwise_lt_range
    have := h.one (List.mem_range.1 ha) (List.mem_range.1 hb) e
    omega
  have hsub : ((List.range F).map fun k => C k / 3) ⊆ List.range F := fun t ht => by
    obtain ⟨k, hk, rfl⟩ := List.mem_map.1 ht
    have := h.cor k (List.mem_range.1 hk)
    simp
    omega
  have hall : c / 3 ∈ (List.range F).map fun k => C k / 3 := by
    apply Classical.byContradiction
    intro hno
    have hnd2 : (c / 3 :: (List.range F).map fun k => C k / 3).Nodup := List.nodup_cons.2 ⟨hno, hnd⟩
    have := hnd2.length_le_of_subset (l₂ := List.range F) fun t ht => by
      rcases List.mem_cons.1 ht with rfl | ht
      · simp; omega
      · exact hsub ht
    simp at this
    omega
  obtain ⟨k, hk, e⟩ := List.mem_map.1 hall
  obtain ⟨j, hj, e2⟩ := turn_of (c := C k) (d := c) e.symm
  exact ⟨k, j, List.mem_range.1 hk, hj, e2⟩
/-- The place of each corner. -/
theorem Plc.place {c : Nat} (hc : c < 3 * F) : pl c = (((pl c).toNat : Nat) : Int) ∧ (pl c).toNat < 3 * F := by
  obtain ⟨k, j, hk, hj, rfl⟩ := h.all hc
  rw [h.set k j hk hj]
  omega
theorem Plc.canon {n : Nat} {T : List Tr} {J : List Int} {ρ : Int → Int} (hF : F = T.length) (hJ : J.length = F) (hC : ∀ k, k < F → C k = (I! J k).toNat) (s1 : Surf n T) (hr : Names n ρ) (s2 : Surf n (rnT ρ (pickT T (J.map Int.toNat)))) : Canon18 n T (rnT ρ (pickT T (J.map Int.toNat))) (fun c => (pl c).toNat) ρ where
  s1 := s1
  s2 := s2
  len := by rw [rnT_len, pick_len, List.length_map, hJ, hF]
  lt c hc := by rw [← hF] at hc ⊢; exact (h.place hc).2
  inj c d hc hd e := by
    rw [← hF] at hc hd
    obtain ⟨k, j, hk, hj, rfl⟩ := h.all hc
    obtain ⟨k', j', hk', hj', rfl⟩ := h.all hd
    simp only [h.set k j hk hj, h.set k' j' hk' hj', Int.toNat_natCast] at e
    obtain rfl : k = k' := by omega
    obtain rfl : j = j' := by omega
    rfl
  sur y hy := by
    rw [← hF] at hy
    have hk : y / 3 < F := by omega
    have hj : y % 3 < 3 := by omega
    refine ⟨turn (C (y / 3)) (y % 3), ?_, ?_⟩
    · have := h.cor _ hk
      have := turn_div (C (y / 3)) (y % 3)
      rw [← hF]
      omega
    · simp only [h.set _ _ hk hj, Int.toNat_natCast]
      omega
  nx c hc := by
    rw [← hF] at hc
    obtain ⟨k, j, hk, hj, rfl⟩ := h.all hc
    show (pl (nxn (turn (C k) j))).toNat = nxn (pl (turn (C k) j)).toNat
    rw [← turn_nxn, h.set k _ hk (by omega), h.set k j hk hj]
    simp only [Int.toNat_natCast]
    unfold nxn
    omega
  vr c hc := by
    rw [← hF] at hc
    obtain ⟨k, j, hk, hj, rfl⟩ := h.all hc
    simp only [h.set k j hk hj, Int.toNat_natCast]
    have hl : 3 * k + j < 3 * (J.map Int.toNat).length := by rw [List.length_map, hJ]; omega
    have hkJ : k < J.length := by omega
    have e1 : vt (rnT ρ (pickT T (J.map Int.toNat))) ((3 * k + j : Nat) : Int) = ρ (vt (pickT T (J.map Int.toNat)) ((3 * k + j : Nat) : Int)) := vt_rn18 (by rw [pick_len]; exact hl)
    rw [e1, vt_pick hl, show (3 * k + j) / 3 = k by omega, show (3 * k + j) % 3 = j by omega]
    have e2 : (J.map Int.toNat).getD k 0 = C k := by rw [hC k hk]; simp [I!, hkJ]
    rw [e2]
  rin u v u0 u1 v0 v1 e := hr.inj u v u0 u1 v0 v1 e
end
theorem flatE_rho (ρ : Int → Int) (e : Int × Int) : flatE (ρ e.1) (ρ e.2) = (min (ρ e.1) (ρ e.2), max (ρ e.1) (ρ e.2)) := rfl
theorem Canon18.same {N : Int} {T U : List Tr} {φ : Nat → Nat} {ρ : Int → Int} (h : Canon18 N T U φ ρ) {f : Nat} (hf : f < 3 * T.length) {D D' : List (Int × Int)} (h1 : D.Nodup) (h2 : ∀ a, a ∈ D ↔ restB T (bfs T f) a) (h1' : D'.Nodup) (h2' : ∀ a, a ∈ D' ↔ restB U (bfs U (φ f)) a) : D.length = D'.length ∧ ∀ e, e ∈ D → flatE (ρ e.1) (ρ e.2) ∈ D' := by
  have key : ∀ e, e ∈ D → ∃ c, c < 3 * T.length ∧ e = ukey T c ∧ flatE (ρ e.1) (ρ e.2) = ukey U (φ c) ∧ flatE (ρ e.1) (ρ e.2) ∈ D' := fun e he => by
    have hr := (h2 e).1 he
    obtain ⟨⟨c, hc, -, rfl⟩, -⟩ := id hr
    have hu : flatE (ρ (ukey T c).1) (ρ (ukey T c).2) = ukey U (φ c) := h.uflat hc
    exact ⟨c, hc, rfl, hu, by rw [hu, h2']; exact (h.rest hf hc).2 hr⟩
  have hnd : (D.map fun e => flatE (ρ e.1) (ρ e.2)).Nodup := by
    rw [List.nodup_iff_pairwise_ne, List.pairwise_map]
    refine List.Pairwise.imp_of_mem (fun {a b} ha hb hab e => ?_) (List.nodup_iff_pairwise_ne.1 h1)
    obtain ⟨c, hc, rfl, q1, -⟩ := key a ha
    obtain ⟨d, hd, rfl, q2, -⟩ := key b hb
    rw [q1, q2] at e
    exact hab (h.uk_inj hc hd e)
  have le1 := hnd.length_le_of_subset (l₂ := D') fun x hx => by
    obtain ⟨e, he, rfl⟩ := List.mem_map.1 hx
    obtain ⟨-, -, -, -, q⟩ := key e he
    exact q
  have le2 := h1'.length_le_of_subset (l₂ := D.map fun e => flatE (ρ e.1) (ρ e.2)) fun x hx => by
    have hr := (h2' x).1 hx
    obtain ⟨⟨y, hy, -, rfl⟩, -⟩ := id hr
    obtain ⟨c, hc, rfl⟩ := h.sur y (by rw [← h.len]; exact hy)
    have hr2 := (h.rest hf hc).1 hr
    exact List.mem_map.2 ⟨ukey T c, (h2 _).2 hr2, h.uflat hc⟩
  rw [List.length_map] at le1 le2
  refine ⟨by omega, fun e he => ?_⟩
  obtain ⟨-, -, -, -, q⟩ := key e he
  exact q
end Go.Proofs.YtkjamheoihlekaaGreat

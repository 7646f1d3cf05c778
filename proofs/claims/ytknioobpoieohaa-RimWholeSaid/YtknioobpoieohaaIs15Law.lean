/- Plain laws: what gypsumref15.Is looks at, and surfaces. -/
import Derived.Test.YtknioobpoieohaaFanLaw
import Derived.Test.YtknioobpoieohaaCertKeysLaw
namespace Go.Proofs.Ytknioobpoieohaa
set_option linter.unusedVariables false
set_option linter.unusedSimpArgs false
open Go.RowKit
def dirB (t u : Tr) (x y : Nat) : Bool := tg t x == tg u y && tg t ((x + 1) % 3) == tg u ((y + 1) % 3)
/-- A corner's vertex is in, and isn't the next one's. -/
def vxOK (N : Int) (t : Tr) (k : Nat) : Prop := 0 ≤ tg t k ∧ tg t k < N ∧ tg t k ≠ tg t ((k + 1) % 3)
/-- Two triangles have no directed edge in common, and not all vertices. -/
def twoOK (t u : Tr) : Prop := (∀ x y, x < 3 → y < 3 → dirB t u x y = false) ∧ cntH t u 3 ≠ 3
theorem dir_tw {t u : Tr} : twB u t = true ↔ ∃ x y, x < 3 ∧ y < 3 ∧ dirB t u x y = true := by
  rw [twB_iff]
  constructor
  · rintro ⟨p, hp, h⟩
    obtain ⟨q, hq, e1, e2⟩ := edgeB_iff.1 h
    exact ⟨q, p, hq, hp, by simp [dirB, e1, e2]⟩
  · rintro ⟨x, y, hx, hy, h⟩
    simp only [dirB, Bool.and_eq_true, beq_iff_eq] at h
    exact ⟨y, hy, edgeB_iff.2 ⟨x, hx, h.1, h.2⟩⟩
theorem cnt3 (t u : Tr) : cntH t u 3 = 3 ↔ mirB t u = true := by
  unfold mirB
  simp only [cntH, tg]
  cases hasB u t.1 <;> cases hasB u t.2.1 <;> cases hasB u t.2.2 <;> simp
theorem mir_iff {t u : Tr} : mirB t u = true ↔ ∀ j, j < 3 → hasB u (tg t j) = true := by
  unfold mirB
  simp only [Bool.and_eq_true]
  constructor
  · rintro ⟨⟨a, b⟩, c⟩ j hj
    match j, hj with
    | 0, _ => exact a
    | 1, _ => exact b
    | 2, _ => exact c
  · intro h
    exact ⟨⟨h 0 (by omega), h 1 (by omega)⟩, h 2 (by omega)⟩
theorem mir_symm {t u : Tr} (ht : loopB t = false) (h : mirB t u = true) : mirB u t = true := by
  have h' := mir_iff.1 h
  obtain ⟨a, ha, ea⟩ := hasB_iff.1 (h' 0 (by omega))
  obtain ⟨b, hb, eb⟩ := hasB_iff.1 (h' 1 (by omega))
  obtain ⟨c, hc, ec⟩ := hasB_iff.1 (h' 2 (by omega))
  have hab : a ≠ b := fun e => by subst e; have := tg_inj ht (i := 0) (j := 1) (by omega) (by omega) (ea.symm.trans eb); omega
  have hbc : b ≠ c := fun e => by subst e; have := tg_inj ht (i := 1) (j := 2) (by omega) (by omega) (eb.symm.trans ec); omega
  have hac : a ≠ c := fun e => by subst e; have := tg_inj ht (i := 0) (j := 2) (by omega) (by omega) (ea.symm.trans ec); omega
  refine mir_iff.2 fun j hj => ?_
  rcases (show j = a ∨ j = b ∨ j = c by omega) with rfl | rfl | rfl
  · exact hasB_iff.2 ⟨0, by omega, ea.symm⟩
  · exact hasB_iff.2 ⟨1, by omega, eb.symm⟩
  · exact hasB_iff.2 ⟨2, by omega, ec.symm⟩
theorem loop_iff {N : Int} {t : Tr} (h : ∀ k, k < 3 → vxOK N t k) : loopB t = false := by
  have h0 := (h 0 (by omega)).2.2
  have h1 := (h 1 (by omega)).2.2
  have h2 := (h 2 (by omega)).2.2
  simp only [tg] at h0 h1 h2
  simp [loopB, h0, h1]
  exact h2
theorem Surf.vx {N : Int} {T : List Tr} (hs : Surf N T) {i k : Nat} (hi : i < T.length) (hk : k < 3) : vxOK N (T! T i) k :=
  ⟨(hs.vin i hi k).1, (hs.vin i hi k).2, fun e => by
    have := tg_inj (hs.noloop i hi) hk (j := (k + 1) % 3) (by omega) e
    omega⟩
theorem Surf.two {N : Int} {T : List Tr} (hs : Surf N T) {i k : Nat} (hi : i < T.length) (hk : k < i) : twoOK (T! T i) (T! T k) := by
  refine ⟨fun x y hx hy => ?_, fun h => ?_⟩
  · have := hs.tw i k hi hk
    cases q : dirB (T! T i) (T! T k) x y
    · rfl
    · rw [dir_tw.2 ⟨x, y, hx, hy, q⟩] at this
      cases this
  · have := hs.mir i k hi hk
    rw [mir_symm (hs.noloop i hi) ((cnt3 _ _).1 h)] at this
    cases this
theorem Surf.fan {N : Int} {T : List Tr} (hs : Surf N T) {v : Int} (h0 : 0 ≤ v) (h1 : v < N) : 0 < (atV T v T.length).length ∧ ∀ i k, i < T.length → k < T.length → hasB (T! T i) v = true → hasB (T! T k) v = true → Conn (BAdj T v) i k := by
  obtain ⟨i, hi, hb⟩ := hs.used v h0 h1
  exact ⟨List.length_pos_of_mem (atV_mem.2 ⟨hi, hb⟩), (unpinched_iff hs.noloop).2 (hs.pin v h0 h1)⟩
/-- What the reference looks at is what makes a surface. -/
theorem Surf.of_is {N : Int} {T : List Tr} (n0 : 0 ≤ N) (n1 : N ≤ 4096) (t1 : T.length ≤ 8192) (hv : ∀ i k, i < T.length → k < 3 → vxOK N (T! T i) k) (h2 : ∀ i k, i < T.length → k < i → twoOK (T! T i) (T! T k))
    (hf : ∀ v : Nat, (v : Int) < N → 0 < (atV T v T.length).length ∧ ∀ i k, i < T.length → k < T.length → hasB (T! T i) v = true → hasB (T! T k) v = true → Conn (BAdj T v) i k) : Surf N T := by
  have nl : ∀ i, i < T.length → loopB (T! T i) = false := fun i hi => loop_iff fun k hk => hv i k hi hk
  refine ⟨n0, n1, t1, VIn.of_three fun i hi j hj => ⟨(hv i j hi hj).1, (hv i j hi hj).2.1⟩, nl, fun b a hb hab => ?_, fun b a hb hab => ?_, fun v v0 v1 => ?_, fun v v0 v1 => ?_⟩
  · cases q : twB (T! T a) (T! T b)
    · rfl
    · obtain ⟨x, y, hx, hy, e⟩ := dir_tw.1 q
      rw [(h2 b a hb hab).1 x y hx hy] at e
      cases e
  · cases q : mirB (T! T a) (T! T b)
    · rfl
    · exact absurd ((cnt3 _ _).2 (mir_symm (nl a (by omega)) q)) (h2 b a hb hab).2
  · obtain ⟨n, rfl⟩ := Int.eq_ofNat_of_zero_le v0
    obtain ⟨i, hi⟩ := List.exists_mem_of_length_pos (hf n v1).1
    obtain ⟨a, b⟩ := atV_mem.1 hi
    exact ⟨i, a, b⟩
  · obtain ⟨n, rfl⟩ := Int.eq_ofNat_of_zero_le v0
    exact (unpinched_iff nl).1 (hf n v1).2
end Go.Proofs.Ytknioobpoieohaa

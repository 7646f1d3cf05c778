/- Plain laws: the search round a vertex. -/
import Derived.Test.YtknioobpoieohaaQueue
import Derived.Test.YtknioobpoieohaaPinch
import Derived.Test.YtknioobpoieohaaMapLaw
namespace Go.Proofs.Ytknioobpoieohaa
set_option linter.unusedVariables false
set_option linter.unusedSimpArgs false
open Go.RowKit
theorem hasB_iff {t : Tr} {x : Int} : hasB t x = true ↔ ∃ j, j < 3 ∧ tg t j = x := by
  unfold hasB
  simp only [Bool.or_eq_true, beq_iff_eq]
  constructor
  · rintro ((h | h) | h)
    · exact ⟨0, by omega, h⟩
    · exact ⟨1, by omega, h⟩
    · exact ⟨2, by omega, h⟩
  · rintro ⟨j, hj, h⟩
    match j, hj with
    | 0, _ => exact .inl (.inl h)
    | 1, _ => exact .inl (.inr h)
    | 2, _ => exact .inr h
/-- The lists of triangles at the ends, as far as they are laid. -/
structure EInv (T : List Tr) (v : Int) (I : List Nat) (p j : Nat) (E : Int → List Nat) : Prop where
  sound : ∀ x i, i ∈ E x → i ∈ I
  full : ∀ q l, q < I.length → l < 3 → (q < p ∨ q = p ∧ l < j) → tg (T! T (I.getD q 0)) l ≠ v → I.getD q 0 ∈ E (tg (T! T (I.getD q 0)) l)
  len : ∀ x, (E x).length ≤ 3 * p + j
theorem EInv.start (T : List Tr) (v : Int) (I : List Nat) : EInv T v I 0 0 (fun _ => []) := ⟨by simp, fun q l _ _ h => by omega, by simp⟩
theorem EInv.skip {T : List Tr} {v : Int} {I : List Nat} {p j : Nat} {E : Int → List Nat} (h : EInv T v I p j E) (hv : tg (T! T (I.getD p 0)) j = v) : EInv T v I p (j + 1) E :=
  ⟨h.sound, fun q l hq hl hlt hne => by
    by_cases e : q = p ∧ l = j
    · obtain ⟨rfl, rfl⟩ := e; exact absurd hv hne
    · exact h.full q l hq hl (by omega) hne, fun x => by have := h.len x; omega⟩
theorem EInv.push {T : List Tr} {v : Int} {I : List Nat} {p j : Nat} {E : Int → List Nat} (h : EInv T v I p j E) (hp : p < I.length) :
    EInv T v I p (j + 1) (fun x => if x = tg (T! T (I.getD p 0)) j then E (tg (T! T (I.getD p 0)) j) ++ [I.getD p 0] else E x) :=
  ⟨fun x i hi => by
    have hm : I.getD p 0 ∈ I := by
      rw [List.getD_eq_getElem?_getD, List.getElem?_eq_getElem hp]; exact List.getElem_mem hp
    split at hi
    · simp only [List.mem_append, List.mem_singleton] at hi
      rcases hi with hi | rfl
      · exact h.sound _ i hi
      · exact hm
    · exact h.sound x i hi, fun q l hq hl hlt hne => by
    by_cases e : q = p ∧ l = j
    · obtain ⟨rfl, rfl⟩ := e
      rw [if_pos rfl]; simp
    · have := h.full q l hq hl (by omega) hne
      split
      · rename_i e'
        rw [e'] at this
        exact List.mem_append_left _ this
      · exact this, fun x => by
    have h1 := h.len (tg (T! T (I.getD p 0)) j)
    have h2 := h.len x
    split
    · rw [List.length_append, List.length_singleton]; omega
    · omega⟩
theorem EInv.next {T : List Tr} {v : Int} {I : List Nat} {p : Nat} {E : Int → List Nat} (h : EInv T v I p 3 E) : EInv T v I (p + 1) 0 E :=
  ⟨h.sound, fun q l hq hl hlt hne => h.full q l hq hl (by omega) hne, fun x => by have := h.len x; omega⟩
/-- What has been reached. -/
structure TInv (T : List Tr) (v : Int) (I : List Nat) (E : Int → List Nat) (k : Nat) (W : List Nat) : Prop where
  nodup : W.Nodup
  sub : ∀ x, x ∈ W → x ∈ I
  root : I.getD 0 0 ∈ W
  done : ∀ d x : Nat, d < k → W[d]? = some x → ∀ l, l < 3 → tg (T! T x) l ≠ v → ∀ y, y ∈ E (tg (T! T x) l) → y ∈ W
theorem nodup_sub_length {A : List Nat} : ∀ {B : List Nat}, A.Nodup → (∀ x, x ∈ A → x ∈ B) → A.length ≤ B.length := by
  induction A with
  | nil => simp
  | cons a A ih =>
    intro B hn hs
    obtain ⟨h1, h2⟩ := List.nodup_cons.1 hn
    have hb := hs a (by simp)
    have := ih (B := B.erase a) h2 (fun x hx => by
      have hxa : x ≠ a := fun e => h1 (e ▸ hx)
      exact (List.mem_erase_of_ne hxa).2 (hs x (by simp [hx])))
    rw [List.length_erase_of_mem hb] at this
    have := List.length_pos_of_mem hb
    simp; omega
theorem TInv.len {T : List Tr} {v : Int} {I : List Nat} {E : Int → List Nat} {k : Nat} {W : List Nat} (h : TInv T v I E k W) : W.length ≤ I.length := nodup_sub_length h.nodup h.sub
theorem TInv.start {T : List Tr} {v : Int} {I : List Nat} {E : Int → List Nat} (h0 : 0 < I.length) : TInv T v I E 0 [I.getD 0 0] := by
  refine ⟨by simp, fun x hx => ?_, by simp, fun d x h => by omega⟩
  simp at hx; subst hx
  rw [List.getElem?_eq_getElem h0]
  exact List.getElem_mem h0
theorem TInv.push {T : List Tr} {v : Int} {I : List Nat} {E : Int → List Nat} {k : Nat} {W : List Nat} (h : TInv T v I E k W) (hk : k ≤ W.length) {y : Nat} (hy : y ∈ I) (hn : y ∉ W) : TInv T v I E k (W ++ [y]) := by
  refine ⟨List.nodup_append.2 ⟨h.nodup, by simp, fun a ha b hb => ?_⟩, fun x hx => ?_, List.mem_append_left _ h.root, fun d x hd hx l hl hne z hz => ?_⟩
  · simp at hb; subst hb
    exact fun e => hn (e ▸ ha)
  · simp only [List.mem_append, List.mem_singleton] at hx
    rcases hx with hx | rfl
    · exact h.sub x hx
    · exact hy
  · rw [List.getElem?_append_left (by omega)] at hx
    have := h.done d x hd hx l hl hne z hz
    simp [this]
theorem TInv.pop {T : List Tr} {v : Int} {I : List Nat} {E : Int → List Nat} {k : Nat} {W : List Nat} (h : TInv T v I E k W) {x : Nat} (hx : W[k]? = some x) (hall : ∀ l, l < 3 → tg (T! T x) l ≠ v → ∀ y, y ∈ E (tg (T! T x) l) → y ∈ W) : TInv T v I E (k + 1) W :=
  ⟨h.nodup, h.sub, h.root, fun d z hd hz => by
    by_cases e : d = k
    · subst e
      obtain rfl := Option.some.inj (hx.symm.trans hz)
      exact hall
    · exact h.done d z (by omega) hz⟩
/-- All has been looked at: all has been reached. -/
theorem TInv.stop {T : List Tr} {v : Int} {E : Int → List Nat} {W : List Nat} (h : TInv T v (atV T v T.length) E W.length W) (he : EInv T v (atV T v T.length) (atV T v T.length).length 0 E) (hu : Unpinched T v) (h0 : 0 < (atV T v T.length).length) :
    W.length = (atV T v T.length).length := by
  have closed : ∀ i k, PAdj T v i k → i ∈ W → k ∈ W := by
    rintro i k ⟨-, hkl, hi, hk, j, hj, hne, hh⟩ hiW
    obtain ⟨d, hd⟩ := List.mem_iff_getElem?.1 hiW
    obtain ⟨q, hq⟩ := List.mem_iff_getElem?.1 (atV_mem.2 ⟨hkl, hk⟩)
    have hql := (List.getElem?_eq_some_iff.1 hq).1
    have hqk : (atV T v T.length).getD q 0 = k := by rw [List.getD_eq_getElem?_getD, hq]; rfl
    obtain ⟨l, hl, hle⟩ := hasB_iff.1 hh
    have := he.full q l hql hl (.inl hql) (by rw [hqk, hle]; exact hne)
    rw [hqk, hle] at this
    exact h.done d i (List.getElem?_eq_some_iff.1 hd).1 hd j hj hne k this
  have symm : ∀ {i k}, PAdj T v i k → PAdj T v k i := by
    rintro i k ⟨a, b, hi, hk, j, hj, hne, hh⟩
    obtain ⟨l, hl, hle⟩ := hasB_iff.1 hh
    exact ⟨b, a, hk, hi, l, hl, by rw [hle]; exact hne, by rw [hle]; exact hasB_iff.2 ⟨j, hj, rfl⟩⟩
  have walk : ∀ {i k}, Conn (PAdj T v) i k → i ∈ W → k ∈ W := by
    intro i k c hi
    induction c with
    | refl => exact hi
    | step _ s ih => exact closed _ _ s ih
    | back _ s ih => exact closed _ _ (symm s) ih
  have root := atV_mem.1 (h.sub _ h.root)
  refine Nat.le_antisymm h.len (nodup_sub_length (List.Nodup.sublist List.filter_sublist List.nodup_range) fun x hx => ?_)
  have hx' := atV_mem.1 hx
  exact walk (hu _ x root.1 hx'.1 root.2 hx'.2) h.root
end Go.Proofs.Ytknioobpoieohaa

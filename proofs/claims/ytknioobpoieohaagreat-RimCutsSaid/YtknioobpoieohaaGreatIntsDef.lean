/- Lists of ints in memory. gypsumref08.Ints. -/
import Derived.Test.YtknioobpoieohaaGreatRowl
import Derived.RegionTactic
import Derived.ChangeAlike
namespace Go.Proofs.YtknioobpoieohaaGreat
set_option linter.unusedVariables false
set_option linter.unusedSimpArgs false
open Go.RowKit
/-- The number with a number. -/
def I! (xs : List Int) (i : Nat) : Int := xs.getD i 0
/-- A list of ints lies at an address. -/
def IntsAt (w : World) (ao : Option Addr) (xs : List Int) : Prop :=
  xs ≠ [] → ∃ b off, ao = some ⟨b, off, none⟩ ∧ b < w.heap.size ∧ ∀ i, i < xs.length → w.cell? ⟨b, off + i, none⟩ = some (.int .i64 (I! xs i))
theorem IntsAt.mono {w w' : World} {ao : Option Addr} {xs : List Int} {B : Nat} (h : IntsAt w ao xs) (hB : w.heap.size ≤ B) (hb : Below B w w') : IntsAt w' ao xs := by
  intro hx
  obtain ⟨b, off, rfl, hlt, hc⟩ := h hx
  exact ⟨b, off, rfl, by have := hb.size; omega, fun i hi => (hb.cell (p := ⟨b, _, none⟩) (show b < B by omega)).trans (hc i hi)⟩
theorem IntsAt.get {w wr : World} {ao : Option Addr} {xs : List Int} (h : IntsAt w ao xs) {B : Nat} (hB : w.heap.size ≤ B) (hb : Below B w wr) {i : Nat} (hi : i < xs.length) :
    ∃ b off x, ao = some ⟨b, off, none⟩ ∧ Hid (I! xs i = x) ∧ wr.cell? ⟨b, off + i, none⟩ = some (.int .i64 x) ∧ b < w.heap.size ∧ b < wr.heap.size := by
  obtain ⟨b, off, rfl, hlt, hc⟩ := (h.mono hB hb) (by intro e; simp [e] at hi)
  obtain ⟨b', off', e, hlt', -⟩ := h (by intro e; simp [e] at hi)
  cases e
  exact ⟨b, off, _, rfl, rfl, hc i hi, hlt', hlt⟩
theorem I!_get {xs : List Int} {i : Nat} (h : i < xs.length) : xs[i]? = some (I! xs i) := by
  simp [I!, List.getElem?_eq_getElem h]
theorem ints_ext {xs ys : List Int} (hl : xs.length = ys.length) (h : ∀ i, i < xs.length → I! xs i = I! ys i) : xs = ys := by
  apply List.ext_getElem hl
  intro i h1 h2
  have := h i h1
  unfold I! at this
  simpa [List.getD_eq_getElem?_getD, List.getElem?_eq_getElem h1, List.getElem?_eq_getElem h2] using this
/-- The first n values of a function. -/
def il (f : Nat → Int) (n : Nat) : List Int := (List.range n).map f
theorem il_length (f : Nat → Int) (n : Nat) : (il f n).length = n := by simp [il]
theorem il_get (f : Nat → Int) {n i : Nat} (h : i < n) : I! (il f n) i = f i := by simp [I!, il, h]
theorem il_congr {f g : Nat → Int} {n : Nat} (h : ∀ i, i < n → f i = g i) : il f n = il g n := List.map_congr_left fun i hi => h i (List.mem_range.1 hi)
theorem RowIs.ints {w : World} {g n : Nat} {f : Nat → Int} {e : TypeId} (h : RowIs w g e (iv f n)) : IntsAt w (some ⟨g, 0, none⟩) (il f n) := fun _ =>
  ⟨g, 0, rfl, h.lt, fun i hi => by
    rw [il_length] at hi
    rw [Nat.zero_add, il_get f hi]
    exact h.cell (iv_get f hi)⟩
set_option maxRecDepth 100000 in
set_option maxHeartbeats 1000000 in
theorem ints08 (ao bo : Option Addr) (cap cap' : Nat) (T U : List Int) (w : World) (hl : T.length ≤ 100000) (hT : IntsAt w ao T) (hU : IntsAt w bo U) :
    Calls Tryz.prog 24 #[.slice ao T.length cap, .slice bo U.length cap'] w fun e w' => e = .returned (.bool (decide (T = U))) ∧ Below w.heap.size w w' := by
  obtain ⟨len, hlen⟩ : ∃ n, n = T.length := ⟨_, rfl⟩
  by_cases hne : T.length = U.length
  · rw [← hne, ← hlen]
    rw [← hlen] at hl
    have HT := Lib.hid hT
    have HU := Lib.hid hU
    have HL := Lib.hid hlen
    have HNE := Lib.hid hne
    obtain ⟨r, hr⟩ : ∃ r, r = decide (T = U) := ⟨_, rfl⟩
    rw [← hr]
    have HR := Lib.hid hr
    clear hT hU hlen hne hr
    go_enter Tryz.func24, Tryz.ntmps24
    go_wp2
    go_loopw [5] (fun i ws => ∃ k : Nat, k ≤ len ∧ i = .int .i64 k ∧ (∀ i, i < k → I! T i = I! U i) ∧ Below w.heap.size w ws) (fun i _ => len - (intOf i).toNat)
    case atStart => exact ⟨0, by omega, rfl, fun i h => by omega, Below.refl _ _⟩
    case round =>
      obtain ⟨k, hk, rfl, hpre, hb⟩ := hrel
      obtain ⟨W1, rfl⟩ : ∃ W1 : World, W1 = wr := ⟨_, rfl⟩
      have HP := Lib.hid hpre
      have HB := Lib.hid hb
      clear hpre hb
      by_cases hlt : k < len
      · obtain ⟨b, off, x, rfl, ht, g0, hbs, hbs'⟩ := HT.out.get (Nat.le_refl _) HB.out (i := k) (by have := HL.out; omega)
        obtain ⟨b', off', x', rfl, ht', g0', hcs, hcs'⟩ := HU.out.get (Nat.le_refl _) HB.out (i := k) (by have := HL.out; have := HNE.out; omega)
        by_cases he : x = x'
        · subst he
          have HP' := Lib.hid (show ∀ i, i < k + 1 → I! T i = I! U i from fun i h => by
            by_cases e : i = k
            · subst e; rw [ht.out, ht'.out]
            · exact HP.out i (by omega))
          clear ht ht' hbs hcs
          go_wp2
          go_quiet (fail)
          go_wp2
          go_roundw
          case rel => exact ⟨k + 1, by omega, by go_num, HP'.out, HB.out.trans ⟨rfl, rfl, rfl, Nat.le_refl _, fun _ _ => rfl⟩⟩
          case measure => simp [intOf]; omega
        · have HF := Lib.hid (show r = false from by
            rw [HR.out]
            simp only [decide_eq_false_iff_not]
            rintro rfl
            exact he (ht.out.symm.trans ht'.out))
          have hq : (x == x') = false := by simp [he]
          have hq2 : (x != x') = true := by simp [he]
          clear ht ht' he hbs hcs
          go_wp2
          go_quiet (fail)
          go_wp2
          exact bodyPost_ret (v := .bool false) (by simp [results, Tryz.results24, go_sem]) rfl ⟨by rw [HF.out], HB.out.trans ⟨rfl, rfl, rfl, Nat.le_refl _, fun _ _ => rfl⟩⟩
      · obtain rfl : k = len := by omega
        have HF := Lib.hid (show r = true from by
            rw [HR.out]
            simp only [decide_eq_true_eq]
            exact ints_ext HNE.out (by rw [← HL.out]; exact HP.out))
        go_wp2
        exact bodyPost_ret (v := .bool true) (by simp [results, Tryz.results24, go_sem]) rfl ⟨by rw [HF.out], HB.out⟩
  · obtain ⟨len', hlen'⟩ : ∃ n, n = U.length := ⟨_, rfl⟩
    have HF := Lib.hid (show decide (T = U) = false from by simp only [decide_eq_false_iff_not]; exact fun e => hne (by rw [e]))
    rw [← hlen, ← hlen'] at hne
    rw [HF.out, ← hlen, ← hlen']
    have hb : (len == len') = false := by simp [hne]
    have hb2 : (len != len') = true := by simp [hne]
    clear hT hU hlen hlen' hl
    go_enter Tryz.func24, Tryz.ntmps24
    go_wp2
    exact bodyPost_ret (v := .bool false) (by simp [results, Tryz.results24, go_sem]) rfl ⟨rfl, Below.refl _ _⟩
end Go.Proofs.YtknioobpoieohaaGreat

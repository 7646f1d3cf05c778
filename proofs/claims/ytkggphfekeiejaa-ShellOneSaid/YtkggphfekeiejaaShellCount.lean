/- shell.Count; ints. -/
import Derived.Test.YtkggphfekeiejaaSame
import Derived.Test.YtkggphfekeiejaaShellOf
namespace Go.Proofs.Ytkggphfekeiejaa
set_option linter.unusedVariables false
set_option linter.unusedSimpArgs false
open Go.RowKit
/-- One more than the greatest of n numbers; 0: there is none. -/
def cnt (L : Nat → Int) : Nat → Int
  | 0 => 0
  | k + 1 => max (cnt L k) (L k + 1)
theorem cnt_nonneg (L : Nat → Int) : ∀ n, 0 ≤ cnt L n
  | 0 => Int.le_refl _
  | k + 1 => by have := cnt_nonneg L k; unfold cnt; omega
theorem cnt_lt (L : Nat → Int) : ∀ n i, i < n → L i < cnt L n
  | 0, i, h => by omega
  | k + 1, i, h => by
    unfold cnt
    by_cases e : i = k
    · subst e; omega
    · have := cnt_lt L k i (by omega); omega
theorem cnt_has (L : Nat → Int) : ∀ n, 0 < cnt L n → ∃ i, i < n ∧ cnt L n = L i + 1
  | 0, h => by simp [cnt] at h
  | k + 1, h => by
    unfold cnt at h ⊢
    by_cases e : cnt L k ≤ L k + 1
    · exact ⟨k, by omega, by omega⟩
    · obtain ⟨i, hi, e'⟩ := cnt_has L k (by omega)
      exact ⟨i, by omega, by omega⟩
theorem cnt_congr {L M : Nat → Int} : ∀ n, (∀ i, i < n → L i = M i) → cnt L n = cnt M n
  | 0, _ => rfl
  | k + 1, h => by unfold cnt; rw [cnt_congr k fun i hi => h i (by omega), h k (by omega)]
theorem IsShells.le {A : Nat → Nat → Prop} {n : Nat} {L : Nat → Int} (h : IsShells A n L) : ∀ i, i < n → L i ≤ i := by
  intro i
  induction i using Nat.strongRecOn with
  | _ i ih =>
    intro hi
    by_cases e : L i ≤ 0
    · omega
    · obtain ⟨j, hj, ej⟩ := h.rg i hi (L i - 1) (by omega) (by omega)
      have := ih j hj (by omega)
      omega
theorem IsShells.cnt_le {A : Nat → Nat → Prop} {n : Nat} {L : Nat → Int} (h : IsShells A n L) : cnt L n ≤ n := by
  by_cases e : 0 < cnt L n
  · obtain ⟨i, hi, e'⟩ := cnt_has L n e
    have := h.le i hi
    omega
  · omega
set_option maxRecDepth 100000 in
set_option maxHeartbeats 1000000 in
theorem count_any (w : World) (b : Nat) (N : Int) (T : List Tr) (h : Tab w b N T) (hsym : ∀ i j, i < T.length → j < T.length → Adj T i j → Adj T j i) (hopp : ∀ c : Int, 0 ≤ c → c < 3 * T.length → opp T c < 3 * T.length) :
    Calls Try.prog 18 #[.pointer (some ⟨b, 0, none⟩)] w fun e w' => ∃ L, e = .returned (.int .i64 (cnt L T.length)) ∧ IsShells (Adj T) T.length L ∧ Below w.heap.size w w' := by
  have HO := Lib.hid (of_any w b N T h hsym hopp)
  have hlen := h.len
  clear h hsym hopp
  obtain ⟨n, hn⟩ : ∃ n, n = T.length := ⟨_, rfl⟩
  rw [← hn] at HO hlen ⊢
  clear hn
  go_enter Try.func18, Try.ntmps18
  go_wp2_with fail
  refine HO.out.mono ?_
  rintro e w1 ⟨g, L, rfl, hg, hrow, hsh, hb⟩
  have HL := Lib.hid (fun i (hi : i < n) => hsh.le i hi)
  have HL0 := Lib.hid (fun i (hi : i < n) => hsh.nonneg i hi)
  have HSH := Lib.hid hsh
  have HC := Lib.hid (cnt_nonneg L)
  have HR := Lib.hid hrow
  have HB := Lib.hid hb
  clear hsh hrow hb HO
  go_wp2
  go_loopw [9, 3] (fun i v ws => ∃ k : Nat, k ≤ n ∧ i = .int .i64 k ∧ v = .int .i64 (cnt L k) ∧ cnt L k ≤ k ∧ ws = w1) (fun i _ _ => n - (intOf i).toNat)
  case atStart => exact ⟨0, by omega, rfl, rfl, by simp [cnt], rfl⟩
  case round =>
    obtain ⟨k, hk, rfl, rfl, hc, rfl⟩ := hrel
    obtain ⟨W1, rfl⟩ : ∃ W1 : World, W1 = wr := ⟨_, rfl⟩
    by_cases hlt : k < n
    · have c0 := HR.out.cell (iv_get L hlt)
      have h0 := HL.out k hlt
      have h1 := HL0.out k hlt
      have h2 := HC.out k
      have HK := Lib.hid (show cnt L (k + 1) = max (cnt L k) (L k + 1) from rfl)
      generalize L k = l at *
      generalize cnt L k = m at *
      by_cases hm : m ≤ l + 1
      · go_wp2
        go_roundw
        case rel => exact ⟨k + 1, by omega, by go_num, by rw [HK.out], by rw [HK.out]; omega, by trivial⟩
        case measure => simp [intOf]; omega
      · go_wp2
        go_roundw
        case rel => exact ⟨k + 1, by omega, by go_num, by rw [HK.out], by rw [HK.out]; omega, by trivial⟩
        case measure => simp [intOf]; omega
    · obtain rfl : k = n := by omega
      go_wp2
      exact bodyPost_ret (v := .int .i64 (cnt L k)) (by simp [results, Try.results18, go_sem]) rfl ⟨L, rfl, HSH.out, HB.out⟩
end Go.Proofs.Ytkggphfekeiejaa

/- slices.Equal of triangles, soup.Same, ints. shell.Count; ints. Numbers in memory, read only; the law's ints. -/
import Derived.Test.YtkggphfekeiejaaCornerNew
import Derived.ChangeKeysEq
import Derived.Laws.StructEq
import Derived.Test.YtkggphfekeiejaaShellOf
namespace Go.Proofs.Ytkggphfekeiejaa
set_option linter.unusedVariables false
set_option linter.unusedSimpArgs false
open Go.RowKit
theorem tris_ext {T U : List Tr} (hl : T.length = U.length) (h : ∀ i, i < T.length → T! T i = T! U i) : T = U := by
  apply List.ext_getElem hl
  intro i h1 h2
  have := h i h1
  unfold T! at this
  simpa [List.getD_eq_getElem?_getD, List.getElem?_eq_getElem h1, List.getElem?_eq_getElem h2] using this
theorem part_tri (a b c : Value) (w : World) : (part 3 #[a, b, c] 0).run Try.prog w = .ok a w ∧ (part 3 #[a, b, c] 1).run Try.prog w = .ok b w ∧ (part 3 #[a, b, c] 2).run Try.prog w = .ok c w := ⟨by kernel_rfl, by kernel_rfl, by kernel_rfl⟩
theorem tri_equal (x y z x' y' z' : Int) (w : World) :
    (Op.equalIn 10000 49 (.agg #[.int .i64 x, .int .i64 y, .int .i64 z]) (.agg #[.int .i64 x', .int .i64 y', .int .i64 z'])).run Try.prog w = .ok (x == x' && (y == y' && z == z')) w := by
  obtain ⟨i0, hi, -⟩ := info_parts info3
  have hc : Try.prog.cellsOf 3 = 1 := by kernel_rfl
  have hu : Try.prog.underlying 3 = some (.int .i64) := by kernel_rfl
  rw [run_equalIn_array (P := Try.prog) w 9999 (t := 49) (e := 3) (n := 3) (i := i0) _ _ (by kernel_rfl) hi, hc]
  simp only [List.range_succ, List.range_zero, List.nil_append, List.cons_append, Op.eqItems, Sem.run_bind, Nat.mul_one, (part_tri _ _ _ _).1, (part_tri _ _ _ _).2.1, (part_tri _ _ _ _).2.2, Result.andThen_ok, run_equalIn_int (P := Try.prog) _ _ _ _ _ _ _ hu]
  by_cases h1 : x = x' <;> by_cases h2 : y = y' <;> by_cases h3 : z = z' <;> simp [h1, h2, h3, (part_tri _ _ _ _).2.1, (part_tri _ _ _ _).2.2, run_equalIn_int (P := Try.prog) _ _ _ _ _ _ _ hu]
set_option maxRecDepth 100000 in
set_option maxHeartbeats 1000000 in
theorem equal_any (ao bo : Option Addr) (cap cap' : Nat) (T U : List Tr) (w : World) (hl : T.length ≤ 100000) (hT : TrisAt w ao T) (hU : TrisAt w bo U) :
    Calls Try.prog 36 #[.slice ao T.length cap, .slice bo U.length cap'] w fun e w' => e = .returned (.bool (decide (T = U))) ∧ Below w.heap.size w w' := by
  obtain ⟨len, hlen⟩ : ∃ n, n = T.length := ⟨_, rfl⟩
  by_cases hne : T.length = U.length
  · rw [← hne, ← hlen]
    rw [← hlen] at hl
    have HT := Lib.hid hT
    have HU := Lib.hid hU
    have HL := Lib.hid hlen
    have HNE := Lib.hid hne
    obtain ⟨r, hr⟩ : ∃ r, r = decide (T = U) := ⟨_, rfl⟩
    rw [← hr]
    have HR := Lib.hid hr
    clear hT hU hlen hne hr
    go_enter Try.func36, Try.ntmps36
    go_wp2
    go_loopw [13] (fun i ws => ∃ k : Nat, k ≤ len ∧ i = .int .i64 k ∧ (∀ i, i < k → T! T i = T! U i) ∧ Below w.heap.size w ws) (fun i _ => len - (intOf i).toNat)
    case atStart => exact ⟨0, by omega, rfl, fun i h => by omega, Below.refl _ _⟩
    case round =>
      obtain ⟨k, hk, rfl, hpre, hb⟩ := hrel
      obtain ⟨W1, rfl⟩ : ∃ W1 : World, W1 = wr := ⟨_, rfl⟩
      have HP := Lib.hid hpre
      have HB := Lib.hid hb
      clear hpre hb
      by_cases hlt : k < len
      · obtain ⟨b, off, x, y, z, rfl, ht, g0, g1, g2, hbs, hbs'⟩ := HT.out.get (Nat.le_refl _) HB.out (i := k) (by have := HL.out; omega)
        obtain ⟨b', off', x', y', z', rfl, ht', g0', g1', g2', hcs, hcs'⟩ := HU.out.get (Nat.le_refl _) HB.out (i := k) (by have := HL.out; have := HNE.out; omega)
        by_cases he : (x, y, z) = (x', y', z')
        · cases he
          have HP' := Lib.hid (show ∀ i, i < k + 1 → T! T i = T! U i from fun i h => by
            by_cases e : i = k
            · subst e; rw [ht.out, ht'.out]
            · exact HP.out i (by omega))
          have hq : ∀ w, (Op.equalIn 10000 49 (.agg #[.int .i64 x, .int .i64 y, .int .i64 z]) (.agg #[.int .i64 x, .int .i64 y, .int .i64 z])).run Try.prog w = .ok true w := fun w => by rw [tri_equal]; simp
          clear ht ht' hbs hcs
          go_wp2
          go_quiet (fail)
          go_wp2
          go_roundw
          case rel => exact ⟨k + 1, by omega, by go_num, HP'.out, HB.out.trans ⟨rfl, rfl, rfl, Nat.le_refl _, fun _ _ => rfl⟩⟩
          case measure => simp [intOf]; omega
        · have HF := Lib.hid (show r = false from by
            rw [HR.out]
            simp only [decide_eq_false_iff_not]
            rintro rfl
            exact he (ht.out.symm.trans ht'.out))
          have hq : (x == x' && (y == y' && z == z')) = false := by
            simp only [Prod.mk.injEq] at he
            simp only [Bool.and_eq_false_iff, beq_eq_false_iff_ne]
            by_cases h1 : x = x' <;> by_cases h2 : y = y' <;> simp_all
          have hq : ∀ w, (Op.equalIn 10000 49 (.agg #[.int .i64 x, .int .i64 y, .int .i64 z]) (.agg #[.int .i64 x', .int .i64 y', .int .i64 z'])).run Try.prog w = .ok false w := fun w => by rw [tri_equal, hq]
          clear ht ht' he hbs hcs
          go_wp2
          go_quiet (fail)
          go_wp2
          exact bodyPost_ret (v := .bool false) (by simp [results, Try.results36, go_sem]) rfl ⟨by rw [HF.out], HB.out.trans ⟨rfl, rfl, rfl, Nat.le_refl _, fun _ _ => rfl⟩⟩
      · obtain rfl : k = len := by omega
        have HF := Lib.hid (show r = true from by
            rw [HR.out]
            simp only [decide_eq_true_eq]
            exact tris_ext HNE.out (by rw [← HL.out]; exact HP.out))
        go_wp2
        exact bodyPost_ret (v := .bool true) (by simp [results, Try.results36, go_sem]) rfl ⟨by rw [HF.out], HB.out⟩
  · obtain ⟨len', hlen'⟩ : ∃ n, n = U.length := ⟨_, rfl⟩
    have HF := Lib.hid (show decide (T = U) = false from by simp only [decide_eq_false_iff_not]; exact fun e => hne (by rw [e]))
    rw [← hlen, ← hlen'] at hne
    rw [HF.out, ← hlen, ← hlen']
    have hb : (len == len') = false := by simp [hne]
    have hb2 : (len != len') = true := by simp [hne]
    clear hT hU hlen hlen' hl
    go_enter Try.func36, Try.ntmps36
    go_wp2
    exact bodyPost_ret (v := .bool false) (by simp [results, Try.results36, go_sem]) rfl ⟨rfl, Below.refl _ _⟩
set_option maxRecDepth 100000 in
set_option maxHeartbeats 1000000 in
theorem same_any (N M : Int) (ao bo : Option Addr) (cap cap' : Nat) (T U : List Tr) (w : World) (hl : T.length ≤ 100000) (hT : TrisAt w ao T) (hU : TrisAt w bo U) :
    Calls Try.prog 19 #[.agg #[.int .i64 N, .slice ao T.length cap], .agg #[.int .i64 M, .slice bo U.length cap']] w fun e w' => e = .returned (.bool (decide (N = M ∧ T = U))) ∧ Below w.heap.size w w' := by
  have hb0 : Below w.heap.size w ((w.alloc (.cells #[.int .i64 N, .slice ao T.length cap] 24)).alloc (.cells #[.int .i64 M, .slice bo U.length cap'] 24)) := ((Below.refl _ _).alloc (Nat.le_refl _) _).alloc (by simp) _
  have HE := Lib.hid (equal_any ao bo cap cap' T U _ hl (hT.mono (Nat.le_refl _) hb0) (hU.mono (Nat.le_refl _) hb0))
  have HB := Lib.hid hb0
  obtain ⟨len, hlen⟩ : ∃ n, n = T.length := ⟨_, rfl⟩
  obtain ⟨len', hlen'⟩ : ∃ n, n = U.length := ⟨_, rfl⟩
  obtain ⟨r, hr⟩ : ∃ r, r = decide (T = U) := ⟨_, rfl⟩
  have hres : decide (N = M ∧ T = U) = (decide (N = M) && r) := by rw [hr]; simp
  rw [hres]
  rw [← hlen, ← hlen', ← hr] at HE
  rw [← hlen, ← hlen'] at HB ⊢
  clear hT hU hlen hlen' hl hr hres hb0
  by_cases he : N = M
  · subst he
    have hd : decide (N = N) = true := by simp
    rw [hd, Bool.true_and]
    clear hd
    go_enter Try.func19, Try.ntmps19
    go_wp2_with fail
    refine HE.out.mono ?_
    rintro e w2 ⟨rfl, hb2⟩
    have HB2 := Lib.hid (below_more HB.out hb2 HB.out.size)
    clear hb2
    go_wp2
    exact bodyPost_ret (v := .bool r) (by simp [results, Try.results19, go_sem]) rfl ⟨rfl, HB2.out⟩
  · have h1 : (N == M) = false := by simp [he]
    have h2 : decide (N = M) = false := by simp [he]
    rw [h2, Bool.false_and]
    clear h2
    go_enter Try.func19, Try.ntmps19
    go_wp2
    exact bodyPost_ret (v := .bool false) (by simp [results, Try.results19, go_sem]) rfl ⟨rfl, HB.out⟩
/-- One more than the greatest of n numbers; 0: there is none. -/
def cnt (L : Nat → Int) : Nat → Int
  | 0 => 0
  | k + 1 => max (cnt L k) (L k + 1)
theorem cnt_nonneg (L : Nat → Int) : ∀ n, 0 ≤ cnt L n
  | 0 => Int.le_refl _
  | k + 1 => by have := cnt_nonneg L k; unfold cnt; omega
theorem cnt_lt (L : Nat → Int) : ∀ n i, i < n → L i < cnt L n
  | 0, i, h => by omega
  | k + 1, i, h => by
    unfold cnt
    by_cases e : i = k
    · subst e; omega
    · have := cnt_lt L k i (by omega); omega
theorem cnt_has (L : Nat → Int) : ∀ n, 0 < cnt L n → ∃ i, i < n ∧ cnt L n = L i + 1
  | 0, h => by simp [cnt] at h
  | k + 1, h => by
    unfold cnt at h ⊢
    by_cases e : cnt L k ≤ L k + 1
    · exact ⟨k, by omega, by omega⟩
    · obtain ⟨i, hi, e'⟩ := cnt_has L k (by omega)
      exact ⟨i, by omega, by omega⟩
theorem cnt_congr {L M : Nat → Int} : ∀ n, (∀ i, i < n → L i = M i) → cnt L n = cnt M n
  | 0, _ => rfl
  | k + 1, h => by unfold cnt; rw [cnt_congr k fun i hi => h i (by omega), h k (by omega)]
theorem IsShells.le {A : Nat → Nat → Prop} {n : Nat} {L : Nat → Int} (h : IsShells A n L) : ∀ i, i < n → L i ≤ i := by
  intro i
  induction i using Nat.strongRecOn with
  | _ i ih =>
    intro hi
    by_cases e : L i ≤ 0
    · omega
    · obtain ⟨j, hj, ej⟩ := h.rg i hi (L i - 1) (by omega) (by omega)
      have := ih j hj (by omega)
      omega
theorem IsShells.cnt_le {A : Nat → Nat → Prop} {n : Nat} {L : Nat → Int} (h : IsShells A n L) : cnt L n ≤ n := by
  by_cases e : 0 < cnt L n
  · obtain ⟨i, hi, e'⟩ := cnt_has L n e
    have := h.le i hi
    omega
  · omega
set_option maxRecDepth 100000 in
set_option maxHeartbeats 1000000 in
theorem count_any (w : World) (b : Nat) (N : Int) (T : List Tr) (h : Tab w b N T) (hsym : ∀ i j, i < T.length → j < T.length → Adj T i j → Adj T j i) (hopp : ∀ c : Int, 0 ≤ c → c < 3 * T.length → opp T c < 3 * T.length) :
    Calls Try.prog 18 #[.pointer (some ⟨b, 0, none⟩)] w fun e w' => ∃ L, e = .returned (.int .i64 (cnt L T.length)) ∧ IsShells (Adj T) T.length L ∧ Below w.heap.size w w' := by
  have HO := Lib.hid (of_any w b N T h hsym hopp)
  have hlen := h.len
  clear h hsym hopp
  obtain ⟨n, hn⟩ : ∃ n, n = T.length := ⟨_, rfl⟩
  rw [← hn] at HO hlen ⊢
  clear hn
  go_enter Try.func18, Try.ntmps18
  go_wp2_with fail
  refine HO.out.mono ?_
  rintro e w1 ⟨g, L, rfl, hg, hrow, hsh, hb⟩
  have HL := Lib.hid (fun i (hi : i < n) => hsh.le i hi)
  have HL0 := Lib.hid (fun i (hi : i < n) => hsh.nonneg i hi)
  have HSH := Lib.hid hsh
  have HC := Lib.hid (cnt_nonneg L)
  have HR := Lib.hid hrow
  have HB := Lib.hid hb
  clear hsh hrow hb HO
  go_wp2
  go_loopw [9, 3] (fun i v ws => ∃ k : Nat, k ≤ n ∧ i = .int .i64 k ∧ v = .int .i64 (cnt L k) ∧ cnt L k ≤ k ∧ ws = w1) (fun i _ _ => n - (intOf i).toNat)
  case atStart => exact ⟨0, by omega, rfl, rfl, by simp [cnt], rfl⟩
  case round =>
    obtain ⟨k, hk, rfl, rfl, hc, rfl⟩ := hrel
    obtain ⟨W1, rfl⟩ : ∃ W1 : World, W1 = wr := ⟨_, rfl⟩
    by_cases hlt : k < n
    · have c0 := HR.out.cell (iv_get L hlt)
      have h0 := HL.out k hlt
      have h1 := HL0.out k hlt
      have h2 := HC.out k
      have HK := Lib.hid (show cnt L (k + 1) = max (cnt L k) (L k + 1) from rfl)
      generalize L k = l at *
      generalize cnt L k = m at *
      by_cases hm : m ≤ l + 1
      · go_wp2
        go_roundw
        case rel => exact ⟨k + 1, by omega, by go_num, by rw [HK.out], by rw [HK.out]; omega, by trivial⟩
        case measure => simp [intOf]; omega
      · go_wp2
        go_roundw
        case rel => exact ⟨k + 1, by omega, by go_num, by rw [HK.out], by rw [HK.out]; omega, by trivial⟩
        case measure => simp [intOf]; omega
    · obtain rfl : k = n := by omega
      go_wp2
      exact bodyPost_ret (v := .int .i64 (cnt L k)) (by simp [results, Try.results18, go_sem]) rfl ⟨L, rfl, HSH.out, HB.out⟩
/-- The number with a number. -/
def I! (xs : List Int) (i : Nat) : Int := xs.getD i 0
/-- A list of ints lies at an address. -/
def IntsAt (w : World) (ao : Option Addr) (xs : List Int) : Prop :=
  xs ≠ [] → ∃ b off, ao = some ⟨b, off, none⟩ ∧ b < w.heap.size ∧ ∀ i, i < xs.length → w.cell? ⟨b, off + i, none⟩ = some (.int .i64 (I! xs i))
theorem IntsAt.mono {w w' : World} {ao : Option Addr} {xs : List Int} {B : Nat} (h : IntsAt w ao xs) (hB : w.heap.size ≤ B) (hb : Below B w w') : IntsAt w' ao xs := by
  intro hx
  obtain ⟨b, off, rfl, hlt, hc⟩ := h hx
  exact ⟨b, off, rfl, by have := hb.size; omega, fun i hi => (hb.cell (p := ⟨b, _, none⟩) (show b < B by omega)).trans (hc i hi)⟩
theorem IntsAt.get {w wr : World} {ao : Option Addr} {xs : List Int} (h : IntsAt w ao xs) {B : Nat} (hB : w.heap.size ≤ B) (hb : Below B w wr) {i : Nat} (hi : i < xs.length) :
    ∃ b off x, ao = some ⟨b, off, none⟩ ∧ Hid (I! xs i = x) ∧ wr.cell? ⟨b, off + i, none⟩ = some (.int .i64 x) ∧ b < w.heap.size ∧ b < wr.heap.size := by
  obtain ⟨b, off, rfl, hlt, hc⟩ := (h.mono hB hb) (by intro e; simp [e] at hi)
  obtain ⟨b', off', e, hlt', -⟩ := h (by intro e; simp [e] at hi)
  cases e
  exact ⟨b, off, _, rfl, rfl, hc i hi, hlt', hlt⟩
theorem I!_get {xs : List Int} {i : Nat} (h : i < xs.length) : xs[i]? = some (I! xs i) := by
  simp [I!, List.getElem?_eq_getElem h]
theorem ints_ext {xs ys : List Int} (hl : xs.length = ys.length) (h : ∀ i, i < xs.length → I! xs i = I! ys i) : xs = ys := by
  apply List.ext_getElem hl
  intro i h1 h2
  have := h i h1
  unfold I! at this
  simpa [List.getD_eq_getElem?_getD, List.getElem?_eq_getElem h1, List.getElem?_eq_getElem h2] using this
/-- The first n values of a function. -/
def il (f : Nat → Int) (n : Nat) : List Int := (List.range n).map f
theorem il_length (f : Nat → Int) (n : Nat) : (il f n).length = n := by simp [il]
theorem il_get (f : Nat → Int) {n i : Nat} (h : i < n) : I! (il f n) i = f i := by simp [I!, il, h]
theorem il_congr {f g : Nat → Int} {n : Nat} (h : ∀ i, i < n → f i = g i) : il f n = il g n := List.map_congr_left fun i hi => h i (List.mem_range.1 hi)
theorem RowIs.ints {w : World} {g n : Nat} {f : Nat → Int} {e : TypeId} (h : RowIs w g e (iv f n)) : IntsAt w (some ⟨g, 0, none⟩) (il f n) := fun _ =>
  ⟨g, 0, rfl, h.lt, fun i hi => by
    rw [il_length] at hi
    rw [Nat.zero_add, il_get f hi]
    exact h.cell (iv_get f hi)⟩
set_option maxRecDepth 100000 in
set_option maxHeartbeats 1000000 in
theorem ints_any (ao bo : Option Addr) (cap cap' : Nat) (T U : List Int) (w : World) (hl : T.length ≤ 100000) (hT : IntsAt w ao T) (hU : IntsAt w bo U) :
    Calls Try.prog 15 #[.slice ao T.length cap, .slice bo U.length cap'] w fun e w' => e = .returned (.bool (decide (T = U))) ∧ Below w.heap.size w w' := by
  obtain ⟨len, hlen⟩ : ∃ n, n = T.length := ⟨_, rfl⟩
  by_cases hne : T.length = U.length
  · rw [← hne, ← hlen]
    rw [← hlen] at hl
    have HT := Lib.hid hT
    have HU := Lib.hid hU
    have HL := Lib.hid hlen
    have HNE := Lib.hid hne
    obtain ⟨r, hr⟩ : ∃ r, r = decide (T = U) := ⟨_, rfl⟩
    rw [← hr]
    have HR := Lib.hid hr
    clear hT hU hlen hne hr
    go_enter Try.func15, Try.ntmps15
    go_wp2
    go_loopw [13] (fun i ws => ∃ k : Nat, k ≤ len ∧ i = .int .i64 k ∧ (∀ i, i < k → I! T i = I! U i) ∧ Below w.heap.size w ws) (fun i _ => len - (intOf i).toNat)
    case atStart => exact ⟨0, by omega, rfl, fun i h => by omega, Below.refl _ _⟩
    case round =>
      obtain ⟨k, hk, rfl, hpre, hb⟩ := hrel
      obtain ⟨W1, rfl⟩ : ∃ W1 : World, W1 = wr := ⟨_, rfl⟩
      have HP := Lib.hid hpre
      have HB := Lib.hid hb
      clear hpre hb
      by_cases hlt : k < len
      · obtain ⟨b, off, x, rfl, ht, g0, hbs, hbs'⟩ := HT.out.get (Nat.le_refl _) HB.out (i := k) (by have := HL.out; omega)
        obtain ⟨b', off', x', rfl, ht', g0', hcs, hcs'⟩ := HU.out.get (Nat.le_refl _) HB.out (i := k) (by have := HL.out; have := HNE.out; omega)
        by_cases he : x = x'
        · subst he
          have HP' := Lib.hid (show ∀ i, i < k + 1 → I! T i = I! U i from fun i h => by
            by_cases e : i = k
            · subst e; rw [ht.out, ht'.out]
            · exact HP.out i (by omega))
          clear ht ht' hbs hcs
          go_wp2
          go_quiet (fail)
          go_wp2
          go_roundw
          case rel => exact ⟨k + 1, by omega, by go_num, HP'.out, HB.out.trans ⟨rfl, rfl, rfl, Nat.le_refl _, fun _ _ => rfl⟩⟩
          case measure => simp [intOf]; omega
        · have HF := Lib.hid (show r = false from by
            rw [HR.out]
            simp only [decide_eq_false_iff_not]
            rintro rfl
            exact he (ht.out.symm.trans ht'.out))
          have hq : (x == x') = false := by simp [he]
          have hq2 : (x != x') = true := by simp [he]
          clear ht ht' he hbs hcs
          go_wp2
          go_quiet (fail)
          go_wp2
          exact bodyPost_ret (v := .bool false) (by simp [results, Try.results15, go_sem]) rfl ⟨by rw [HF.out], HB.out.trans ⟨rfl, rfl, rfl, Nat.le_refl _, fun _ _ => rfl⟩⟩
      · obtain rfl : k = len := by omega
        have HF := Lib.hid (show r = true from by
            rw [HR.out]
            simp only [decide_eq_true_eq]
            exact ints_ext HNE.out (by rw [← HL.out]; exact HP.out))
        go_wp2
        exact bodyPost_ret (v := .bool true) (by simp [results, Try.results15, go_sem]) rfl ⟨by rw [HF.out], HB.out⟩
  · obtain ⟨len', hlen'⟩ : ∃ n, n = U.length := ⟨_, rfl⟩
    have HF := Lib.hid (show decide (T = U) = false from by simp only [decide_eq_false_iff_not]; exact fun e => hne (by rw [e]))
    rw [← hlen, ← hlen'] at hne
    rw [HF.out, ← hlen, ← hlen']
    have hb : (len == len') = false := by simp [hne]
    have hb2 : (len != len') = true := by simp [hne]
    clear hT hU hlen hlen' hl
    go_enter Try.func15, Try.ntmps15
    go_wp2
    exact bodyPost_ret (v := .bool false) (by simp [results, Try.results15, go_sem]) rfl ⟨rfl, Below.refl _ _⟩
end Go.Proofs.Ytkggphfekeiejaa

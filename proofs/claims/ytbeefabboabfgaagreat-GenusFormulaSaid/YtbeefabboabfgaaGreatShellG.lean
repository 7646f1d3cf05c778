/- The shells' numbers on a surface's table: shell.Of, shell.Count by one list. -/
import Derived.Test.YtbeefabboabfgaaGreatShellOf
import Derived.Test.YtbeefabboabfgaaGreatFaceLaw
import Derived.Test.YtbeefabboabfgaaGreatCornerNew
import Derived.Test.YtbeefabboabfgaaGreatSpread
import Derived.Test.YtbeefabboabfgaaGreatTogether
import Derived.Test.YtbeefabboabfgaaGreatIntsDef
namespace Go.Proofs.YtbeefabboabfgaaGreat
set_option linter.unusedVariables false
set_option linter.unusedSimpArgs false
open Go.RowKit
def nbP (t u : Tr) (i k : Nat) : Bool := tg t i == tg u ((k + 1) % 3) && tg t ((i + 1) % 3) == tg u k
def nbB (t u : Tr) : Bool := (List.range 3).any fun i => (List.range 3).any fun k => nbP t u i k
theorem nbB_no {t u : Tr} (h : ∀ i k, i < 3 → k < 3 → nbP t u i k = false) : nbB t u = false := by
  unfold nbB
  simp only [List.any_eq_false, List.mem_range, Bool.not_eq_true]
  exact fun i hi k hk => h i k hi hk
theorem nbB_yes {t u : Tr} {i k : Nat} (hi : i < 3) (hk : k < 3) (h : nbP t u i k = true) : nbB t u = true := by
  unfold nbB
  simp only [List.any_eq_true, List.mem_range]
  exact ⟨i, hi, k, hk, h⟩
/-- Two triangles of a list are neighbours. -/
def NbA (T : List Tr) (i j : Nat) : Prop := i < T.length ∧ j < T.length ∧ nbB (T! T i) (T! T j) = true
theorem nbB_iff {t u : Tr} : nbB t u = true ↔ ∃ i k, i < 3 ∧ k < 3 ∧ tg t i = tg u ((k + 1) % 3) ∧ tg t ((i + 1) % 3) = tg u k := by
  constructor
  · intro h
    unfold nbB at h
    simp only [List.any_eq_true, List.mem_range, nbP, Bool.and_eq_true, beq_iff_eq] at h
    obtain ⟨i, hi, k, hk, h1, h2⟩ := h
    exact ⟨i, k, hi, hk, h1, h2⟩
  · rintro ⟨i, k, hi, hk, h1, h2⟩
    exact nbB_yes hi hk (by simp [nbP, h1, h2])
theorem nbB_symm {t u : Tr} (h : nbB t u = true) : nbB u t = true := by
  obtain ⟨i, k, hi, hk, h1, h2⟩ := nbB_iff.1 h
  exact nbB_iff.2 ⟨k, i, hk, hi, h2.symm, h1.symm⟩
theorem NbA.symm {T : List Tr} {i j : Nat} (h : NbA T i j) : NbA T j i := ⟨h.2.1, h.1, nbB_symm h.2.2⟩
theorem hasB_tg {t : Tr} {x : Int} (h : hasB t x = true) : ∃ j, tg t j = x := by
  simp only [hasB, Bool.or_eq_true, beq_iff_eq] at h
  rcases h with (h | h) | h
  · exact ⟨0, h⟩
  · exact ⟨1, h⟩
  · exact ⟨2, h⟩
theorem Surf.adj_nb {N : Int} {T : List Tr} (hs : Surf N T) {i j : Nat} (h : Adj T i j) : NbA T i j := by
  obtain ⟨k, hk, h0, e⟩ := h
  rw [opp_tri T i k hk] at h0 e
  obtain ⟨d, e1, hd, he⟩ := facing_some h0
  rw [e1] at e
  have hdj : d / 3 = j := by simpa using e
  rw [edge_of_nat, hdj] at he
  simp only [Prod.mk.injEq] at he
  have hj : j < T.length := by omega
  refine ⟨?_, hj, nbB_iff.2 ⟨(k + 1) % 3, (d % 3 + 1) % 3, by omega, by omega, ?_, ?_⟩⟩
  · by_cases hi : i < T.length
    · exact hi
    · have hT : T! T i = (0, 0, 0) := by simp [T!, List.getD_eq_getElem?_getD, List.getElem?_eq_none (Nat.le_of_not_lt hi)]
      rw [hT] at he
      have hz : ∀ m, tg ((0, 0, 0) : Tr) m = 0 := fun m => by
        match m with
        | 0 => rfl
        | 1 => rfl
        | _ + 2 => rfl
      rw [hz, hz] at he
      have := tg_ne (hs.noloop j hj) (l := (d % 3 + 1) % 3) (j := (d % 3 + 2) % 3) (by omega) (by omega) (he.1.trans he.2.symm)
      omega
  · rw [show ((d % 3 + 1) % 3 + 1) % 3 = (d % 3 + 2) % 3 by omega]
    exact he.2.symm
  · rw [show ((k + 1) % 3 + 1) % 3 = (k + 2) % 3 by omega]
    exact he.1.symm
theorem Surf.nb_adj {N : Int} {T : List Tr} (hs : Surf N T) {i j : Nat} (h : NbA T i j) : Adj T i j := by
  obtain ⟨hi, hj, h⟩ := h
  obtain ⟨p, q, hp, hq, e1, e2⟩ := nbB_iff.1 h
  have hed : edgeAt T ((3 * j + (q + 2) % 3 : Nat) : Int) = (tg (T! T i) (((p + 2) % 3 + 2) % 3), tg (T! T i) (((p + 2) % 3 + 1) % 3)) := by
    rw [edge_of_nat, show (3 * j + (q + 2) % 3) / 3 = j by omega, show ((3 * j + (q + 2) % 3) % 3 + 1) % 3 = q by omega, show ((3 * j + (q + 2) % 3) % 3 + 2) % 3 = (q + 1) % 3 by omega,
      show ((p + 2) % 3 + 2) % 3 = (p + 1) % 3 by omega, show ((p + 2) % 3 + 1) % 3 = p by omega, e1, e2]
  have h0 := facing_of (T := T) (c := 3 * j + (q + 2) % 3) (by omega) hed
  refine ⟨(p + 2) % 3, by omega, ?_, ?_⟩
  · rw [opp_tri T i _ (by omega)]; exact h0
  · rw [opp_tri T i _ (by omega)]
    obtain ⟨d, e3, hd, he⟩ := facing_some h0
    rw [e3, Int.toNat_natCast]
    rw [← hed, edge_of_nat, edge_of_nat] at he
    simp only [Prod.mk.injEq] at he
    have := hs.edge_one (i := d / 3) (i' := (3 * j + (q + 2) % 3) / 3) (p := (d % 3 + 1) % 3) (q := ((3 * j + (q + 2) % 3) % 3 + 1) % 3) (by omega) (by omega) (by omega) (by omega) he.1
      (by rw [show ((d % 3 + 1) % 3 + 1) % 3 = (d % 3 + 2) % 3 by omega, show (((3 * j + (q + 2) % 3) % 3 + 1) % 3 + 1) % 3 = ((3 * j + (q + 2) % 3) % 3 + 2) % 3 by omega]; exact he.2)
    omega
theorem Surf.adj_symm {N : Int} {T : List Tr} (hs : Surf N T) {i j : Nat} (h : Adj T i j) : Adj T j i := hs.nb_adj (hs.adj_nb h).symm
theorem Surf.shells_one {N : Int} {T : List Tr} (hs : Surf N T) {L M : Nat → Int} (hL : IsShells (Adj T) T.length L) (hM : IsShells (Adj T) T.length M) : ∀ i, i < T.length → L i = M i :=
  hL.same hM (fun i j hi hj h => hM.clo i j hi hj h) (fun i j hi hj h => hL.clo i j hi hj h) (fun i j _ h => (hs.adj_nb h).2.1) (fun i j _ h => (hs.adj_nb h).1) (fun i j _ h => (hs.adj_nb h).2.1) (fun i j _ h => (hs.adj_nb h).1)
/-- Triangles at a vertex that have another vertex in common are one, or neighbours. -/
theorem Surf.padj {N : Int} {T : List Tr} (hs : Surf N T) {v : Int} {i k : Nat} (h : PAdj T v i k) : i = k ∨ NbA T i k := by
  obtain ⟨hi, hk, h1, h2, j, hj, hne, h3⟩ := h
  obtain ⟨p, hp, e1⟩ := hasB_iff.1 h1
  obtain ⟨p', hp', e2⟩ := hasB_iff.1 h2
  obtain ⟨j', hj', e3⟩ := hasB_iff.1 h3
  have hpj : p ≠ j := fun e => hne (by rw [← e]; exact e1)
  have hpj' : p' ≠ j' := fun e => hne (by rw [← e3, ← e]; exact e2)
  have hd : j = (p + 1) % 3 ∨ p = (j + 1) % 3 := by omega
  have hd' : j' = (p' + 1) % 3 ∨ p' = (j' + 1) % 3 := by omega
  rcases hd with hd | hd <;> rcases hd' with hd' | hd'
  · exact .inl (hs.edge_one hi hk hp hp' (e1.trans e2.symm) (by rw [← hd, ← hd']; exact e3.symm)).1
  · exact .inr ⟨hi, hk, nbB_iff.2 ⟨p, j', hp, hj', by rw [← hd']; exact e1.trans e2.symm, by rw [← hd]; exact e3.symm⟩⟩
  · exact .inr ⟨hi, hk, nbB_iff.2 ⟨j, p', hj, hp', by rw [← hd']; exact e3.symm, by rw [← hd]; exact e1.trans e2.symm⟩⟩
  · exact .inl (hs.edge_one hi hk hj hj' e3.symm (by rw [← hd, ← hd']; exact e1.trans e2.symm)).1
/-- Triangles with a vertex in common are of one shell. -/
theorem Surf.at_vertex {N : Int} {T : List Tr} (hs : Surf N T) {L : Nat → Int} (hL : IsShells (Adj T) T.length L) {v : Int} {i k : Nat} (hi : i < T.length) (hk : k < T.length) (h1 : hasB (T! T i) v = true) (h2 : hasB (T! T k) v = true) : L i = L k := by
  obtain ⟨j, e⟩ := hasB_tg h1
  have hv := hs.vin i hi j
  rw [e] at hv
  have hc := hs.pin v hv.1 hv.2 i k hi hk h1 h2
  have step : ∀ a b, PAdj T v a b → L a = L b := fun a b h => by
    rcases hs.padj h with rfl | h'
    · rfl
    · exact (hL.clo a b h.1 h.2.1 (hs.nb_adj h')).symm
  have gen : ∀ a b, Conn (PAdj T v) a b → L a = L b := by
    intro a b c
    induction c with
    | refl => rfl
    | step _ s ih => exact ih.trans (step _ _ s)
    | back _ s ih => exact ih.trans (step _ _ s).symm
  exact gen i k hc
/-- One more than the greatest of n numbers; 0: there is none. -/
def cnt (L : Nat → Int) : Nat → Int
  | 0 => 0
  | k + 1 => max (cnt L k) (L k + 1)
theorem cnt_nonneg (L : Nat → Int) : ∀ n, 0 ≤ cnt L n
  | 0 => Int.le_refl _
  | k + 1 => by have := cnt_nonneg L k; unfold cnt; omega
theorem cnt_lt (L : Nat → Int) : ∀ n i, i < n → L i < cnt L n
  | 0, i, h => by omega
  | k + 1, i, h => by
    unfold cnt
    by_cases e : i = k
    · subst e; omega
    · have := cnt_lt L k i (by omega); omega
theorem cnt_has (L : Nat → Int) : ∀ n, 0 < cnt L n → ∃ i, i < n ∧ cnt L n = L i + 1
  | 0, h => by simp [cnt] at h
  | k + 1, h => by
    unfold cnt at h ⊢
    by_cases e : cnt L k ≤ L k + 1
    · exact ⟨k, by omega, by omega⟩
    · obtain ⟨i, hi, e'⟩ := cnt_has L k (by omega)
      exact ⟨i, by omega, by omega⟩
theorem cnt_congr {L M : Nat → Int} : ∀ n, (∀ i, i < n → L i = M i) → cnt L n = cnt M n
  | 0, _ => rfl
  | k + 1, h => by unfold cnt; rw [cnt_congr k fun i hi => h i (by omega), h k (by omega)]
theorem IsShells.le {A : Nat → Nat → Prop} {n : Nat} {L : Nat → Int} (h : IsShells A n L) : ∀ i, i < n → L i ≤ i := by
  intro i
  induction i using Nat.strongRecOn with
  | _ i ih =>
    intro hi
    by_cases e : L i ≤ 0
    · omega
    · obtain ⟨j, hj, ej⟩ := h.rg i hi (L i - 1) (by omega) (by omega)
      have := ih j hj (by omega)
      omega
theorem IsShells.cnt_le {A : Nat → Nat → Prop} {n : Nat} {L : Nat → Int} (h : IsShells A n L) : cnt L n ≤ n := by
  by_cases e : 0 < cnt L n
  · obtain ⟨i, hi, e'⟩ := cnt_has L n e
    have := h.le i hi
    omega
  · omega
set_option maxRecDepth 100000 in
set_option maxHeartbeats 1000000 in
theorem count_any (w : World) (b : Nat) (N : Int) (T : List Tr) (h : Tab w b N T) (hsym : ∀ i j, i < T.length → j < T.length → Adj T i j → Adj T j i) (hopp : ∀ c : Int, 0 ≤ c → c < 3 * T.length → opp T c < 3 * T.length) :
    Calls Tryz.prog 29 #[.pointer (some ⟨b, 0, none⟩)] w fun e w' => ∃ L, e = .returned (.int .i64 (cnt L T.length)) ∧ IsShells (Adj T) T.length L ∧ Below w.heap.size w w' := by
  have HO := Lib.hid (of_any w b N T h hsym hopp)
  have hlen := h.len
  clear h hsym hopp
  obtain ⟨n, hn⟩ : ∃ n, n = T.length := ⟨_, rfl⟩
  rw [← hn] at HO hlen ⊢
  clear hn
  go_enter Tryz.func29, Tryz.ntmps29
  go_wp2_with fail
  refine HO.out.mono ?_
  rintro e w1 ⟨g, L, rfl, hg, hrow, hsh, hb⟩
  have HL := Lib.hid (fun i (hi : i < n) => hsh.le i hi)
  have HL0 := Lib.hid (fun i (hi : i < n) => hsh.nonneg i hi)
  have HSH := Lib.hid hsh
  have HC := Lib.hid (cnt_nonneg L)
  have HR := Lib.hid hrow
  have HB := Lib.hid hb
  clear hsh hrow hb HO
  go_wp2
  go_loopw [9, 3] (fun i v ws => ∃ k : Nat, k ≤ n ∧ i = .int .i64 k ∧ v = .int .i64 (cnt L k) ∧ cnt L k ≤ k ∧ ws = w1) (fun i _ _ => n - (intOf i).toNat)
  case atStart => exact ⟨0, by omega, rfl, rfl, by simp [cnt], rfl⟩
  case round =>
    obtain ⟨k, hk, rfl, rfl, hc, rfl⟩ := hrel
    obtain ⟨W1, rfl⟩ : ∃ W1 : World, W1 = wr := ⟨_, rfl⟩
    by_cases hlt : k < n
    · have c0 := HR.out.cell (iv_get L hlt)
      have h0 := HL.out k hlt
      have h1 := HL0.out k hlt
      have h2 := HC.out k
      have HK := Lib.hid (show cnt L (k + 1) = max (cnt L k) (L k + 1) from rfl)
      generalize L k = l at *
      generalize cnt L k = m at *
      by_cases hm : m ≤ l + 1
      · go_wp2
        go_roundw
        case rel => exact ⟨k + 1, by omega, by go_num, by rw [HK.out], by rw [HK.out]; omega, by trivial⟩
        case measure => simp [intOf]; omega
      · go_wp2
        go_roundw
        case rel => exact ⟨k + 1, by omega, by go_num, by rw [HK.out], by rw [HK.out]; omega, by trivial⟩
        case measure => simp [intOf]; omega
    · obtain rfl : k = n := by omega
      go_wp2
      exact bodyPost_ret (v := .int .i64 (cnt L k)) (by simp [results, Tryz.results29, go_sem]) rfl ⟨L, rfl, HSH.out, HB.out⟩
theorem shells_exist (A : Nat → Nat → Prop) (n : Nat) : ∃ L, IsShells A n L := by
  have hr : ∃ φ : Nat → Nat, Rep A n φ := by
    refine ⟨fun i => Classical.choose (least_of A i), fun i hi => ?_, fun i j hi hj c => ?_⟩
    · obtain ⟨h1, h2⟩ := Classical.choose_spec (least_of A i)
      exact ⟨h1 i h2, h2⟩
    · obtain ⟨h1, h2⟩ := Classical.choose_spec (least_of A i)
      obtain ⟨g1, g2⟩ := Classical.choose_spec (least_of A j)
      have q1 := h1 _ (h2.trans (c.trans g2.symm))
      have q2 := g1 _ (g2.trans (c.symm.trans h2.symm))
      show Classical.choose (least_of A i) = Classical.choose (least_of A j)
      omega
  obtain ⟨φ, hφ⟩ := hr
  have h : ∀ i, i ≤ n → ∃ c M, NInv φ i c M := by
    intro i
    induction i with
    | zero => exact fun _ => ⟨0, fun _ => 0, NInv.start _ _⟩
    | succ i ih =>
      intro hi
      obtain ⟨c, M, h⟩ := ih (by omega)
      by_cases e : φ i = i
      · exact ⟨_, _, h.fresh hφ (by omega) e⟩
      · exact ⟨_, _, (h.same hφ (by omega) e).2⟩
  obtain ⟨c, M, h⟩ := h n (Nat.le_refl _)
  exact ⟨M, h.done hφ⟩
section
variable {N : Int} {T : List Tr} {L : Nat → Int} {m : Nat}
theorem of_L (hs : Surf N T) (hL : IsShells (Adj T) T.length L) (w : World) (p : Nat) (h : Tab w p N T) :
    Calls Tryz.prog 28 #[.pointer (some ⟨p, 0, none⟩)] w fun e w' => ∃ g, e = .returned (.slice (some ⟨g, 0, none⟩) T.length T.length) ∧ w.heap.size ≤ g ∧ RowIs w' g 3 (iv L T.length) ∧ Below w.heap.size w w' :=
  (of_any w p N T h (fun i j _ _ h => hs.adj_symm h) (fun c h0 h1 => opp_lt c h0 h1)).mono fun e w' ⟨g, M, he, hg, hr, hM, hb⟩ => ⟨g, he, hg, by rw [iv_congr (hs.shells_one hL hM)]; exact hr, hb⟩
theorem count_L (hs : Surf N T) (hL : IsShells (Adj T) T.length L) (hm : (m : Int) = cnt L T.length) (w : World) (p : Nat) (h : Tab w p N T) :
    Calls Tryz.prog 29 #[.pointer (some ⟨p, 0, none⟩)] w fun e w' => e = .returned (.int .i64 (m : Int)) ∧ Below w.heap.size w w' :=
  (count_any w p N T h (fun i j _ _ h => hs.adj_symm h) (fun c h0 h1 => opp_lt c h0 h1)).mono fun e w' ⟨M, he, hM, hb⟩ => ⟨by rw [he, hm, cnt_congr _ (hs.shells_one hL hM)], hb⟩
end
end Go.Proofs.YtbeefabboabfgaaGreat

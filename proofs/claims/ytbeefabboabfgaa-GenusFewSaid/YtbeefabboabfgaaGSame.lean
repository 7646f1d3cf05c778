/- genus.Same. -/
import Derived.Test.YtbeefabboabfgaaKinds
namespace Go.Proofs.Ytbeefabboabfgaa
set_option linter.unusedVariables false
set_option linter.unusedSimpArgs false
open Go.RowKit
/-- The kinds of a list of triangles: those of a surface's shells, in order. -/
def KindIs (N : Int) (T : List Tr) (E : List (Int × Int)) (ok : Bool) : Prop :=
  (∃ (n m : Nat) (L : Nat → Int), N = n ∧ Surf n T ∧ IsShells (Adj T) T.length L ∧ (m : Int) = cnt L T.length ∧ E = sortP (kindL (genF T L n) m) ∧ ok = true) ∨ (¬ Surf N T ∧ E = [] ∧ ok = false)
theorem kind_exists (N : Int) (T : List Tr) : ∃ E ok, KindIs N T E ok := by
  by_cases hs : Surf N T
  · obtain ⟨n, hn⟩ : ∃ n : Nat, N = n := ⟨N.toNat, by have := hs.n0; omega⟩
    subst hn
    obtain ⟨L, hL⟩ := shells_exist (Adj T) T.length
    obtain ⟨m, hm⟩ : ∃ m : Nat, (m : Int) = cnt L T.length := ⟨(cnt L T.length).toNat, by have := cnt_nonneg L T.length; omega⟩
    exact ⟨_, _, Or.inl ⟨n, m, L, rfl, hs, hL, hm, rfl, rfl⟩⟩
  · exact ⟨_, _, Or.inr ⟨hs, rfl, rfl⟩⟩
theorem KindIs.ok {N : Int} {T : List Tr} {E : List (Int × Int)} {ok : Bool} (h : KindIs N T E ok) : ok = true ↔ Surf N T := by
  rcases h with ⟨n, m, L, rfl, hs, -, -, -, rfl⟩ | ⟨hs, -, rfl⟩
  · exact ⟨fun _ => hs, fun _ => rfl⟩
  · exact ⟨fun h => (by cases h), fun h => absurd h hs⟩
theorem kinds_any (N : Int) (ao : Option Addr) (cap : Nat) (T : List Tr) (E : List (Int × Int)) (ok : Bool) (w : World) (hT : TrisAt w ao T) (hl : T.length ≤ 8192) (hk : KindIs N T E ok) :
    Calls Try.prog 27 #[.agg #[.int .i64 N, .slice ao T.length cap]] w fun e w' => ∃ bo cap', e = .returned (.tuple #[.slice bo E.length cap', .bool ok]) ∧ EdgesAt w' bo E ∧ Below w.heap.size w w' := by
  rcases hk with ⟨n, m, L, rfl, hs, hL, hm, rfl, rfl⟩ | ⟨hs, rfl, rfl⟩
  · refine (kinds_yes n m ao cap T L w hT hs hL hm).mono ?_
    rintro e w' ⟨bo, c, rfl, h⟩
    exact ⟨bo, c, by rw [sortP_length, kindL_length], h⟩
  · refine (kinds_no N ao cap T w hT hl hs).mono ?_
    rintro e w' ⟨rfl, h⟩
    exact ⟨none, 0, rfl, fun hn => absurd rfl hn, h⟩
theorem KindIs.le {N : Int} {T : List Tr} {E : List (Int × Int)} {ok : Bool} (h : KindIs N T E ok) : E.length ≤ T.length := by
  rcases h with ⟨n, m, L, rfl, hs, hL, hm, rfl, rfl⟩ | ⟨hs, rfl, rfl⟩
  · rw [sortP_length, kindL_length]
    have := hL.cnt_le
    omega
  · simp
set_option maxRecDepth 100000 in
set_option maxHeartbeats 2000000 in
theorem gsame_any (N M : Int) (ao bo : Option Addr) (cap cap' : Nat) (T U : List Tr) (E F : List (Int × Int)) (p q : Bool) (w : World) (hT : TrisAt w ao T) (hU : TrisAt w bo U) (hl : T.length ≤ 8192) (hl' : U.length ≤ 8192) (hk : KindIs N T E p) (hk' : KindIs M U F q) :
    Calls Try.prog 13 #[.agg #[.int .i64 N, .slice ao T.length cap], .agg #[.int .i64 M, .slice bo U.length cap']] w fun e w' => e = .returned (.bool (p && (q && decide (E = F)))) ∧ Below w.heap.size w w' := by
  obtain ⟨W0, hW0⟩ : ∃ W0, W0 = (w.alloc (.cells #[.int .i64 N, .slice ao T.length cap] 24)).alloc (.cells #[.int .i64 M, .slice bo U.length cap'] 24) := ⟨_, rfl⟩
  have hb0 : Below w.heap.size w W0 := by rw [hW0]; exact ((Below.refl _ _).alloc (Nat.le_refl _) _).alloc (by simp) _
  have hr0 : RowIs W0 w.heap.size 24 [.int .i64 N, .slice ao T.length cap] := by rw [hW0]; exact (RowIs.made w 24 [.int .i64 N, .slice ao T.length cap]).alloc _
  have hr1 : RowIs W0 (w.heap.size + 1) 24 [.int .i64 M, .slice bo U.length cap'] := by rw [hW0]; exact RowIs.made' _ _ [.int .i64 M, .slice bo U.length cap'] _ (by simp)
  have HK1 := Lib.hid (kinds_any N ao cap T E p W0 (hT.mono (Nat.le_refl _) hb0) hl hk)
  have HK2 := Lib.hid (show ∀ X, Below W0.heap.size W0 X → _ from fun X hX => kinds_any M bo cap' U F q X ((hU.mono (Nat.le_refl _) hb0).mono (Nat.le_refl _) hX) hl' hk')
  have hle := hk.le
  have hle' := hk'.le
  have HEL := Lib.hid (show E.length ≤ 1000000 ∧ F.length ≤ 1000000 from ⟨by omega, by omega⟩)
  obtain ⟨l, hlen⟩ : ∃ l, l = T.length := ⟨_, rfl⟩
  obtain ⟨l', hlen'⟩ : ∃ l, l = U.length := ⟨_, rfl⟩
  obtain ⟨r, hr⟩ : ∃ r, r = decide (E = F) := ⟨_, rfl⟩
  simp only [← hlen] at HK1 hr0 hW0 ⊢
  simp only [← hlen'] at HK2 hr1 hW0 ⊢
  rw [← hr]
  have c0 := hr0.cell (i := 0) rfl
  have c1 := hr0.cell (i := 1) rfl
  have HR1 := Lib.hid hr1
  have HB0 := Lib.hid hb0
  have HW0 := Lib.hid hW0
  have HR := Lib.hid hr
  clear hT hU hl hl' hk hk' hb0 hr0 hr1 hW0 hlen hlen' hr hle hle'
  go_enter Try.func13, Try.ntmps13
  go_upto_region 1 with fail
  rw [← HW0.out]
  go_wp2_with fail
  refine HK1.out.mono ?_
  rintro e W1 ⟨ao1, c1', rfl, hE, hb1⟩
  have hr1 := HR1.out.after hb1
  have d0 := hr1.cell (i := 0) rfl
  have d1 := hr1.cell (i := 1) rfl
  have HE := Lib.hid hE
  have HB1 := Lib.hid hb1
  have HBW := Lib.hid (below_more HB0.out hb1 HB0.out.size)
  clear hE hb1 hr1 c0 c1 HK1
  go_upto_region 2 with fail
  go_wp2_with fail
  refine (HK2.out W1 HB1.out).mono ?_
  rintro e W2 ⟨ao2, c2', rfl, hF, hb2⟩
  have HF := Lib.hid hF
  have HE2 := Lib.hid (HE.out.mono (Nat.le_refl _) hb2)
  have HB2 := Lib.hid (below_more HBW.out hb2 HBW.out.size)
  have HQ := Lib.hid (pairs_equal ao1 ao2 c1' c2' E F W2 HEL.out.1 HEL.out.2 HE2.out hF)
  rw [← HR.out] at HQ
  clear hF hb2 d0 d1 HK2
  cases p
  case false =>
    go_wp2_with fail
    exact bodyPost_ret (v := .bool false) (by simp [results, Try.results13, go_sem]) rfl ⟨rfl, HB2.out⟩
  case true =>
  cases q
  case false =>
    go_wp2_with fail
    exact bodyPost_ret (v := .bool false) (by simp [results, Try.results13, go_sem]) rfl ⟨rfl, HB2.out⟩
  case true =>
    go_wp2_with fail
    refine HQ.out.mono ?_
    rintro e X ⟨rfl, nq, rfl⟩
    go_wp2
    exact bodyPost_ret (v := .bool r) (by simp [results, Try.results13, go_sem]) rfl ⟨by simp, HB2.out.trans ⟨rfl, rfl, rfl, Nat.le_refl _, fun _ _ => rfl⟩⟩
end Go.Proofs.Ytbeefabboabfgaa

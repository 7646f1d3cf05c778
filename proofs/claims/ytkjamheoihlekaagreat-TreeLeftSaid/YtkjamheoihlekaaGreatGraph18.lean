/- tree.Graph: contract. -/
import Derived.Test.YtkjamheoihlekaaGreatAwake18a
import Derived.Test.YtkjamheoihlekaaGreatLoopsW
namespace Go.Proofs.YtkjamheoihlekaaGreat
set_option linter.unusedVariables false
set_option linter.unusedSimpArgs false
open Go.RowKit
theorem ukey_i64 {n : Nat} {T : List Tr} (hs : Surf n T) {c : Nat} (hc : c < 3 * T.length) : I64 (ukey T c).1 ∧ I64 (ukey T c).2 := by
  have h1 := hs.vin.vt (c := (nxn c : Nat)) (by omega) (by have := nxn_lt hc; omega)
  have h2 := hs.vin.vt (c := (pvn c : Nat)) (by omega) (by have := pvn_lt hc; omega)
  have hn := hs.n1
  unfold ukey I64
  simp only
  omega
theorem rest_i64 {n : Nat} {T : List Tr} (hs : Surf n T) {f : Nat} {D : List (Int × Int)} (hD : ∀ a, a ∈ D ↔ restB T (bfs T f) a) : EI64 (sortP D) := fun e he => by
  rw [sortP_mem, hD] at he
  obtain ⟨⟨c, hc, -, rfl⟩, -⟩ := he
  exact ukey_i64 hs hc
theorem rest_few18 {T : List Tr} {f : Nat} {D : List (Int × Int)} (hn : D.Nodup) (h : ∀ a, a ∈ D ↔ restB T (bfs T f) a) : D.length ≤ 3 * T.length := by
  have := hn.length_le_of_subset (l₂ := (List.range (3 * T.length)).map (ukey T)) fun a ha => by
    obtain ⟨⟨c, hc, -, rfl⟩, -⟩ := (h a).1 ha
    exact List.mem_map.2 ⟨c, List.mem_range.2 hc, rfl⟩
  simpa using this
/-- Of one shell: no border loop just if there is no border edge. -/
theorem no_border {n : Nat} {T : List Tr} {L : Nat → Int} (hs : Surf n T) (hL : IsShells (Adj T) T.length L) (h1 : cnt L T.length = 1) : nB T L n 0 = 0 ↔ bordE T (3 * T.length) = [] := by
  constructor
  · intro h
    have hb := no_loop hs hL h
    refine List.eq_nil_iff_forall_not_mem.2 fun e he => ?_
    obtain ⟨c, hc, ho, -⟩ := bord_mem_edges.1 he
    have hm : c ∈ bordOf T L ((0 : Nat) : Int) := by
      refine List.mem_filter.2 ⟨List.mem_range.2 hc, ?_⟩
      simp only [Bool.and_eq_true, decide_eq_true_eq]
      have hl := cnt_lt L T.length (c / 3) (by omega)
      have h0 := hL.nonneg (c / 3) (by omega)
      exact ⟨by simp; omega, ho⟩
    rw [hb] at hm
    cases hm
  · intro h
    rw [← loops_length, List.length_eq_zero_iff]
    refine List.eq_nil_iff_forall_not_mem.2 fun v hv => ?_
    have := (minB_iff.1 (loops_mem.1 hv).2.1).1
    rw [h] at this
    cases this
set_option maxHeartbeats 1000000 in
theorem graph_nil (w : World) : Calls Tryz.prog 32 #[.pointer none] w fun e w' => e = .returned (.tuple #[.slice none 0 0, .int .i64 1]) ∧ w = w' := by
  go_enter Tryz.func32, Tryz.ntmps32
  go_wp2
  exact bodyPost_ret (v := .tuple #[.slice none 0 0, .int .i64 1]) (by simp [results, Tryz.results32, go_sem]) rfl ⟨rfl, rfl⟩
/-- What tree.Graph comes to. -/
def GraphP (T : List Tr) (m : Nat) (w : World) (e : Ending) (w' : World) : Prop :=
  ((¬ (m = 1 ∧ bordE T (3 * T.length) = []) ∧ e = .returned (.tuple #[.slice none 0 0, .int .i64 12])) ∨
    ((m = 1 ∧ bordE T (3 * T.length) = []) ∧ ∃ a k D, (D.Nodup ∧ ∀ a, a ∈ D ↔ restB T (bfs T 0) a) ∧ e = .returned (.tuple #[.slice a (pruneE (sortP D)).length k, .int .i64 0]) ∧ EdgesAt w' a (pruneE (sortP D)))) ∧ Below w.heap.size w w'
set_option maxRecDepth 100000 in
set_option maxHeartbeats 2000000 in
theorem graph_ok (n p m : Nat) (T : List Tr) (L : Nat → Int) (w : World) (h : Tab w p n T) (hs : Surf n T) (hL : IsShells (Adj T) T.length L) (hm : (m : Int) = cnt L T.length) :
    Calls Tryz.prog 32 #[.pointer (some ⟨p, 0, none⟩)] w (GraphP T m w) := by
  have HC := Lib.hid (count_L hs hL hm w p h)
  have HT := Lib.hid h
  have HS := Lib.hid hs
  have ht1 := hs.t1
  have hT0 : m = 1 → 0 < 3 * T.length := fun q => by
    obtain ⟨i, hi, -⟩ := cnt_has L T.length (by omega)
    omega
  have HT0 := Lib.hid hT0
  clear h hs hL hm hT0
  by_cases h1 : m = 1
  case neg =>
    have g1 : ((m : Int) != 1) = true := by simp; omega
    have HN := Lib.hid (show ¬ (m = 1 ∧ bordE T (3 * T.length) = []) from fun q => h1 q.1)
    clear h1
    go_enter Tryz.func32, Tryz.ntmps32
    go_wp2_with fail
    refine HC.out.mono ?_
    rintro e w1 ⟨rfl, hb1⟩
    have HF := Lib.hid (show GraphP T m w (.returned (.tuple #[.slice none 0 0, .int .i64 12])) w1 from ⟨.inl ⟨HN.out, rfl⟩, hb1⟩)
    clear hb1
    go_wp2
    exact bodyPost_ret (v := .tuple #[.slice none 0 0, .int .i64 12]) (by simp [results, Tryz.results32, go_sem]) rfl HF.out
  case pos =>
  have g1 : ((m : Int) != 1) = false := by simp; omega
  have HM1 := Lib.hid h1
  obtain ⟨bl, hbl⟩ : ∃ l, l = (bordE T (3 * T.length)).length := ⟨_, rfl⟩
  have HBL := Lib.hid hbl
  have HED := Lib.hid (show ∀ X, Below w.heap.size w X → Calls Tryz.prog 71 #[.pointer (some ⟨p, 0, none⟩)] X fun e w' => ∃ ao cap, e = .returned (.slice ao bl cap) ∧ Below w.heap.size w w' from fun X hX => by
    rw [HBL.out]
    refine (edges_any p n T X (HT.out.mono (Nat.le_refl _) hX)).mono ?_
    rintro e w' ⟨ao, cap, rfl, -, hb⟩
    exact ⟨ao, cap, rfl, below_more hX hb hX.size⟩)
  clear h1 hbl
  by_cases hb0 : bl = 0
  case neg =>
    have g2 : decide ((bl : Int) > 0) = true := by simp; omega
    have g2' : decide ((0 : Int) < (bl : Int)) = true := by simp; omega
    have g3 : decide (0 < bl) = true := by simp; omega
    have HN := Lib.hid (show ¬ (m = 1 ∧ bordE T (3 * T.length) = []) from fun q => hb0 (by rw [HBL.out, q.2]; rfl))
    clear hb0
    go_enter Tryz.func32, Tryz.ntmps32
    go_wp2_with fail
    refine HC.out.mono ?_
    rintro e w1 ⟨rfl, hb1⟩
    have HB1 := Lib.hid hb1
    clear hb1
    go_wp2_with fail
    refine (HED.out w1 HB1.out).mono ?_
    rintro e w2 ⟨ao, cap, rfl, hb2⟩
    have HF := Lib.hid (show GraphP T m w (.returned (.tuple #[.slice none 0 0, .int .i64 12])) w2 from ⟨.inl ⟨HN.out, rfl⟩, hb2⟩)
    clear hb2
    go_wp2
    exact bodyPost_ret (v := .tuple #[.slice none 0 0, .int .i64 12]) (by simp [results, Tryz.results32, go_sem]) rfl HF.out
  case pos =>
  have g2 : decide ((bl : Int) > 0) = false := by simp; omega
  have g2' : decide ((0 : Int) < (bl : Int)) = false := by simp; omega
  have g3 : decide (0 < bl) = false := by simp; omega
  have HY := Lib.hid (show m = 1 ∧ bordE T (3 * T.length) = [] from ⟨HM1.out, List.length_eq_zero_iff.1 (by rw [← HBL.out]; exact hb0)⟩)
  clear hb0
  go_enter Tryz.func32, Tryz.ntmps32
  go_wp2_with fail
  refine HC.out.mono ?_
  rintro e w1 ⟨rfl, hb1⟩
  have HB1 := Lib.hid hb1
  clear hb1
  go_wp2_with fail
  refine (HED.out w1 HB1.out).mono ?_
  rintro e w2 ⟨ao, cap, rfl, hb2⟩
  have HB2 := Lib.hid hb2
  have HR := Lib.hid (show Calls Tryz.prog 17 #[.pointer (some ⟨p, 0, none⟩), .int .i64 0] w2 (RestP T 0 w2) from rest_ok p n T 0 w2 (HT.out.mono (Nat.le_refl _) hb2) HS.out (HT0.out HM1.out))
  clear hb2
  go_wp2_with fail
  refine HR.out.mono ?_
  rintro e w3 ⟨a3, c3, D, ⟨hn, hD⟩, rfl, hE3, hb3⟩
  have hfew := rest_few18 hn hD
  have hsl : (sortP D).length = D.length := (sortP_perm D).length_eq
  have HD := Lib.hid (show D.Nodup ∧ ∀ a, a ∈ D ↔ restB T (bfs T 0) a from ⟨hn, hD⟩)
  have HB3 := Lib.hid (below_more HB2.out hb3 HB2.out.size)
  have HP := Lib.hid (prune_ok (sortP D) a3 c3 w3 hE3 (rest_i64 HS.out hD) (by omega))
  rw [hsl] at HP
  clear hn hD hE3 hb3 hfew hsl HR
  go_wp2_with fail
  refine HP.out.mono ?_
  rintro e w4 ⟨a4, c4, rfl, hE4, hb4⟩
  have HF := Lib.hid (show GraphP T m w (.returned (.tuple #[.slice a4 (pruneE (sortP D)).length c4, .int .i64 0])) w4 from ⟨.inr ⟨HY.out, a4, c4, D, HD.out, rfl, hE4⟩, below_more HB3.out hb4 HB3.out.size⟩)
  clear hE4 hb4 HP
  obtain ⟨q, hq⟩ : ∃ q, q = (pruneE (sortP D)).length := ⟨_, rfl⟩
  rw [← hq] at HF ⊢
  clear hq
  go_wp2
  exact bodyPost_ret (v := .tuple #[.slice a4 q c4, .int .i64 0]) (by simp [results, Tryz.results32, go_sem]) rfl HF.out
end Go.Proofs.YtkjamheoihlekaaGreat

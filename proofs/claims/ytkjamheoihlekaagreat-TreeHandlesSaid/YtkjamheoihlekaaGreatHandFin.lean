/- Plain law: what is left over of a closed surface of one shell counts its handles. -/
import Derived.Test.YtkjamheoihlekaaGreatEulerSum
import Derived.Test.YtkjamheoihlekaaGreatLeftFin
import Derived.Test.YtkjamheoihlekaaGreatSeenLaw
namespace Go.Proofs.YtkjamheoihlekaaGreat
set_option linter.unusedVariables false
set_option linter.unusedSimpArgs false
open Go.RowKit
section
variable {n : Nat} {T : List Tr} {L : Nat → Int} (hs : Surf n T) (hL : IsShells (Adj T) T.length L) (h1 : cnt L T.length = 1)
include hs hL h1
omit hs in
theorem one_lab (i j : Nat) (hi : i < T.length) (hj : j < T.length) : L i = L j := by
  have a := lab_range hL (m := 1) (by omega) hi
  have b := lab_range hL (m := 1) (by omega) hj
  omega
omit hs hL in
theorem one_tri : 1 ≤ T.length := by
  apply Classical.byContradiction
  intro h
  have : T.length = 0 := by omega
  rw [this] at h1
  have h0 : cnt L 0 = 0 := rfl
  omega
theorem one_genus : sumF (genF T L n) 1 5 = gnK T L n 0 ∧ 0 ≤ gnK T L n 0 := by
  have hk : ((0 : Nat) : Int) < cnt L T.length := by omega
  refine ⟨?_, (euler_ok hs hL hk).1⟩
  show sumF (genF T L n) 0 5 + genF T L n (6 * 0 + 5) = _
  have := gen5 T L n 0
  rw [show 0 * 6 + 5 = 6 * 0 + 5 from rfl] at this
  rw [this]
  show (0 : Int) + _ = _
  omega
theorem one_euler (hb : bordE T (3 * T.length) = []) : (n : Int) - eAll T + T.length = 2 - 2 * gnK T L n 0 := by
  have hk : ((0 : Nat) : Int) < cnt L T.length := by omega
  obtain ⟨-, he⟩ := euler_ok hs hL hk
  have e : ∀ (Φ : Nat → Int) (j : Nat), sumF Φ 1 j = Φ (6 * 0 + j) := fun Φ j => by
    show sumF Φ 0 j + Φ (6 * 0 + j) = _
    show (0 : Int) + _ = _
    omega
  have v := sum_V hs hL (m := 1) (by omega)
  have ff := sum_F (n := n) hL (m := 1) (by omega)
  have ee := sum_E hs hL (m := 1) (by omega)
  have bb := sum_B hs hL (m := 1) (by omega)
  rw [e] at v ff ee bb
  have g0 := gen0 T L n 0
  have g1 := gen1 T L n 0
  have g2 := gen2 T L n 0
  have g3 := gen3 T L n 0
  simp only [Nat.zero_mul, Nat.mul_zero, Nat.zero_add] at v ff ee bb g0 g1 g2 g3
  have hl : (loopsL (bordE T (3 * T.length)) n).length = 0 := by
    rw [hb, loopsL_heads, List.length_map]
    unfold headsB
    rw [List.length_eq_zero_iff]
    exact List.filter_eq_nil_iff.2 fun x _ => by simp [minB]
  unfold euK at he
  omega
/-- What is left over: two edges more than vertices for each handle, less one. -/
theorem graph_exc (hb : bordE T (3 * T.length) = []) {D : List (Int × Int)} (hn : D.Nodup) (hD : ∀ e, e ∈ D ↔ restB T (bfs T 0) e) : Exc D (2 * gnK T L n 0 - 1) := by
  have hF := one_tri h1
  have hf : 0 < 3 * T.length := by omega
  have all := reach_all hs hf hL (one_lab hL h1)
  have hr := rest_right hs hn hD
  have hv := verts_len hs hf hD all
  have ho := order_len hs hf all
  have hl := facedL_len hs hf
  have he := one_euler hs hL h1 hb
  obtain ⟨K, hK, hKm⟩ : ∃ K : List (Int × Int), K.Nodup ∧ ∀ e, e ∈ K ↔ ∃ c, c < 3 * T.length ∧ e = ukey T c := by
    have key : ∀ m, ∃ K : List (Int × Int), K.Nodup ∧ ∀ e, e ∈ K ↔ ∃ c, c < m ∧ e = ukey T c := by
      intro m
      induction m with
      | zero => exact ⟨[], List.nodup_nil, fun e => ⟨fun h => (by cases h), fun ⟨c, h, _⟩ => (by omega)⟩⟩
      | succ m ih =>
        obtain ⟨K, a, b⟩ := ih
        by_cases hm : ukey T m ∈ K
        · refine ⟨K, a, fun e => (b e).trans ⟨fun ⟨c, h, q⟩ => ⟨c, by omega, q⟩, fun ⟨c, h, q⟩ => ?_⟩⟩
          by_cases hc : c = m
          · subst hc
            rw [q]
            exact (b _).1 hm
          · exact ⟨c, by omega, q⟩
        · refine ⟨ukey T m :: K, List.nodup_cons.2 ⟨hm, a⟩, fun e => ?_⟩
          rw [List.mem_cons, b]
          constructor
          · rintro (q | ⟨c, h, q⟩)
            · exact ⟨m, by omega, q⟩
            · exact ⟨c, by omega, q⟩
          · rintro ⟨c, h, q⟩
            by_cases hc : c = m
            · subst hc; exact .inl q
            · exact .inr ⟨c, by omega, q⟩
    exact key _
  have hall := (rest_all hs hf hn hD hK hKm all).2.2
  have hKl := keys_len hs hK hKm
  refine ⟨hr, rest_conn hs hf hD, fun _ => by omega, fun h => ?_⟩
  rw [h] at hv
  have hv0 : vertsE [] = [] := rfl
  rw [hv0] at hv
  -- a surface with a triangle has a vertex
  have := hs.vin 0 (by omega) 0
  simp at hv
  omega
end
end Go.Proofs.YtkjamheoihlekaaGreat

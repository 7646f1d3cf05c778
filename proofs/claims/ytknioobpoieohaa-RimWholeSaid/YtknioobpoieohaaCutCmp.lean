/- rim.Cut's comparison: by vertex, then by number; slices.SortFunc by it. -/
import Derived.Test.YtknioobpoieohaaCmpW
import Derived.Test.YtknioobpoieohaaOppLaw
import Derived.Test.YtknioobpoieohaaIntsDef
import Derived.Test.YtknioobpoieohaaQueue
namespace Go.Proofs.Ytknioobpoieohaa
set_option linter.unusedVariables false
set_option linter.unusedSimpArgs false
open Go.RowKit Go.Lib
set_option maxHeartbeats 400000 in
theorem has_no (c : Int) (w : World) (b : Nat) (ao : Option Addr) (len cap : Nat) (hl : len ≤ 10000) (h1 : w.cell? ⟨b, 1, none⟩ = some (.slice ao len cap)) (hc : 0 ≤ c) (hc2 : ¬ c < 3 * len) :
    Calls Try.prog 37 #[.pointer (some ⟨b, 0, none⟩), .int .i64 c] w fun e w' => e = .returned (.bool false) ∧ w = w' := by
  go_enter Try.func37, Try.ntmps37
  go_wp2
  go_ret
  exact ⟨by first | rfl | (simp; done) | (simp; omega), rfl⟩
def vtx (T : List Tr) (c : Nat) : Int := if c < 3 * T.length then vt T (c : Int) else -1
set_option maxHeartbeats 400000 in
theorem vertexN (c : Nat) (w : World) (b : Nat) (N : Int) (T : List Tr) (hl : T.length ≤ 10000) (h : TabS w b N T) :
    Calls Try.prog 23 #[.pointer (some ⟨b, 0, none⟩), .int .i64 (c : Int)] w fun e w' => e = .returned (.int .i64 (vtx T c)) ∧ w = w' := by
  by_cases hc : c < 3 * T.length
  · have := vertex_any (c : Int) w b N T hl h (by omega) (by omega)
    unfold vtx
    rw [if_pos hc]
    exact this
  · unfold vtx
    rw [if_neg hc]
    obtain ⟨ao, cap, h0, h1, h2, h3⟩ := h
    obtain ⟨len, hlen⟩ : ∃ n, n = T.length := ⟨_, rfl⟩
    rw [← hlen] at hl h1 hc
    have hc2 : ¬ ((c : Int) < 3 * (len : Int)) := by omega
    clear hlen h2
    go_enter Try.func23, Try.ntmps23
    go_wp2_with (go_at_call 37; refine (has_no _ _ _ _ _ _ hl h1 (by omega) hc2).mono ?_; rintro e w' ⟨rfl, rfl⟩)
    go_ret
    exact ⟨rfl, rfl⟩
/-- Blocks laid, draws made, all else as it was. -/
def Gr (W w' : World) : Prop := ∃ q os, w' = Go.Sort.grow (W.drewN q) os
/-- The same, laid aside. -/
theorem hidB {W X : World} (h : Go.RowKit.Below W.heap.size W X) : Hid (Go.RowKit.Below W.heap.size W X) := h
theorem Gr.refl (W : World) : Gr W W := ⟨0, #[], by simp [Go.Sort.grow, World.drewN]⟩
theorem Gr.alloc {W X : World} (h : Gr W X) (o : Obj) : Gr W (X.alloc o) := by
  obtain ⟨q, os, rfl⟩ := h
  exact ⟨q, os ++ #[o], by rw [Go.Sort.alloc_eq_grow, Go.Sort.grow_grow]⟩
theorem Gr.drew {W X : World} (h : Gr W X) : Gr W X.drew := by
  obtain ⟨q, os, rfl⟩ := h
  exact ⟨q + 1, os, rfl⟩
/-- The order of corners. -/
def cfc (T : List Tr) (a b : Nat) : Int := orI (Lib.compareInt (vtx T a) (vtx T b)) (Lib.compareInt (a : Int) (b : Int))
set_option maxRecDepth 100000 in
set_option maxHeartbeats 1000000 in
theorem cutcmp_any (a b : Nat) (W : World) (tb p : Nat) (N : Int) (T : List Tr) (hl : T.length ≤ 10000) (h : TabS W p N T) (htl : tb < W.heap.size) (htb : W.cell? ⟨tb, 0, none⟩ = some (.pointer (some ⟨p, 0, none⟩))) :
    Calls Try.prog 20 #[.int .i64 (a : Int), .int .i64 (b : Int), .pointer (some ⟨tb, 0, none⟩)] W fun e w' => e = .returned (.int .i64 (cfc T a b)) ∧ Gr W w' := by
  have HV := Lib.hid (show ∀ (c : Nat) X, Hid (Below W.heap.size W X) → Calls Try.prog 23 #[.pointer (some ⟨p, 0, none⟩), .int .i64 (c : Int)] X fun e w' => e = .returned (.int .i64 (vtx T c)) ∧ X = w' from fun c X hX => vertexN c X p N T hl (h.mono (Nat.le_refl _) hX.out))
  have HK := Lib.hid (show ∀ X, Below W.heap.size W X → X.cell? ⟨tb, 0, none⟩ = some (.pointer (some ⟨p, 0, none⟩)) from fun X hX => (hX.cell (p := ⟨tb, 0, none⟩) htl).trans htb)
  obtain ⟨va, hva⟩ : ∃ v, v = vtx T a := ⟨_, rfl⟩
  obtain ⟨vb, hvb⟩ : ∃ v, v = vtx T b := ⟨_, rfl⟩
  have HVA := Lib.hid (HV.out a)
  have HVB := Lib.hid (HV.out b)
  rw [← hva] at HVA
  rw [← hvb] at HVB
  obtain ⟨c1, hc1⟩ : ∃ c, c = Lib.compareInt va vb := ⟨_, rfl⟩
  obtain ⟨c2, hc2⟩ : ∃ c, c = Lib.compareInt (a : Int) (b : Int) := ⟨_, rfl⟩
  have HC1 := Lib.hid (show ∀ X, Calls Try.prog 22 #[.int .i64 va, .int .i64 vb] X fun e w' => e = .returned (.int .i64 c1) ∧ w' = X from fun X => by rw [hc1]; exact Try.cmp_Compare_int va vb X)
  have HC2 := Lib.hid (show ∀ X, Calls Try.prog 22 #[.int .i64 (a : Int), .int .i64 (b : Int)] X fun e w' => e = .returned (.int .i64 c2) ∧ w' = X from fun X => by rw [hc2]; exact Try.cmp_Compare_int a b X)
  have HR := Lib.hid (show cfc T a b = orI c1 c2 from by unfold cfc; rw [hc1, hc2, hva, hvb])
  obtain ⟨r, hr⟩ : ∃ r, r = cfc T a b := ⟨_, rfl⟩
  rw [← hr] at HR ⊢
  have hbel : Below W.heap.size W W := Below.refl _ _
  have hgr := Gr.refl W
  clear hva hvb hc1 hc2 hr HV h htb
  go_enter Try.func20, Try.ntmps20
  go_upto_region 1 with fail
  go_region_held3 (fun w' => w'.cell? ⟨tb, 0, none⟩ = some (.pointer (some ⟨p, 0, none⟩)))
    (exact HK.out _ (by repeat (first | exact hbel | with_reducible apply bel_alloc | with_reducible apply bel_drew)))
    (first | (go_at_call 23; (with_reducible refine (HVA.out _ (hidB (by repeat (first | exact hbel | with_reducible apply bel_alloc | with_reducible apply bel_drew)))).mono ?_); rintro e w2 ⟨rfl, rfl⟩) | (go_at_call 23; (with_reducible refine (HVB.out _ (hidB (by repeat (first | exact hbel | with_reducible apply bel_alloc | with_reducible apply bel_drew)))).mono ?_); rintro e w2 ⟨rfl, rfl⟩) | (go_at_call 22; (with_reducible refine (HC1.out _).mono ?_); rintro e w2 ⟨rfl, rfl⟩) | (go_at_call 22; (with_reducible refine (HC2.out _).mono ?_); rintro e w2 ⟨rfl, rfl⟩) | (go_at_call 21; (with_reducible refine (or_two c1 c2 _ _ (by repeat (first | with_reducible exact RowIs.made _ _ _ | with_reducible apply RowIs.drew1))).mono ?_); rintro e w2 ⟨rfl, rfl⟩))
  all_goals
    go_wp2
    exact bodyPost_ret (v := .int .i64 (orI c1 c2)) (by simp [results, Try.results20, go_sem]) rfl ⟨by rw [HR.out], by repeat (first | exact hgr | with_reducible apply Gr.alloc | with_reducible apply Gr.drew)⟩
end Go.Proofs.Ytknioobpoieohaa

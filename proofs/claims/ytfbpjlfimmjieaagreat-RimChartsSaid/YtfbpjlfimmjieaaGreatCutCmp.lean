/- rim.Cut's comparison: by vertex, then by number; slices.SortFunc by it. slices.SortFunc by rim.Cut's comparison. -/
import Derived.Test.YtfbpjlfimmjieaaGreatSelLaw
namespace Go.Proofs.YtfbpjlfimmjieaaGreat
set_option linter.unusedVariables false
set_option linter.unusedSimpArgs false
open Go.RowKit Go.Lib
set_option maxRecDepth 100000 in
set_option maxHeartbeats 1000000 in
theorem cutcmp_any (a b : Nat) (W : World) (tb p : Nat) (N : Int) (T : List Tr) (hl : T.length ≤ 10000) (h : TabS W p N T) (htl : tb < W.heap.size) (htb : W.cell? ⟨tb, 0, none⟩ = some (.pointer (some ⟨p, 0, none⟩))) :
    Calls Tryz.prog 79 #[.int .i64 (a : Int), .int .i64 (b : Int), .pointer (some ⟨tb, 0, none⟩)] W fun e w' => e = .returned (.int .i64 (cfc T a b)) ∧ Gr W w' := by
  have HV := Lib.hid (show ∀ (c : Nat) X, Hid (Below W.heap.size W X) → Calls Tryz.prog 27 #[.pointer (some ⟨p, 0, none⟩), .int .i64 (c : Int)] X fun e w' => e = .returned (.int .i64 (vtx T c)) ∧ X = w' from fun c X hX => vertexN c X p N T hl (h.mono (Nat.le_refl _) hX.out))
  have HK := Lib.hid (show ∀ X, Below W.heap.size W X → X.cell? ⟨tb, 0, none⟩ = some (.pointer (some ⟨p, 0, none⟩)) from fun X hX => (hX.cell (p := ⟨tb, 0, none⟩) htl).trans htb)
  obtain ⟨va, hva⟩ : ∃ v, v = vtx T a := ⟨_, rfl⟩
  obtain ⟨vb, hvb⟩ : ∃ v, v = vtx T b := ⟨_, rfl⟩
  have HVA := Lib.hid (HV.out a)
  have HVB := Lib.hid (HV.out b)
  rw [← hva] at HVA
  rw [← hvb] at HVB
  obtain ⟨c1, hc1⟩ : ∃ c, c = Lib.compareInt va vb := ⟨_, rfl⟩
  obtain ⟨c2, hc2⟩ : ∃ c, c = Lib.compareInt (a : Int) (b : Int) := ⟨_, rfl⟩
  have HC1 := Lib.hid (show ∀ X, Calls Tryz.prog 60 #[.int .i64 va, .int .i64 vb] X fun e w' => e = .returned (.int .i64 c1) ∧ w' = X from fun X => by rw [hc1]; exact Tryz.cmp_Compare_int va vb X)
  have HC2 := Lib.hid (show ∀ X, Calls Tryz.prog 60 #[.int .i64 (a : Int), .int .i64 (b : Int)] X fun e w' => e = .returned (.int .i64 c2) ∧ w' = X from fun X => by rw [hc2]; exact Tryz.cmp_Compare_int a b X)
  have HR := Lib.hid (show cfc T a b = orI c1 c2 from by unfold cfc; rw [hc1, hc2, hva, hvb])
  obtain ⟨r, hr⟩ : ∃ r, r = cfc T a b := ⟨_, rfl⟩
  rw [← hr] at HR ⊢
  have hbel : Below W.heap.size W W := Below.refl _ _
  have hgr := Gr.refl W
  clear hva hvb hc1 hc2 hr HV h htb
  go_enter Tryz.func79, Tryz.ntmps79
  go_upto_region 1 with fail
  go_region_held3 (fun w' => w'.cell? ⟨tb, 0, none⟩ = some (.pointer (some ⟨p, 0, none⟩)))
    (exact HK.out _ (by repeat (first | exact hbel | with_reducible apply bel_alloc | with_reducible apply bel_drew)))
    (first | (go_at_call 27; (with_reducible refine (HVA.out _ (hidB (by repeat (first | exact hbel | with_reducible apply bel_alloc | with_reducible apply bel_drew)))).mono ?_); rintro e w2 ⟨rfl, rfl⟩) | (go_at_call 27; (with_reducible refine (HVB.out _ (hidB (by repeat (first | exact hbel | with_reducible apply bel_alloc | with_reducible apply bel_drew)))).mono ?_); rintro e w2 ⟨rfl, rfl⟩) | (go_at_call 60; (with_reducible refine (HC1.out _).mono ?_); rintro e w2 ⟨rfl, rfl⟩) | (go_at_call 60; (with_reducible refine (HC2.out _).mono ?_); rintro e w2 ⟨rfl, rfl⟩) | (go_at_call 59; (with_reducible refine (or_two c1 c2 _ _ (by repeat (first | with_reducible exact RowIs.made _ _ _ | with_reducible apply RowIs.drew1))).mono ?_); rintro e w2 ⟨rfl, rfl⟩))
  all_goals
    go_wp2
    exact bodyPost_ret (v := .int .i64 (orI c1 c2)) (by simp [results, Tryz.results79, go_sem]) rfl ⟨by rw [HR.out], by repeat (first | exact hgr | with_reducible apply Gr.alloc | with_reducible apply Gr.drew)⟩
theorem sort_first (W1 w : World) (base tb p gf capf : Nat) (N : Int) (T : List Tr) (F0 : List Nat) (hl : T.length ≤ 10000) (hF : F0.length ≤ 100000) (h : TabS W1 p N T) (htl : tb < W1.heap.size) (htb : W1.cell? ⟨tb, 0, none⟩ = some (.pointer (some ⟨p, 0, none⟩)))
    (hB : W1.heap.size ≤ base) (hb : Below base W1 w) (hown : w.ownsRow base 3 1 (.slice (some ⟨gf, 0, none⟩) F0.length capf) F0.length (nv F0)) :
    Calls Tryz.prog 57 #[.slice (some ⟨gf, 0, none⟩) F0.length capf, .func (.func 79) #[] #[.pointer (some ⟨tb, 0, none⟩)]] w fun e w' => e = .returned (.tuple #[]) ∧
      ∃ F : List Nat, F.Perm F0 ∧ F.Pairwise (fun a b => ¬ ltC T b a) ∧ IntsAt w' (some ⟨gf, 0, none⟩) (nl F) ∧ w.grownBy w' (some gf) ∧ gf < w.heap.size ∧ base ≤ gf :=
  sort_by 79 #[.pointer (some ⟨tb, 0, none⟩)] (enters_of Tryz.func79 (by kernel_rfl) rfl) W1 w base gf capf T F0 hF (fun X hX a b => cutcmp_any a b X tb p N T hl (h.mono hB hX) (by have := hX.size; omega) ((hX.cell (p := ⟨tb, 0, none⟩) (show tb < _ by omega)).trans htb)) hb hown
end Go.Proofs.YtfbpjlfimmjieaaGreat

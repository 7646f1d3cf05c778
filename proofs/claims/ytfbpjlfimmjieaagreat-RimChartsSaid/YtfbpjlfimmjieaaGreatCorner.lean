/- The tables of corners: their small functions. The tables of corners: the edge that a corner faces; how many triangles. -/
import Derived.Test.YtfbpjlfimmjieaaGreatBase
namespace Go.Proofs.YtfbpjlfimmjieaaGreat
set_option linter.unusedVariables false
set_option linter.unusedSimpArgs false
open Go.RowKit
set_option maxHeartbeats 400000 in
theorem turned_any (c b : Int) (w : World) (hc : 0 ≤ c) (hc2 : c ≤ 100000) (hb : 0 ≤ b) (hb2 : b ≤ 2) :
    Calls Tryz.prog 85 #[.int .i64 c, .int .i64 b] w fun e w' => e = .returned (.int .i64 (c - c % 3 + (c + b) % 3)) ∧ w = w' := by
  go_enter Tryz.func85, Tryz.ntmps85
  go_wp2
  go_ret
  exact ⟨rfl, rfl⟩
set_option maxHeartbeats 400000 in
theorem has_yes (c : Int) (w : World) (b : Nat) (ao : Option Addr) (len cap : Nat) (hl : len ≤ 10000) (h1 : w.cell? ⟨b, 1, none⟩ = some (.slice ao len cap)) (hc : 0 ≤ c) (hc2 : c < 3 * len) :
    Calls Tryz.prog 65 #[.pointer (some ⟨b, 0, none⟩), .int .i64 c] w fun e w' => e = .returned (.bool true) ∧ w = w' := by
  go_enter Tryz.func65, Tryz.ntmps65
  go_wp2
  go_ret
  exact ⟨by simp [hc2], rfl⟩
set_option maxHeartbeats 400000 in
theorem next_any (c : Int) (w : World) (b : Nat) (ao : Option Addr) (len cap : Nat) (hl : len ≤ 10000) (h1 : w.cell? ⟨b, 1, none⟩ = some (.slice ao len cap)) (hc : 0 ≤ c) (hc2 : c < 3 * len) :
    Calls Tryz.prog 49 #[.pointer (some ⟨b, 0, none⟩), .int .i64 c] w fun e w' => e = .returned (.int .i64 (c - c % 3 + (c + 1) % 3)) ∧ w = w' := by
  go_enter Tryz.func49, Tryz.ntmps49
  go_wp2_with (first | (go_at_call 65; refine (has_yes _ _ _ _ _ _ hl h1 hc hc2).mono ?_; rintro e w' ⟨rfl, rfl⟩) | (go_at_call 85; refine (turned_any _ _ _ hc (by omega) (by omega) (by omega)).mono ?_; rintro e w' ⟨rfl, rfl⟩))
  go_ret
  exact ⟨rfl, rfl⟩
set_option maxHeartbeats 400000 in
theorem prev_any (c : Int) (w : World) (b : Nat) (ao : Option Addr) (len cap : Nat) (hl : len ≤ 10000) (h1 : w.cell? ⟨b, 1, none⟩ = some (.slice ao len cap)) (hc : 0 ≤ c) (hc2 : c < 3 * len) :
    Calls Tryz.prog 50 #[.pointer (some ⟨b, 0, none⟩), .int .i64 c] w fun e w' => e = .returned (.int .i64 (c - c % 3 + (c + 2) % 3)) ∧ w = w' := by
  go_enter Tryz.func50, Tryz.ntmps50
  go_wp2_with (first | (go_at_call 65; refine (has_yes _ _ _ _ _ _ hl h1 hc hc2).mono ?_; rintro e w' ⟨rfl, rfl⟩) | (go_at_call 85; refine (turned_any _ _ _ hc (by omega) (by omega) (by omega)).mono ?_; rintro e w' ⟨rfl, rfl⟩))
  go_ret
  exact ⟨rfl, rfl⟩
/-- The vertex at a corner. -/
def vt (T : List Tr) (c : Int) : Int := tg (T! T (c.toNat / 3)) (c.toNat % 3)
set_option maxHeartbeats 400000 in
theorem vertex_any (c : Int) (w : World) (b : Nat) (N : Int) (T : List Tr) (hl : T.length ≤ 10000) (h : TabS w b N T) (hc : 0 ≤ c) (hc2 : c < 3 * T.length) :
    Calls Tryz.prog 27 #[.pointer (some ⟨b, 0, none⟩), .int .i64 c] w fun e w' => e = .returned (.int .i64 (vt T c)) ∧ w = w' := by
  obtain ⟨n, rfl⟩ := Int.eq_ofNat_of_zero_le hc
  obtain ⟨ao, cap, h0, h1, h2, h3⟩ := h
  obtain ⟨g, off, rfl, hcell, hg⟩ := h2.at (i := n / 3) (j := n % 3) (by omega) (by omega)
  obtain ⟨v, hv⟩ : ∃ v, v = tg (T! T (n / 3)) (n % 3) := ⟨_, rfl⟩
  obtain ⟨len, hlen⟩ : ∃ n, n = T.length := ⟨_, rfl⟩
  have e0 : vt T ((n : Nat) : Int) = v := by rw [hv]; rfl
  rw [e0]
  rw [← hv] at hcell
  rw [← hlen] at hl h1 hc2
  clear hv hlen h2 e0
  go_enter Tryz.func27, Tryz.ntmps27
  go_wp2_with (go_at_call 65; refine (has_yes _ _ _ _ _ _ hl h1 hc hc2).mono ?_; rintro e w' ⟨rfl, rfl⟩)
  go_ret
  exact ⟨rfl, rfl⟩
def nx (c : Int) : Int := c - c % 3 + (c + 1) % 3
def pv (c : Int) : Int := c - c % 3 + (c + 2) % 3
theorem nx_in {c : Int} {n : Nat} (h0 : 0 ≤ c) (h1 : c < 3 * n) : 0 ≤ nx c ∧ nx c < 3 * n := by unfold nx; omega
theorem pv_in {c : Int} {n : Nat} (h0 : 0 ≤ c) (h1 : c < 3 * n) : 0 ≤ pv c ∧ pv c < 3 * n := by unfold pv; omega
set_option maxHeartbeats 400000 in
theorem edge_any (c : Int) (w : World) (b : Nat) (N : Int) (T : List Tr) (hl : T.length ≤ 10000) (h : TabS w b N T) (hc : 0 ≤ c) (hc2 : c < 3 * T.length) :
    Calls Tryz.prog 34 #[.pointer (some ⟨b, 0, none⟩), .int .i64 c] w fun e w' => e = .returned (.agg #[.int .i64 (vt T (nx c)), .int .i64 (vt T (pv c))]) ∧ Below w.heap.size w w' := by
  have h' : TabS (w.alloc (.cells #[.int .i64 0, .int .i64 0] 57)) b N T := h.mono (Nat.le_refl _) ((Below.refl _ _).alloc (Nat.le_refl _) _)
  obtain ⟨ao, cap, h0, h1, h2, h3⟩ := h'
  have H' := Lib.hid (show TabS (w.alloc (.cells #[.int .i64 0, .int .i64 0] 57)) b N T from ⟨ao, cap, h0, h1, h2, h3⟩)
  have HN := Lib.hid (nx_in hc hc2)
  have HP := Lib.hid (pv_in hc hc2)
  clear h h2 h0
  go_enter Tryz.func34, Tryz.ntmps34
  go_wp2_with fail
  refine (next_any _ _ _ _ _ _ hl h1 hc hc2).mono ?_
  rintro e w' ⟨rfl, rfl⟩
  go_wp2_with fail
  refine (vertex_any (nx c) _ _ _ _ hl H'.out HN.out.1 HN.out.2).mono ?_
  rintro e w' ⟨rfl, rfl⟩
  go_wp2_with fail
  refine (prev_any _ _ _ _ _ _ hl h1 hc hc2).mono ?_
  rintro e w' ⟨rfl, rfl⟩
  go_wp2_with fail
  refine (vertex_any (pv c) _ _ _ _ hl H'.out HP.out.1 HP.out.2).mono ?_
  rintro e w' ⟨rfl, rfl⟩
  go_wp2_with fail
  exact bodyPost_ret (v := .agg #[.int .i64 (vt T (nx c)), .int .i64 (vt T (pv c))]) (by simp [results, Tryz.results34, go_sem]) rfl ⟨rfl, (Below.refl _ _).alloc (Nat.le_refl _) _⟩
set_option maxHeartbeats 400000 in
theorem triangles_any (w : World) (b : Nat) (N : Int) (T : List Tr) (h : TabS w b N T) :
    Calls Tryz.prog 41 #[.pointer (some ⟨b, 0, none⟩)] w fun e w' => e = .returned (.int .i64 T.length) ∧ w = w' := by
  obtain ⟨ao, cap, h0, h1, h2, h3⟩ := h
  go_enter Tryz.func41, Tryz.ntmps41
  go_wp2
  go_ret
  exact ⟨rfl, rfl⟩
set_option maxHeartbeats 400000 in
theorem triangles_nil (w : World) :
    Calls Tryz.prog 41 #[.pointer none] w fun e w' => e = .returned (.int .i64 0) ∧ w = w' := by
  go_enter Tryz.func41, Tryz.ntmps41
  go_wp2
  go_ret
  exact ⟨rfl, rfl⟩
end Go.Proofs.YtfbpjlfimmjieaaGreat

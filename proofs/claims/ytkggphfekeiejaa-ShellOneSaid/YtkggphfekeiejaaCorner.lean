/- The tables of corners: their small functions. -/
import Derived.Test.YtkggphfekeiejaaBase
namespace Go.Proofs.Ytkggphfekeiejaa
set_option linter.unusedVariables false
set_option linter.unusedSimpArgs false
open Go.RowKit
set_option maxHeartbeats 400000 in
theorem turned_any (c b : Int) (w : World) (hc : 0 ≤ c) (hc2 : c ≤ 100000) (hb : 0 ≤ b) (hb2 : b ≤ 2) :
    Calls Try.prog 82 #[.int .i64 c, .int .i64 b] w fun e w' => e = .returned (.int .i64 (c - c % 3 + (c + b) % 3)) ∧ w = w' := by
  go_enter Try.func82, Try.ntmps82
  go_wp2
  go_ret
  exact ⟨rfl, rfl⟩
set_option maxHeartbeats 400000 in
theorem has_yes (c : Int) (w : World) (b : Nat) (ao : Option Addr) (len cap : Nat) (hl : len ≤ 10000) (h1 : w.cell? ⟨b, 1, none⟩ = some (.slice ao len cap)) (hc : 0 ≤ c) (hc2 : c < 3 * len) :
    Calls Try.prog 41 #[.pointer (some ⟨b, 0, none⟩), .int .i64 c] w fun e w' => e = .returned (.bool true) ∧ w = w' := by
  go_enter Try.func41, Try.ntmps41
  go_wp2
  go_ret
  exact ⟨by simp [hc2], rfl⟩
set_option maxHeartbeats 400000 in
theorem next_any (c : Int) (w : World) (b : Nat) (ao : Option Addr) (len cap : Nat) (hl : len ≤ 10000) (h1 : w.cell? ⟨b, 1, none⟩ = some (.slice ao len cap)) (hc : 0 ≤ c) (hc2 : c < 3 * len) :
    Calls Try.prog 52 #[.pointer (some ⟨b, 0, none⟩), .int .i64 c] w fun e w' => e = .returned (.int .i64 (c - c % 3 + (c + 1) % 3)) ∧ w = w' := by
  go_enter Try.func52, Try.ntmps52
  go_wp2_with (first | (go_at_call 41; refine (has_yes _ _ _ _ _ _ hl h1 hc hc2).mono ?_; rintro e w' ⟨rfl, rfl⟩) | (go_at_call 82; refine (turned_any _ _ _ hc (by omega) (by omega) (by omega)).mono ?_; rintro e w' ⟨rfl, rfl⟩))
  go_ret
  exact ⟨rfl, rfl⟩
set_option maxHeartbeats 400000 in
theorem prev_any (c : Int) (w : World) (b : Nat) (ao : Option Addr) (len cap : Nat) (hl : len ≤ 10000) (h1 : w.cell? ⟨b, 1, none⟩ = some (.slice ao len cap)) (hc : 0 ≤ c) (hc2 : c < 3 * len) :
    Calls Try.prog 53 #[.pointer (some ⟨b, 0, none⟩), .int .i64 c] w fun e w' => e = .returned (.int .i64 (c - c % 3 + (c + 2) % 3)) ∧ w = w' := by
  go_enter Try.func53, Try.ntmps53
  go_wp2_with (first | (go_at_call 41; refine (has_yes _ _ _ _ _ _ hl h1 hc hc2).mono ?_; rintro e w' ⟨rfl, rfl⟩) | (go_at_call 82; refine (turned_any _ _ _ hc (by omega) (by omega) (by omega)).mono ?_; rintro e w' ⟨rfl, rfl⟩))
  go_ret
  exact ⟨rfl, rfl⟩
/-- The vertex at a corner. -/
def vt (T : List Tr) (c : Int) : Int := tg (T! T (c.toNat / 3)) (c.toNat % 3)
set_option maxHeartbeats 400000 in
theorem vertex_any (c : Int) (w : World) (b : Nat) (N : Int) (T : List Tr) (hl : T.length ≤ 10000) (h : TabS w b N T) (hc : 0 ≤ c) (hc2 : c < 3 * T.length) :
    Calls Try.prog 22 #[.pointer (some ⟨b, 0, none⟩), .int .i64 c] w fun e w' => e = .returned (.int .i64 (vt T c)) ∧ w = w' := by
  obtain ⟨n, rfl⟩ := Int.eq_ofNat_of_zero_le hc
  obtain ⟨ao, cap, h0, h1, h2, h3⟩ := h
  obtain ⟨g, off, rfl, hcell, hg⟩ := h2.at (i := n / 3) (j := n % 3) (by omega) (by omega)
  obtain ⟨v, hv⟩ : ∃ v, v = tg (T! T (n / 3)) (n % 3) := ⟨_, rfl⟩
  obtain ⟨len, hlen⟩ : ∃ n, n = T.length := ⟨_, rfl⟩
  have e0 : vt T ((n : Nat) : Int) = v := by rw [hv]; rfl
  rw [e0]
  rw [← hv] at hcell
  rw [← hlen] at hl h1 hc2
  clear hv hlen h2 e0
  go_enter Try.func22, Try.ntmps22
  go_wp2_with (go_at_call 41; refine (has_yes _ _ _ _ _ _ hl h1 hc hc2).mono ?_; rintro e w' ⟨rfl, rfl⟩)
  go_ret
  exact ⟨rfl, rfl⟩
end Go.Proofs.Ytkggphfekeiejaa

/- The tables of corners: their small functions. The tables of corners: the edge that a corner faces; how many triangles. The corner that faces an edge; the corner across. The corner across. -/
import Derived.Test.YtkjamheoihlekaaGreatBase
import Derived.Test.YtkjamheoihlekaaGreatMapLaw
namespace Go.Proofs.YtkjamheoihlekaaGreat
set_option linter.unusedVariables false
set_option linter.unusedSimpArgs false
open Go.RowKit
open Go.RowKit Go.Maps
set_option maxHeartbeats 400000 in
theorem turned_any (c b : Int) (w : World) (hc : 0 ≤ c) (hc2 : c ≤ 100000) (hb : 0 ≤ b) (hb2 : b ≤ 2) :
    Calls Tryz.prog 64 #[.int .i64 c, .int .i64 b] w fun e w' => e = .returned (.int .i64 (c - c % 3 + (c + b) % 3)) ∧ w = w' := by
  go_enter Tryz.func64, Tryz.ntmps64
  go_wp2
  go_ret
  exact ⟨rfl, rfl⟩
set_option maxHeartbeats 400000 in
theorem has_yes (c : Int) (w : World) (b : Nat) (ao : Option Addr) (len cap : Nat) (hl : len ≤ 10000) (h1 : w.cell? ⟨b, 1, none⟩ = some (.slice ao len cap)) (hc : 0 ≤ c) (hc2 : c < 3 * len) :
    Calls Tryz.prog 63 #[.pointer (some ⟨b, 0, none⟩), .int .i64 c] w fun e w' => e = .returned (.bool true) ∧ w = w' := by
  go_enter Tryz.func63, Tryz.ntmps63
  go_wp2
  go_ret
  exact ⟨by simp [hc2], rfl⟩
set_option maxHeartbeats 400000 in
theorem next_any (c : Int) (w : World) (b : Nat) (ao : Option Addr) (len cap : Nat) (hl : len ≤ 10000) (h1 : w.cell? ⟨b, 1, none⟩ = some (.slice ao len cap)) (hc : 0 ≤ c) (hc2 : c < 3 * len) :
    Calls Tryz.prog 27 #[.pointer (some ⟨b, 0, none⟩), .int .i64 c] w fun e w' => e = .returned (.int .i64 (c - c % 3 + (c + 1) % 3)) ∧ w = w' := by
  go_enter Tryz.func27, Tryz.ntmps27
  go_wp2_with (first | (go_at_call 63; refine (has_yes _ _ _ _ _ _ hl h1 hc hc2).mono ?_; rintro e w' ⟨rfl, rfl⟩) | (go_at_call 64; refine (turned_any _ _ _ hc (by omega) (by omega) (by omega)).mono ?_; rintro e w' ⟨rfl, rfl⟩))
  go_ret
  exact ⟨rfl, rfl⟩
set_option maxHeartbeats 400000 in
theorem prev_any (c : Int) (w : World) (b : Nat) (ao : Option Addr) (len cap : Nat) (hl : len ≤ 10000) (h1 : w.cell? ⟨b, 1, none⟩ = some (.slice ao len cap)) (hc : 0 ≤ c) (hc2 : c < 3 * len) :
    Calls Tryz.prog 28 #[.pointer (some ⟨b, 0, none⟩), .int .i64 c] w fun e w' => e = .returned (.int .i64 (c - c % 3 + (c + 2) % 3)) ∧ w = w' := by
  go_enter Tryz.func28, Tryz.ntmps28
  go_wp2_with (first | (go_at_call 63; refine (has_yes _ _ _ _ _ _ hl h1 hc hc2).mono ?_; rintro e w' ⟨rfl, rfl⟩) | (go_at_call 64; refine (turned_any _ _ _ hc (by omega) (by omega) (by omega)).mono ?_; rintro e w' ⟨rfl, rfl⟩))
  go_ret
  exact ⟨rfl, rfl⟩
/-- The vertex at a corner. -/
def vt (T : List Tr) (c : Int) : Int := tg (T! T (c.toNat / 3)) (c.toNat % 3)
set_option maxHeartbeats 400000 in
theorem vertex_any (c : Int) (w : World) (b : Nat) (N : Int) (T : List Tr) (hl : T.length ≤ 10000) (h : TabS w b N T) (hc : 0 ≤ c) (hc2 : c < 3 * T.length) :
    Calls Tryz.prog 42 #[.pointer (some ⟨b, 0, none⟩), .int .i64 c] w fun e w' => e = .returned (.int .i64 (vt T c)) ∧ w = w' := by
  obtain ⟨n, rfl⟩ := Int.eq_ofNat_of_zero_le hc
  obtain ⟨ao, cap, h0, h1, h2, h3⟩ := h
  obtain ⟨g, off, rfl, hcell, hg⟩ := h2.at (i := n / 3) (j := n % 3) (by omega) (by omega)
  obtain ⟨v, hv⟩ : ∃ v, v = tg (T! T (n / 3)) (n % 3) := ⟨_, rfl⟩
  obtain ⟨len, hlen⟩ : ∃ n, n = T.length := ⟨_, rfl⟩
  have e0 : vt T ((n : Nat) : Int) = v := by rw [hv]; rfl
  rw [e0]
  rw [← hv] at hcell
  rw [← hlen] at hl h1 hc2
  clear hv hlen h2 e0
  go_enter Tryz.func42, Tryz.ntmps42
  go_wp2_with (go_at_call 63; refine (has_yes _ _ _ _ _ _ hl h1 hc hc2).mono ?_; rintro e w' ⟨rfl, rfl⟩)
  go_ret
  exact ⟨rfl, rfl⟩
def nx (c : Int) : Int := c - c % 3 + (c + 1) % 3
def pv (c : Int) : Int := c - c % 3 + (c + 2) % 3
theorem nx_in {c : Int} {n : Nat} (h0 : 0 ≤ c) (h1 : c < 3 * n) : 0 ≤ nx c ∧ nx c < 3 * n := by unfold nx; omega
theorem pv_in {c : Int} {n : Nat} (h0 : 0 ≤ c) (h1 : c < 3 * n) : 0 ≤ pv c ∧ pv c < 3 * n := by unfold pv; omega
set_option maxHeartbeats 400000 in
theorem edge_any (c : Int) (w : World) (b : Nat) (N : Int) (T : List Tr) (hl : T.length ≤ 10000) (h : TabS w b N T) (hc : 0 ≤ c) (hc2 : c < 3 * T.length) :
    Calls Tryz.prog 35 #[.pointer (some ⟨b, 0, none⟩), .int .i64 c] w fun e w' => e = .returned (.agg #[.int .i64 (vt T (nx c)), .int .i64 (vt T (pv c))]) ∧ Below w.heap.size w w' := by
  have h' : TabS (w.alloc (.cells #[.int .i64 0, .int .i64 0] 40)) b N T := h.mono (Nat.le_refl _) ((Below.refl _ _).alloc (Nat.le_refl _) _)
  obtain ⟨ao, cap, h0, h1, h2, h3⟩ := h'
  have H' := Lib.hid (show TabS (w.alloc (.cells #[.int .i64 0, .int .i64 0] 40)) b N T from ⟨ao, cap, h0, h1, h2, h3⟩)
  have HN := Lib.hid (nx_in hc hc2)
  have HP := Lib.hid (pv_in hc hc2)
  clear h h2 h0
  go_enter Tryz.func35, Tryz.ntmps35
  go_wp2_with fail
  refine (next_any _ _ _ _ _ _ hl h1 hc hc2).mono ?_
  rintro e w' ⟨rfl, rfl⟩
  go_wp2_with fail
  refine (vertex_any (nx c) _ _ _ _ hl H'.out HN.out.1 HN.out.2).mono ?_
  rintro e w' ⟨rfl, rfl⟩
  go_wp2_with fail
  refine (prev_any _ _ _ _ _ _ hl h1 hc hc2).mono ?_
  rintro e w' ⟨rfl, rfl⟩
  go_wp2_with fail
  refine (vertex_any (pv c) _ _ _ _ hl H'.out HP.out.1 HP.out.2).mono ?_
  rintro e w' ⟨rfl, rfl⟩
  go_wp2_with fail
  exact bodyPost_ret (v := .agg #[.int .i64 (vt T (nx c)), .int .i64 (vt T (pv c))]) (by simp [results, Tryz.results35, go_sem]) rfl ⟨rfl, (Below.refl _ _).alloc (Nat.le_refl _) _⟩
set_option maxHeartbeats 400000 in
theorem triangles_any (w : World) (b : Nat) (N : Int) (T : List Tr) (h : TabS w b N T) :
    Calls Tryz.prog 83 #[.pointer (some ⟨b, 0, none⟩)] w fun e w' => e = .returned (.int .i64 T.length) ∧ w = w' := by
  obtain ⟨ao, cap, h0, h1, h2, h3⟩ := h
  go_enter Tryz.func83, Tryz.ntmps83
  go_wp2
  go_ret
  exact ⟨rfl, rfl⟩
set_option maxHeartbeats 400000 in
theorem triangles_nil (w : World) :
    Calls Tryz.prog 83 #[.pointer none] w fun e w' => e = .returned (.int .i64 0) ∧ w = w' := by
  go_enter Tryz.func83, Tryz.ntmps83
  go_wp2
  go_ret
  exact ⟨rfl, rfl⟩
def edgeAt (T : List Tr) (c : Int) : Int × Int := (vt T (nx c), vt T (pv c))
/-- The least corner from k on that faces an edge. -/
def faceFrom (T : List Tr) (k : Nat) (e : Int × Int) : Option Int := ((List.range' k (3 * T.length - k)).find? fun c : Nat => edgeAt T c == e).map Int.ofNat
def faces (T : List Tr) (k : Nat) (e : Int × Int) : Option Value := (faceFrom T k e).map (Value.int .i64)
/-- A table's faces. -/
def TabF (w : World) (b : Nat) (T : List Tr) : Prop :=
  ∃ m n, w.cell? ⟨b, 2, none⟩ = some (.map (some m)) ∧ MapIs edgeFam w m n (faces T 0) ∧ b < w.heap.size
theorem TabF.mono {w w' : World} {b : Nat} {T : List Tr} {B : Nat} (h : TabF w b T) (hB : w.heap.size ≤ B) (hb : Below B w w') : TabF w' b T := by
  obtain ⟨m, n, h1, h2, h3⟩ := h
  exact ⟨m, n, (hb.cell (p := ⟨b, _, none⟩) (show b < B by omega)).trans h1, h2.below hB hb, by have := hb.size; omega⟩
def facing (T : List Tr) (e : Int × Int) : Int := (faceFrom T 0 e).getD (-1)
theorem zero_int : ∀ w, (zeroValue 3).run Tryz.prog w = .ok (.int .i64 0) w := fun _ => by kernel_rfl
set_option maxHeartbeats 400000 in
theorem facing_any (x y : Int) (hx : I64 x) (hy : I64 y) (w : World) (b : Nat) (T : List Tr) (h : TabF w b T) :
    Calls Tryz.prog 62 #[.pointer (some ⟨b, 0, none⟩), .agg #[.int .i64 x, .int .i64 y]] w fun e w' => e = .returned (.int .i64 (facing T (x, y))) ∧ Below w.heap.size w w' := by
  obtain ⟨m, n, h1, h2, h3⟩ := h
  have hlk : ∀ k, (Instr.lookup 46 (.map (some m)) (.agg #[.int .i64 x, .int .i64 y]) true).run Tryz.prog ((w.alloc (.cells #[.int .i64 x, .int .i64 y] 40)).drewN k) =
      .ok (.tuple #[(faces T 0 (x, y)).getD (.int .i64 0), .bool (faces T 0 (x, y)).isSome]) ((w.alloc (.cells #[.int .i64 x, .int .i64 y] 40)).drewN k) := fun k =>
    ((h2.below (Nat.le_refl _) ((Below.refl _ _).alloc (Nat.le_refl _) _)).same (w' := (w.alloc (.cells #[.int .i64 x, .int .i64 y] 40)).drewN k) rfl).look 46 3 (by kernel_rfl) zero_int (x, y) ⟨hx, hy⟩ true
  have hres : (faces T 0 (x, y)).isSome = true ∧ (faces T 0 (x, y)).getD (.int .i64 0) = .int .i64 (facing T (x, y)) ∨ (faces T 0 (x, y)).isSome = false ∧ facing T (x, y) = -1 := by
    unfold facing faces
    cases faceFrom T 0 (x, y) <;> simp
  generalize facing T (x, y) = r at *
  generalize faces T 0 (x, y) = f at *
  rcases hres with ⟨e1, e2⟩ | ⟨e1, rfl⟩
  · rw [e1, e2] at hlk
    clear h2 e1 e2
    go_enter Tryz.func62, Tryz.ntmps62
    go_wp2
    go_quiet (fail)
    go_wp2
    go_ret
    exact ⟨rfl, ((Below.refl _ _).alloc (Nat.le_refl _) _).trans ⟨rfl, rfl, rfl, Nat.le_refl _, fun _ _ => rfl⟩⟩
  · rw [e1] at hlk
    clear h2 e1
    go_enter Tryz.func62, Tryz.ntmps62
    go_wp2
    go_quiet (fail)
    go_wp2
    go_ret
    exact ⟨rfl, ((Below.refl _ _).alloc (Nat.le_refl _) _).trans ⟨rfl, rfl, rfl, Nat.le_refl _, fun _ _ => rfl⟩⟩
/-- All vertices are from 0 to N - 1. -/
def VIn (N : Int) (T : List Tr) : Prop := ∀ i, i < T.length → ∀ j, 0 ≤ tg (T! T i) j ∧ tg (T! T i) j < N
theorem VIn.vt {N : Int} {T : List Tr} (h : VIn N T) {c : Int} (h0 : 0 ≤ c) (h1 : c < 3 * T.length) : 0 ≤ vt T c ∧ vt T c < N := h _ (by omega) _
theorem I64.of_in {x N : Int} (h : 0 ≤ x ∧ x < N) (hN : N ≤ 10000) : I64 x := ⟨by omega, by omega⟩
def opp (T : List Tr) (c : Int) : Int := facing T (vt T (pv c), vt T (nx c))
/-- A table, whole. -/
structure Tab (w : World) (b : Nat) (N : Int) (T : List Tr) : Prop where
  s : TabS w b N T
  f : TabF w b T
  len : T.length ≤ 10000
  nle : N ≤ 10000
  vin : VIn N T
theorem Tab.mono {w w' : World} {b : Nat} {N : Int} {T : List Tr} {B : Nat} (h : Tab w b N T) (hB : w.heap.size ≤ B) (hb : Below B w w') : Tab w' b N T :=
  ⟨h.s.mono hB hb, h.f.mono hB hb, h.len, h.nle, h.vin⟩
set_option maxHeartbeats 400000 in
theorem opp_any (c : Int) (w : World) (b : Nat) (N : Int) (T : List Tr) (h : Tab w b N T) (hc : 0 ≤ c) (hc2 : c < 3 * T.length) :
    Calls Tryz.prog 26 #[.pointer (some ⟨b, 0, none⟩), .int .i64 c] w fun e w' => e = .returned (.int .i64 (opp T c)) ∧ Below w.heap.size w w' := by
  have H := Lib.hid h
  have V1 := Lib.hid (I64.of_in (h.vin.vt (nx_in hc hc2).1 (nx_in hc hc2).2) h.nle)
  have V2 := Lib.hid (I64.of_in (h.vin.vt (pv_in hc hc2).1 (pv_in hc hc2).2) h.nle)
  have hO : Hid (opp T c = facing T (vt T (pv c), vt T (nx c))) := rfl
  clear h
  go_enter Tryz.func26, Tryz.ntmps26
  go_wp2_with fail
  refine (edge_any c _ _ _ _ H.out.len H.out.s hc hc2).mono ?_
  rintro e w1 ⟨rfl, hb1⟩
  have H1 := Lib.hid ((H.out.mono (Nat.le_refl _) hb1).mono (Nat.le_refl _) ((Below.refl _ _).alloc (Nat.le_refl _) (.cells #[.int .i64 (vt T (nx c)), .int .i64 (vt T (pv c))] 40)))
  generalize vt T (nx c) = x at *
  generalize vt T (pv c) = y at *
  go_wp2_with fail
  refine (facing_any y x V2.out V1.out _ _ _ H1.out.f).mono ?_
  rintro e w2 ⟨rfl, hb2⟩
  go_wp2_with fail
  go_ret
  exact ⟨by rw [hO.out]; rfl, ((hb1.alloc hb1.size _).trans (hb2.mono (by have := hb1.size; simp; omega)))⟩
end Go.Proofs.YtkjamheoihlekaaGreat

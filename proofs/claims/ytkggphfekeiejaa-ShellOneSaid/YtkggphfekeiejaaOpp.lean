/- The corner across. -/
import Derived.Test.YtkggphfekeiejaaFacing
namespace Go.Proofs.Ytkggphfekeiejaa
set_option linter.unusedVariables false
set_option linter.unusedSimpArgs false
open Go.RowKit Go.Maps
/-- All vertices are from 0 to N - 1. -/
def VIn (N : Int) (T : List Tr) : Prop := ∀ i, i < T.length → ∀ j, 0 ≤ tg (T! T i) j ∧ tg (T! T i) j < N
theorem VIn.vt {N : Int} {T : List Tr} (h : VIn N T) {c : Int} (h0 : 0 ≤ c) (h1 : c < 3 * T.length) : 0 ≤ vt T c ∧ vt T c < N := h _ (by omega) _
theorem I64.of_in {x N : Int} (h : 0 ≤ x ∧ x < N) (hN : N ≤ 10000) : I64 x := ⟨by omega, by omega⟩
def opp (T : List Tr) (c : Int) : Int := facing T (vt T (pv c), vt T (nx c))
/-- A table, whole. -/
structure Tab (w : World) (b : Nat) (N : Int) (T : List Tr) : Prop where
  s : TabS w b N T
  f : TabF w b T
  len : T.length ≤ 10000
  nle : N ≤ 10000
  vin : VIn N T
theorem Tab.mono {w w' : World} {b : Nat} {N : Int} {T : List Tr} {B : Nat} (h : Tab w b N T) (hB : w.heap.size ≤ B) (hb : Below B w w') : Tab w' b N T :=
  ⟨h.s.mono hB hb, h.f.mono hB hb, h.len, h.nle, h.vin⟩
set_option maxHeartbeats 400000 in
theorem opp_any (c : Int) (w : World) (b : Nat) (N : Int) (T : List Tr) (h : Tab w b N T) (hc : 0 ≤ c) (hc2 : c < 3 * T.length) :
    Calls Try.prog 21 #[.pointer (some ⟨b, 0, none⟩), .int .i64 c] w fun e w' => e = .returned (.int .i64 (opp T c)) ∧ Below w.heap.size w w' := by
  have H := Lib.hid h
  have V1 := Lib.hid (I64.of_in (h.vin.vt (nx_in hc hc2).1 (nx_in hc hc2).2) h.nle)
  have V2 := Lib.hid (I64.of_in (h.vin.vt (pv_in hc hc2).1 (pv_in hc hc2).2) h.nle)
  have hO : Hid (opp T c = facing T (vt T (pv c), vt T (nx c))) := rfl
  clear h
  go_enter Try.func21, Try.ntmps21
  go_wp2_with fail
  refine (edge_any c _ _ _ _ H.out.len H.out.s hc hc2).mono ?_
  rintro e w1 ⟨rfl, hb1⟩
  have H1 := Lib.hid ((H.out.mono (Nat.le_refl _) hb1).mono (Nat.le_refl _) ((Below.refl _ _).alloc (Nat.le_refl _) (.cells #[.int .i64 (vt T (nx c)), .int .i64 (vt T (pv c))] 74)))
  generalize vt T (nx c) = x at *
  generalize vt T (pv c) = y at *
  go_wp2_with fail
  refine (facing_any y x V2.out V1.out _ _ _ H1.out.f).mono ?_
  rintro e w2 ⟨rfl, hb2⟩
  go_wp2_with fail
  go_ret
  exact ⟨by rw [hO.out]; rfl, ((hb1.alloc hb1.size _).trans (hb2.mono (by have := hb1.size; simp; omega)))⟩
end Go.Proofs.Ytkggphfekeiejaa

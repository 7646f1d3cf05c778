/- gypsumlaw13.fits: the table, or that there is none. -/
import Derived.Test.YtkggphfekeiejaaCornerNew
import Derived.Test.YtkggphfekeiejaaRefSurface
namespace Go.Proofs.Ytkggphfekeiejaa
set_option linter.unusedVariables false
set_option linter.unusedSimpArgs false
open Go.RowKit
/-- It fits: a table of a small surface; or it doesn't. -/
def FitsPost (N : Int) (T : List Tr) (w : World) (e : Ending) (w' : World) : Prop :=
  (∃ p, e = .returned (.tuple #[.pointer (some ⟨p, 0, none⟩), .bool true]) ∧ w.heap.size ≤ p ∧ Tab w' p N T ∧ Surf N T ∧ T.length ≤ 30 ∧ N ≤ 90 ∧ Below w.heap.size w w') ∨ (e = .returned (.tuple #[.pointer none, .bool false]) ∧ Below w.heap.size w w')
set_option maxRecDepth 100000 in
set_option maxHeartbeats 1000000 in
theorem fits_any (N : Int) (ao : Option Addr) (cap : Nat) (T : List Tr) (w : World) (hT : TrisAt w ao T) (hm : T.length ≤ 9223372036854775807) :
    Calls Try.prog 11 #[.agg #[.int .i64 N, .slice ao T.length cap]] w (FitsPost N T w) := by
  have hb0 : Below w.heap.size w (w.alloc (.cells #[.int .i64 N, .slice ao T.length cap] 24)) := (Below.refl _ _).alloc (Nat.le_refl _) _
  obtain ⟨n, hn⟩ : ∃ n, n = T.length := ⟨_, rfl⟩
  by_cases h30 : T.length ≤ 30
  case neg =>
    rw [← hn] at h30 hm hb0 ⊢
    have hd : decide ((n : Int) > 30) = true := by simp; omega
    have HB := Lib.hid hb0
    clear hn hT hb0
    go_enter Try.func11, Try.ntmps11
    go_wp2
    exact bodyPost_ret (v := .tuple #[.pointer none, .bool false]) (by simp [results, Try.results11, go_sem]) rfl (.inr ⟨rfl, HB.out⟩)
  by_cases h90 : N ≤ 90
  case neg =>
    rw [← hn] at h30 hm hb0 ⊢
    have hd : decide ((n : Int) > 30) = false := by simp; omega
    have hd2 : decide (N > 90) = true := by simp; omega
    have HB := Lib.hid hb0
    clear hn hT hb0
    go_enter Try.func11, Try.ntmps11
    go_wp2
    exact bodyPost_ret (v := .tuple #[.pointer none, .bool false]) (by simp [results, Try.results11, go_sem]) rfl (.inr ⟨rfl, HB.out⟩)
  have HS := Lib.hid (surface_any N ao cap T _ (hT.mono (Nat.le_refl _) hb0) (by omega))
  have HW := Lib.hid (fun w' (h : TrisAt w' ao T) (hs : Surf N T) => new_ok N ao cap T w' h hs)
  have HT := Lib.hid hT
  have HB := Lib.hid hb0
  have HX := Lib.hid (RowIs.made w 24 [.int .i64 N, .slice ao T.length cap])
  rw [← hn] at h30 hm HS HW HB HX ⊢
  have HN := Lib.hid hn
  have hd : decide ((n : Int) > 30) = false := by simp; omega
  have hd2 : decide (N > 90) = false := by simp; omega
  clear hn hT hb0
  have hq : ∀ w, (binOp .eql 45 (.agg #[.int .i64 0, .int .i64 0, .int .i64 0]) (.agg #[.int .i64 0, .int .i64 0, .int .i64 0])).run Try.prog w = .ok (.bool true) w := fun _ => by kernel_rfl
  go_enter Try.func11, Try.ntmps11
  go_wp2_with fail
  refine HS.out.mono ?_
  rintro e w1 ⟨r, rfl, hy, hb1⟩
  have HB1 := Lib.hid (below_more HB.out hb1 HB.out.size)
  have HX1 := Lib.hid (HX.out.after hb1)
  have x0 := HX1.out.cell (i := 0) rfl
  have x1 := HX1.out.cell (i := 1) rfl
  have HY := Lib.hid hy
  clear hy hb1
  cases r
  · go_wp2
    exact bodyPost_ret (v := .tuple #[.pointer none, .bool false]) (by simp [results, Try.results11, go_sem]) rfl (.inr ⟨rfl, HB1.out⟩)
  · have HSU := Lib.hid (HY.out rfl)
    go_wp2_with fail
    refine (HW.out _ (HT.out.mono (Nat.le_refl _) HB1.out) HSU.out).mono ?_
    rintro e w2 ⟨p, rfl, hp, htab, hb2⟩
    have HB2 := Lib.hid (below_more HB1.out hb2 HB1.out.size)
    have hp2 : w.heap.size ≤ p := by have := HB1.out.size; omega
    have hb3 : Below w2.heap.size w2 (w2.alloc (.cells #[.int .i64 0, .int .i64 0, .int .i64 0] 45)) := (Below.refl _ _).alloc (Nat.le_refl _) _
    have HT3 := Lib.hid (htab.mono (Nat.le_refl _) hb3)
    have HB3 := Lib.hid (below_more HB2.out hb3 HB2.out.size)
    clear htab hb2 hb3
    go_upto_region 4 with fail
    go_quiet (fail)
    go_wp2
    exact bodyPost_ret (v := .tuple #[.pointer (some ⟨p, 0, none⟩), .bool true]) (by simp [results, Try.results11, go_sem]) rfl (.inl ⟨p, rfl, hp2, HT3.out.mono (Nat.le_refl _) ⟨rfl, rfl, rfl, Nat.le_refl _, fun _ _ => rfl⟩, HSU.out, by have := HN.out; omega, h90, HB3.out.trans ⟨rfl, rfl, rfl, Nat.le_refl _, fun _ _ => rfl⟩⟩)
end Go.Proofs.Ytkggphfekeiejaa

/- certify.twice, mirrored, All, Check: of a surface nothing is told. -/
import Derived.Test.YtknioobpoieohaaCertKeysLaw
import Derived.Test.YtknioobpoieohaaCertPinch
namespace Go.Proofs.Ytknioobpoieohaa
set_option linter.unusedVariables false
set_option linter.unusedSimpArgs false
open Go.RowKit
theorem Surf.i64 {N : Int} {T : List Tr} (h : Surf N T) : ∀ i, i < T.length → ∀ j, I64 (tg (T! T i) j) := fun i hi j => I64.of_in (h.vin i hi j) (by have := h.n1; omega)
set_option maxHeartbeats 400000 in
theorem ctwice_ok (N : Int) (ao : Option Addr) (cap : Nat) (T : List Tr) (w : World) (hT : TrisAt w ao T) (hs : Surf N T) :
    Calls Try.prog 63 #[.agg #[.int .i64 N, .slice ao T.length cap]] w fun e w' => e = .returned (.slice none 0 0) ∧ Below w.heap.size w w' := by
  have hb0 : Below w.heap.size w (w.alloc (.cells #[.int .i64 N, .slice ao T.length cap] 24)) := (Below.refl _ _).alloc (Nat.le_refl _) _
  have HC := Lib.hid (cpairs3 N ao cap T (w.alloc (.cells #[.int .i64 N, .slice ao T.length cap] 24)) (hT.mono (Nat.le_refl _) hb0) (by have := hs.t1; omega) hs.i64 hs.keys3)
  have HB0 := Lib.hid hb0
  clear hb0 hT hs
  go_enter Try.func63, Try.ntmps63
  go_wp2_with fail
  refine HC.out.mono ?_
  rintro e w1 ⟨rfl, hb1⟩
  have HB1 := Lib.hid (below_more HB0.out hb1 (by simp))
  clear hb1
  go_wp2
  go_ret
  exact ⟨rfl, HB1.out⟩
set_option maxHeartbeats 400000 in
theorem cmirrored_ok (N : Int) (ao : Option Addr) (cap : Nat) (T : List Tr) (w : World) (hT : TrisAt w ao T) (hs : Surf N T) :
    Calls Try.prog 64 #[.agg #[.int .i64 N, .slice ao T.length cap]] w fun e w' => e = .returned (.slice none 0 0) ∧ Below w.heap.size w w' := by
  have hb0 : Below w.heap.size w (w.alloc (.cells #[.int .i64 N, .slice ao T.length cap] 24)) := (Below.refl _ _).alloc (Nat.le_refl _) _
  have HC := Lib.hid (cpairs4 N ao cap T (w.alloc (.cells #[.int .i64 N, .slice ao T.length cap] 24)) (hT.mono (Nat.le_refl _) hb0) (by have := hs.t1; omega) hs.i64 hs.keys4)
  have HB0 := Lib.hid hb0
  clear hb0 hT hs
  go_enter Try.func64, Try.ntmps64
  go_wp2_with fail
  refine HC.out.mono ?_
  rintro e w1 ⟨rfl, hb1⟩
  have HB1 := Lib.hid (below_more HB0.out hb1 (by simp))
  clear hb1
  go_wp2
  go_ret
  exact ⟨rfl, HB1.out⟩
def kindCells : List Value := [.func (.func 61) #[] #[], .func (.func 62) #[] #[], .func (.func 63) #[] #[], .func (.func 64) #[] #[], .func (.func 65) #[] #[], .func (.func 66) #[] #[]]
set_option maxRecDepth 100000 in
set_option maxHeartbeats 1000000 in
theorem call_ok (N : Int) (ao : Option Addr) (cap : Nat) (T : List Tr) (w : World) (hT : TrisAt w ao T) (hs : Surf N T) :
    Calls Try.prog 55 #[.agg #[.int .i64 N, .slice ao T.length cap]] w fun e w' => e = .returned (.slice none 0 0) ∧ Below w.heap.size w w' := by
  have hr := RowIs.made (w.alloc (.cells #[.int .i64 N, .slice ao T.length cap] 24)) 97 kindCells
  have e0 : (w.alloc (.cells #[.int .i64 N, .slice ao T.length cap] 24)).heap.size = w.heap.size + 1 := by simp
  rw [e0] at hr
  have HR := Lib.hid hr
  have HS := Lib.hid hs
  have HT := Lib.hid (hT.mono (Nat.le_refl _) ((Below.refl _ _).alloc (Nat.le_refl _) (.cells #[.int .i64 N, .slice ao T.length cap] 24)))
  obtain ⟨len, hlen⟩ : ∃ n, n = T.length := ⟨_, rfl⟩
  rw [← hlen] at HR HT ⊢
  have HL := Lib.hid hlen
  clear hr e0 hT hs hlen
  go_enter Try.func55, Try.ntmps55
  go_wp2
  go_loopw [8] (fun i ws => ∃ (k : Nat), k ≤ 6 ∧ i = .int .i64 k ∧ RowIs ws (w.heap.size + 1) 97 kindCells ∧ Below (w.heap.size + 1) (w.alloc (.cells #[.int .i64 N, .slice ao len cap] 24)) ws) (fun i _ => 6 - (intOf i).toNat)
  case atStart => exact ⟨0, by omega, rfl, HR.out, (Below.refl _ _).alloc (by simp) _⟩
  case round =>
    clear HR
    obtain ⟨k, hk, rfl, hrow, hb⟩ := hrel
    obtain ⟨hc0, hc1, hbw, hsz⟩ := box_soup hb
    have HB := Lib.hid hb
    have HBw := Lib.hid hbw
    have HTr := Lib.hid (HT.out.mono (by simp) hb)
    by_cases hk6 : k < 6
    · have fin : ∀ (f : Nat), (∀ w, TrisAt w ao T → Calls Try.prog f #[.agg #[.int .i64 N, .slice ao T.length cap]] w fun e w' => e = .returned (.slice none 0 0) ∧ Below w.heap.size w w') →
          Calls Try.prog f #[.agg #[.int .i64 N, .slice ao len cap]] wr fun e w' => e = .returned (.slice none 0 0) ∧ Below (w.heap.size + 1) (w.alloc (.cells #[.int .i64 N, .slice ao len cap] 24)) w' ∧ RowIs w' (w.heap.size + 1) 97 kindCells := by
        intro f hf
        have h := hf wr HTr.out
        rw [← HL.out] at h
        exact h.mono fun e w' ⟨he, hb'⟩ => ⟨he, below_more HB.out hb' (by omega), hrow.below hb' hrow.lt⟩
      have F := Lib.hid fin
      have h0 := hrow.cell (i := 0) (v := .func (.func 61) #[] #[]) rfl
      have h1 := hrow.cell (i := 1) (v := .func (.func 62) #[] #[]) rfl
      have h2 := hrow.cell (i := 2) (v := .func (.func 63) #[] #[]) rfl
      have h3 := hrow.cell (i := 3) (v := .func (.func 64) #[] #[]) rfl
      have h4 := hrow.cell (i := 4) (v := .func (.func 65) #[] #[]) rfl
      have h5 := hrow.cell (i := 5) (v := .func (.func 66) #[] #[]) rfl
      clear hrow hb hbw fin
      rcases (show k = 0 ∨ k = 1 ∨ k = 2 ∨ k = 3 ∨ k = 4 ∨ k = 5 by omega) with rfl | rfl | rfl | rfl | rfl | rfl
      · go_wp2_with fail
        refine (F.out _ fun w h => cindex_ok N ao cap T w h HS.out).mono ?_
        rintro e w2 ⟨rfl, hb2, hr2⟩
        have HB2 := Lib.hid hb2
        have HR2 := Lib.hid hr2
        clear hb2 hr2 h0 h1 h2 h3 h4 h5 hc0 hc1
        go_wp2
        go_roundw
        case rel => exact ⟨0 + 1, by omega, by go_num, HR2.out, HB2.out⟩
        case measure => simp [intOf]
      · go_wp2_with fail
        refine (F.out _ fun w h => cloop_ok N ao cap T w h HS.out).mono ?_
        rintro e w2 ⟨rfl, hb2, hr2⟩
        have HB2 := Lib.hid hb2
        have HR2 := Lib.hid hr2
        clear hb2 hr2 h0 h1 h2 h3 h4 h5 hc0 hc1
        go_wp2
        go_roundw
        case rel => exact ⟨1 + 1, by omega, by go_num, HR2.out, HB2.out⟩
        case measure => simp [intOf]
      · go_wp2_with fail
        refine (F.out _ fun w h => ctwice_ok N ao cap T w h HS.out).mono ?_
        rintro e w2 ⟨rfl, hb2, hr2⟩
        have HB2 := Lib.hid hb2
        have HR2 := Lib.hid hr2
        clear hb2 hr2 h0 h1 h2 h3 h4 h5 hc0 hc1
        go_wp2
        go_roundw
        case rel => exact ⟨2 + 1, by omega, by go_num, HR2.out, HB2.out⟩
        case measure => simp [intOf]
      · go_wp2_with fail
        refine (F.out _ fun w h => cmirrored_ok N ao cap T w h HS.out).mono ?_
        rintro e w2 ⟨rfl, hb2, hr2⟩
        have HB2 := Lib.hid hb2
        have HR2 := Lib.hid hr2
        clear hb2 hr2 h0 h1 h2 h3 h4 h5 hc0 hc1
        go_wp2
        go_roundw
        case rel => exact ⟨3 + 1, by omega, by go_num, HR2.out, HB2.out⟩
        case measure => simp [intOf]
      · go_wp2_with fail
        refine (F.out _ fun w h => clonely_ok N ao cap T w h HS.out).mono ?_
        rintro e w2 ⟨rfl, hb2, hr2⟩
        have HB2 := Lib.hid hb2
        have HR2 := Lib.hid hr2
        clear hb2 hr2 h0 h1 h2 h3 h4 h5 hc0 hc1
        go_wp2
        go_roundw
        case rel => exact ⟨4 + 1, by omega, by go_num, HR2.out, HB2.out⟩
        case measure => simp [intOf]
      · go_wp2_with fail
        refine (F.out _ fun w h => cpinch_ok N ao cap T w h HS.out).mono ?_
        rintro e w2 ⟨rfl, hb2, hr2⟩
        have HB2 := Lib.hid hb2
        have HR2 := Lib.hid hr2
        clear hb2 hr2 h0 h1 h2 h3 h4 h5 hc0 hc1
        go_wp2
        go_roundw
        case rel => exact ⟨5 + 1, by omega, by go_num, HR2.out, HB2.out⟩
        case measure => simp [intOf]
    · clear hb hbw hrow
      go_wp2
      go_ret
      exact ⟨rfl, HBw.out⟩
set_option maxHeartbeats 400000 in
theorem check_ok (N : Int) (ao : Option Addr) (cap : Nat) (T : List Tr) (w : World) (hT : TrisAt w ao T) (hs : Surf N T) :
    Calls Try.prog 39 #[.agg #[.int .i64 N, .slice ao T.length cap]] w fun e w' => e = .returned (.agg #[.int .i64 0, .int .i64 0, .int .i64 0]) ∧ Below w.heap.size w w' := by
  have hb0 : Below w.heap.size w ((w.alloc (.cells #[.int .i64 N, .slice ao T.length cap] 24)).alloc (.cells #[.int .i64 0, .int .i64 0, .int .i64 0] 64)) := ((Below.refl _ _).alloc (Nat.le_refl _) _).alloc (by simp) _
  have HC := Lib.hid (call_ok N ao cap T ((w.alloc (.cells #[.int .i64 N, .slice ao T.length cap] 24)).alloc (.cells #[.int .i64 0, .int .i64 0, .int .i64 0] 64)) (hT.mono (Nat.le_refl _) hb0) hs)
  have HB0 := Lib.hid hb0
  clear hb0 hT hs
  go_enter Try.func39, Try.ntmps39
  go_wp2_with fail
  refine HC.out.mono ?_
  rintro e w1 ⟨rfl, hb1⟩
  have HB1 := Lib.hid (below_more HB0.out hb1 (by simp; omega))
  have hr := RowIs.made (w.alloc (.cells #[.int .i64 N, .slice ao T.length cap] 24)) 64 [.int .i64 0, .int .i64 0, .int .i64 0]
  have e0 : (w.alloc (.cells #[.int .i64 N, .slice ao T.length cap] 24)).heap.size = w.heap.size + 1 := by simp
  rw [e0] at hr
  have hr1 := hr.below hb1 hr.lt
  have c0 := hr1.cell (i := 0) rfl
  have c1 := hr1.cell (i := 1) rfl
  have c2 := hr1.cell (i := 2) rfl
  have f0 := hr1.free 0
  have f1 := hr1.free 1
  have f2 := hr1.free 2
  clear hb1 hr hr1 e0
  go_wp2
  exact bodyPost_ret (v := .agg #[.int .i64 0, .int .i64 0, .int .i64 0]) (by simp [results, Try.results39, go_sem, c0, c1, c2]) rfl ⟨rfl, ((HB1.out.setCell (p := ⟨w.heap.size + 1, 0, none⟩) (Nat.le_succ _) _).setCell (p := ⟨w.heap.size + 1, 1, none⟩) (Nat.le_succ _) _).setCell (p := ⟨w.heap.size + 1, 2, none⟩) (Nat.le_succ _) _⟩
end Go.Proofs.Ytknioobpoieohaa

/- gypsumlaw13.ShellBack: the walk. -/
import Derived.Test.YtkggphfekeiejaaJoin
import Derived.Test.YtkggphfekeiejaaJoinBack
import Derived.Test.YtkggphfekeiejaaAwake
namespace Go.Proofs.Ytkggphfekeiejaa
set_option linter.unusedVariables false
set_option linter.unusedSimpArgs false
open Go.RowKit
theorem parts_sized {N : Int} {T : List Tr} (hs : Surf N T) (L : Nat → Int) {m : Nat} (hn : T.length ≤ 30) : Sized (partOf T L T.length) m := fun k _ => by
  have h1 := ofShell_length L T.length k
  have h2 : (vertsOf T (ofShell L T.length k)).length ≤ 90 := by
    have h3 := uniq_length ((ofShell L T.length k).flatMap fun i => corners3 (T! T i))
    have h4 : ((ofShell L T.length k).flatMap fun i => corners3 (T! T i)).length = (ofShell L T.length k).length * 3 := by
      rw [List.length_flatMap]
      have : (ofShell L T.length k).map (fun i => (corners3 (T! T i)).length) = List.replicate (ofShell L T.length k).length 3 := by
        apply List.ext_getElem
        · simp
        · intro i h1 h2; simp [corners3]
      rw [this, List.sum_replicate_nat]
    unfold vertsOf
    omega
  refine ⟨?_, ?_, ?_⟩
  · simp [partOf]; omega
  · show (vertsOf T (ofShell L T.length k)).length ≤ 100; omega
  · simp [partOf]; omega
set_option maxRecDepth 100000 in
set_option maxHeartbeats 1500000 in
theorem back_any (N : Int) (ao : Option Addr) (cap : Nat) (T : List Tr) (w : World) (hT : TrisAt w ao T) (hm : T.length ≤ 9223372036854775807) :
    Calls Try.prog 9 #[.agg #[.int .i64 N, .slice ao T.length cap]] w fun e w' => e = .returned (.bool true) ∧ Below w.heap.size w w' := by
  have hb0 : Below w.heap.size w (w.alloc (.cells #[.int .i64 N, .slice ao T.length cap] 24)) := (Below.refl _ _).alloc (Nat.le_refl _) _
  have HF := Lib.hid (fits_any N ao cap T _ (hT.mono (Nat.le_refl _) hb0) hm)
  have HT := Lib.hid hT
  have HB0 := Lib.hid hb0
  have HX := Lib.hid (RowIs.made w 24 [.int .i64 N, .slice ao T.length cap])
  obtain ⟨n, hn⟩ : ∃ n, n = T.length := ⟨_, rfl⟩
  rw [← hn] at HF HB0 HX ⊢
  have HN := Lib.hid hn
  clear hn hT hb0 hm
  go_enter Try.func9, Try.ntmps9
  go_wp2_with fail
  refine HF.out.mono ?_
  intro e w1 hpost
  rcases hpost with ⟨p, rfl, hp, htab, hs, h30, h90, hb⟩ | ⟨rfl, hb⟩
  case inr =>
    have HB1 := Lib.hid (below_more HB0.out hb HB0.out.size)
    clear hb
    go_wp2_with fail
    refine (awake_ok _).mono ?_
    rintro e w2 ⟨rfl, hb2⟩
    have HB2 := Lib.hid (below_more HB1.out hb2 HB1.out.size)
    clear hb2
    go_wp2_with fail
    refine (awake_ok _).mono ?_
    rintro e w3 ⟨rfl, hb3⟩
    have HB3 := Lib.hid (below_more HB2.out hb3 HB2.out.size)
    clear hb3
    go_wp2
    exact bodyPost_ret (v := .bool true) (by simp [results, Try.results9, go_sem]) rfl ⟨rfl, HB3.out⟩
  case inl =>
    have HB1 := Lib.hid (below_more HB0.out hb HB0.out.size)
    have HX1 := Lib.hid (HX.out.after hb)
    have HTB1 := Lib.hid htab
    have HS := Lib.hid hs
    have hn30 : n ≤ 30 := by have := HN.out; omega
    clear hb htab hs HX HB0 HF h30 hp
    go_wp2_with fail
    refine (awake_ok _).mono ?_
    rintro e w2 ⟨rfl, hb2⟩
    have HB2 := Lib.hid (below_more HB1.out hb2 HB1.out.size)
    have HX2 := Lib.hid (HX1.out.after hb2)
    have HTB2 := Lib.hid (HTB1.out.mono (Nat.le_refl _) hb2)
    have HT2 := Lib.hid (HT.out.mono (Nat.le_refl _) HB2.out)
    obtain ⟨L, hL⟩ := shells_exist (Adj T) T.length
    obtain ⟨m, hm⟩ := Int.eq_ofNat_of_zero_le (cnt_nonneg L T.length)
    have hmn : m ≤ 30 := by have := hL.cnt_le; have := HN.out; omega
    have HL := Lib.hid hL
    have HM := Lib.hid hm.symm
    clear hb2 hL hm HB1 HX1 HTB1
    go_wp2_with fail
    refine (split_L HS.out HL.out HM.out w2 p HTB2.out).mono ?_
    rintro e w3 ⟨a, c, rfl, hp3, hb3⟩
    have HP3 := Lib.hid hp3
    have HB3 := Lib.hid (below_more HB2.out hb3 HB2.out.size)
    have HX3 := Lib.hid (HX2.out.after hb3)
    have HT3 := Lib.hid (HT2.out.mono (Nat.le_refl _) hb3)
    clear hp3 hb3 HTB2 HT2 HX2 HT HB2
    have HSZ := Lib.hid (parts_sized HS.out L (m := m) (by have := HN.out; omega))
    go_wp2_with fail
    refine (join_any (partOf T L T.length) m c a w3 (by omega) HSZ.out HP3.out).mono ?_
    rintro e w4 ⟨N', ao', cap', T', cc, rfl, hcc, hres, -, hT4, hb4⟩
    obtain ⟨hj0, hjr⟩ := join_back HS.out HL.out HM.out
    obtain rfl : cc = 0 := hcc.trans hj0
    obtain ⟨rfl, rfl⟩ := hjr _ _ (hres rfl)
    have HB4 := Lib.hid (below_more HB3.out hb4 HB3.out.size)
    have HX4 := Lib.hid (HX3.out.after hb4)
    have HT4 := Lib.hid (HT3.out.mono (Nat.le_refl _) hb4)
    have HT4' := Lib.hid hT4
    have HBA := Lib.hid (show Below w4.heap.size w4 (w4.alloc (.cells #[.int .i64 N', .slice ao' n cap'] 24)) from (Below.refl _ _).alloc (Nat.le_refl _) _)
    rw [← HN.out] at HP3 ⊢
    clear hcc hres hj0 hjr hT4 hb4 HP3 HSZ
    have x0 := HX4.out.cell (i := 0) rfl
    have x1 := HX4.out.cell (i := 1) rfl
    have x0' := (HX4.out.after HBA.out).cell (i := 0) rfl
    have x1' := (HX4.out.after HBA.out).cell (i := 1) rfl
    have HSM := Lib.hid (same_any N' N' ao' ao cap' cap T' T' (w4.alloc (.cells #[.int .i64 N', .slice ao' n cap'] 24)) (by have := HN.out; omega) (HT4'.out.mono (Nat.le_refl _) HBA.out) (HT4.out.mono (Nat.le_refl _) HBA.out))
    rw [← HN.out] at HSM
    go_wp2_with fail
    refine HSM.out.mono ?_
    rintro e w5 ⟨rfl, hb5⟩
    have HB5 := Lib.hid (below_more (below_more HB4.out HBA.out HB4.out.size) hb5 (by have := HB4.out.size; simp; omega))
    clear hb5 x0 x1 x0' x1'
    simp only [and_self, decide_true]
    go_wp2
    exact bodyPost_ret (v := .bool true) (by simp [results, Try.results9, go_sem]) rfl ⟨rfl, HB5.out⟩
end Go.Proofs.Ytkggphfekeiejaa

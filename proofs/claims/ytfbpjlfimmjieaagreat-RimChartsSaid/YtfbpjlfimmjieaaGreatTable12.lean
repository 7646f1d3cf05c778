/- gypsumlaw12.Table: of a surface its table, of none nothing. -/
import Derived.Test.YtfbpjlfimmjieaaGreatFaceLaw
import Derived.Test.YtfbpjlfimmjieaaGreatCornerNew
import Derived.Test.YtfbpjlfimmjieaaGreatRefSmall
import Derived.Deep.RegionHeld3
import Derived.Deep.DeepCutAuto
namespace Go.Proofs.YtfbpjlfimmjieaaGreat
set_option linter.unusedVariables false
set_option linter.unusedSimpArgs false
open Go.RowKit
set_option maxRecDepth 100000 in
set_option maxHeartbeats 1000000 in
theorem table12 (n : Nat) (ao : Option Addr) (cap : Nat) (T : List Tr) (w : World) (hT : TrisAt w ao T) (hs : Surf n T) (hl : T.length ≤ 40) :
    Calls Tryz.prog 14 #[.agg #[.int .i64 (n : Int), .slice ao T.length cap]] w fun e w' => ∃ p, e = .returned (.pointer (some ⟨p, 0, none⟩)) ∧ w.heap.size ≤ p ∧ Tab w' p n T ∧ Below w.heap.size w w' := by
  obtain ⟨W0, hW0⟩ : ∃ W0, W0 = w.alloc (.cells #[.int .i64 (n : Int), .slice ao T.length cap] 24) := ⟨_, rfl⟩
  have hb0 : Below w.heap.size w W0 := by rw [hW0]; exact (Below.refl _ _).alloc (Nat.le_refl _) _
  have hr0 : RowIs W0 w.heap.size 24 [.int .i64 (n : Int), .slice ao T.length cap] := by rw [hW0]; exact RowIs.made w 24 [.int .i64 (n : Int), .slice ao T.length cap]
  have HSU := Lib.hid (surface_iff (n : Int) ao cap T W0 (hT.mono (Nat.le_refl _) hb0) (by omega))
  have HNEW := Lib.hid (fun (X : World) (h : TrisAt X ao T) => new_ok n ao cap T X h hs)
  have HT := Lib.hid (hT.mono (Nat.le_refl _) hb0)
  have HS := Lib.hid hs
  obtain ⟨xb, hxb⟩ : ∃ x, x = w.heap.size := ⟨_, rfl⟩
  obtain ⟨len, hlen⟩ : ∃ l, l = T.length := ⟨_, rfl⟩
  rw [← hlen] at hl hW0 hr0 HSU HNEW ⊢
  rw [← hxb] at hr0
  have d0 : decide ((len : Int) > 40) = false := by simp; omega
  have d1 : decide ((40 : Int) < (len : Int)) = false := by simp; omega
  have HB0 := Lib.hid hb0
  have HR0 := Lib.hid hr0
  have HW0 := Lib.hid hW0
  have HXB := Lib.hid hxb
  clear hT hb0 hr0 hlen hW0 hxb hs
  go_enter Tryz.func14, Tryz.ntmps14
  go_upto_region 1 with fail
  rw [← HW0.out, ← HXB.out]
  have c0 := HR0.out.cell (i := 0) rfl
  have c1 := HR0.out.cell (i := 1) rfl
  go_wp2_with fail
  refine HSU.out.mono ?_
  rintro e w1 ⟨r, rfl, hr, hb1⟩
  obtain rfl : r = true := hr.2 HS.out
  have HB1 := Lib.hid (below_more HB0.out hb1 HB0.out.size)
  have HN1 := Lib.hid (HNEW.out w1 (HT.out.mono (Nat.le_refl _) hb1))
  have hr1 := HR0.out.after hb1
  have c0 := hr1.cell (i := 0) rfl
  have c1 := hr1.cell (i := 1) rfl
  clear hr hb1 hr1
  go_wp2_with fail
  refine HN1.out.mono ?_
  rintro e w2 ⟨p, rfl, hp, htab, hb2⟩
  have HB2 := Lib.hid (below_more HB1.out hb2 HB1.out.size)
  have HP := Lib.hid hp
  have HPW := Lib.hid (show w.heap.size ≤ p from Nat.le_trans HB1.out.size hp)
  have HF := Lib.hid (show ∀ o, Tab (w2.alloc o) p n T ∧ Below w.heap.size w (w2.alloc o) from fun o => ⟨htab.mono (Nat.le_refl _) ((Below.refl _ _).alloc (Nat.le_refl _) o), HB2.out.alloc HB2.out.size o⟩)
  clear hp htab hb2
  go_wp2
  go_ret
  exact ⟨p, rfl, HPW.out, (HF.out _).1, (HF.out _).2⟩
set_option maxRecDepth 100000 in
set_option maxHeartbeats 1000000 in
theorem table12_no (n : Int) (ao : Option Addr) (cap : Nat) (T : List Tr) (w : World) (hT : TrisAt w ao T) (hs : ¬ Surf n T) (hl : T.length ≤ 40) :
    Calls Tryz.prog 14 #[.agg #[.int .i64 n, .slice ao T.length cap]] w fun e w' => e = .returned (.pointer none) ∧ Below w.heap.size w w' := by
  obtain ⟨W0, hW0⟩ : ∃ W0, W0 = w.alloc (.cells #[.int .i64 n, .slice ao T.length cap] 24) := ⟨_, rfl⟩
  have hb0 : Below w.heap.size w W0 := by rw [hW0]; exact (Below.refl _ _).alloc (Nat.le_refl _) _
  have hr0 : RowIs W0 w.heap.size 24 [.int .i64 n, .slice ao T.length cap] := by rw [hW0]; exact RowIs.made w 24 [.int .i64 n, .slice ao T.length cap]
  have HSU := Lib.hid (surface_iff n ao cap T W0 (hT.mono (Nat.le_refl _) hb0) (by omega))
  have HS := Lib.hid hs
  obtain ⟨xb, hxb⟩ : ∃ x, x = w.heap.size := ⟨_, rfl⟩
  obtain ⟨len, hlen⟩ : ∃ l, l = T.length := ⟨_, rfl⟩
  rw [← hlen] at hl hW0 hr0 HSU ⊢
  rw [← hxb] at hr0
  have d0 : decide ((len : Int) > 40) = false := by simp; omega
  have d1 : decide ((40 : Int) < (len : Int)) = false := by simp; omega
  have HB0 := Lib.hid hb0
  have HR0 := Lib.hid hr0
  have HW0 := Lib.hid hW0
  have HXB := Lib.hid hxb
  clear hT hb0 hr0 hlen hW0 hxb hs
  go_enter Tryz.func14, Tryz.ntmps14
  go_upto_region 1 with fail
  rw [← HW0.out, ← HXB.out]
  have c0 := HR0.out.cell (i := 0) rfl
  have c1 := HR0.out.cell (i := 1) rfl
  go_wp2_with fail
  refine HSU.out.mono ?_
  rintro e w1 ⟨r, rfl, hr, hb1⟩
  obtain rfl : r = false := by
    cases r
    · rfl
    · exact absurd (hr.1 rfl) HS.out
  have HB1 := Lib.hid (below_more HB0.out hb1 HB0.out.size)
  clear hr hb1
  go_wp2
  go_ret
  exact ⟨rfl, HB1.out⟩
end Go.Proofs.YtfbpjlfimmjieaaGreat

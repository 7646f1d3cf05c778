/- rim.table, Of, Touch, where there is none. rim.Cut where there is none: no surface, or bays or a body that don't fit. -/
import Derived.Test.YtknioobpoieohaaGreatRimTab
import Derived.Test.YtknioobpoieohaaGreatCutSpec
namespace Go.Proofs.YtknioobpoieohaaGreat
set_option linter.unusedVariables false
set_option linter.unusedSimpArgs false
open Go.RowKit
set_option maxRecDepth 100000 in
set_option maxHeartbeats 1000000 in
theorem table_none (N : Int) (ao : Option Addr) (cap : Nat) (T : List Tr) (bv : Value) (w : World) (hT : TrisAt w ao T) (hl : T.length ≤ 8192) (hs : ¬ Surf N T) :
    Calls Tryz.prog 32 #[.agg #[.int .i64 N, .slice ao T.length cap], bv] w fun e w' => e = .returned (.tuple #[.pointer none, .int .i64 11]) ∧ Below w.heap.size w w' := by
  obtain ⟨W0, hW0⟩ : ∃ W0, W0 = w.alloc (.cells #[.int .i64 N, .slice ao T.length cap] 24) := ⟨_, rfl⟩
  have hb0 : Below w.heap.size w W0 := by rw [hW0]; exact (Below.refl _ _).alloc (Nat.le_refl _) _
  have hr0 : RowIs W0 w.heap.size 24 [.int .i64 N, .slice ao T.length cap] := by rw [hW0]; exact RowIs.made w 24 [.int .i64 N, .slice ao T.length cap]
  have HC := Lib.hid (new_none N ao cap T W0 (hT.mono (Nat.le_refl _) hb0) hl hs)
  have HR0 := Lib.hid hr0
  have HB0 := Lib.hid hb0
  have HW0 := Lib.hid hW0
  clear hT hb0 hr0 hW0 hs
  go_enter Tryz.func32, Tryz.ntmps32
  go_upto_region 1 with fail
  rw [← HW0.out]
  have c0 := HR0.out.cell (i := 0) rfl
  have c1 := HR0.out.cell (i := 1) rfl
  go_wp2_with fail
  refine HC.out.mono ?_
  rintro e w1 ⟨k, a, b, rfl, hk1, hk2, hb1⟩
  have HB1 := Lib.hid (below_more HB0.out hb1 HB0.out.size)
  have HB2 := Lib.hid (HB1.out.alloc HB1.out.size (.cells #[.int .i64 k, .int .i64 a, .int .i64 b] 87))
  have d0 : (k != 0) = true := by simp; omega
  have d1 : (k == 0) = false := by simp; omega
  clear hb1 c0 c1
  go_wp2
  exact bodyPost_ret (v := .tuple #[.pointer none, .int .i64 11]) (by simp [results, Tryz.results32, go_sem]) rfl ⟨rfl, HB2.out⟩
/-- rim.table tells none, and why: k. -/
def NoTab (ao : Option Addr) (N : Int) (len cap : Nat) (bv : Value) (T : List Tr) (bo : Option Addr) (bays : List Int) (k : Int) : Prop :=
  ∀ X : World, TrisAt X ao T → IntsAt X bo bays → Calls Tryz.prog 32 #[.agg #[.int .i64 N, .slice ao len cap], bv] X fun e w' => e = .returned (.tuple #[.pointer none, .int .i64 k]) ∧ Below X.heap.size X w'
theorem notab_surf (N : Int) (ao : Option Addr) (cap : Nat) (T : List Tr) (bo : Option Addr) (bv : Value) (bays : List Int) (hl : T.length ≤ 8192) (hs : ¬ Surf N T) : NoTab ao N T.length cap bv T bo bays 11 := fun X h1 _ => table_none N ao cap T bv X h1 hl hs
theorem notab_bays (N : Int) (ao : Option Addr) (cap : Nat) (T : List Tr) (bo : Option Addr) (bcap : Nat) (bays : List Int) (hl : bays.length ≤ 100000) (hs : Surf N T) (hok : ¬ BaysOK T.length bays) : NoTab ao N T.length cap (.slice bo bays.length bcap) T bo bays 1 := fun X h1 h2 =>
  (table_ok N ao cap T bo bcap bays X h1 h2 hs hl).mono fun e w' ⟨h, hb⟩ => ⟨by
    rcases h with ⟨h, -⟩ | ⟨-, h⟩
    · exact absurd h hok
    · exact h, hb⟩
set_option maxRecDepth 100000 in
set_option maxHeartbeats 1000000 in
theorem of_none (N : Int) (ao bo : Option Addr) (len cap bl bcap : Nat) (T : List Tr) (bays : List Int) (k : Int) (hk : k ≠ 0) (w : World) (hT : TrisAt w ao T) (hB : IntsAt w bo bays) (h : NoTab ao N len cap (.slice bo bl bcap) T bo bays k) :
    Calls Tryz.prog 22 #[.agg #[.int .i64 N, .slice ao len cap], .slice bo bl bcap] w fun e w' => e = .returned (.tuple #[.slice none 0 0, .int .i64 k]) ∧ Below w.heap.size w w' := by
  obtain ⟨W0, hW0⟩ : ∃ W0, W0 = w.alloc (.cells #[.int .i64 N, .slice ao len cap] 24) := ⟨_, rfl⟩
  have hb0 : Below w.heap.size w W0 := by rw [hW0]; exact (Below.refl _ _).alloc (Nat.le_refl _) _
  have hr0 : RowIs W0 w.heap.size 24 [.int .i64 N, .slice ao len cap] := by rw [hW0]; exact RowIs.made w 24 [.int .i64 N, .slice ao len cap]
  have HC := Lib.hid (h W0 (hT.mono (Nat.le_refl _) hb0) (hB.mono (Nat.le_refl _) hb0))
  have HR0 := Lib.hid hr0
  have HB0 := Lib.hid hb0
  have HW0 := Lib.hid hW0
  have d0 : (k != 0) = true := by simpa using hk
  have d1 : (k == 0) = false := by simpa using hk
  clear hT hB hb0 hr0 hW0 h hk
  go_enter Tryz.func22, Tryz.ntmps22
  go_upto_region 1 with fail
  rw [← HW0.out]
  have c0 := HR0.out.cell (i := 0) rfl
  have c1 := HR0.out.cell (i := 1) rfl
  go_wp2_with fail
  refine HC.out.mono ?_
  rintro e w1 ⟨rfl, hb1⟩
  have HB1 := Lib.hid (below_more HB0.out hb1 HB0.out.size)
  clear hb1 c0 c1
  go_wp2
  exact bodyPost_ret (v := .tuple #[.slice none 0 0, .int .i64 k]) (by simp [results, Tryz.results22, go_sem]) rfl ⟨rfl, HB1.out⟩
set_option maxRecDepth 100000 in
set_option maxHeartbeats 1000000 in
theorem touch_none (N : Int) (ao bo : Option Addr) (len cap bl bcap : Nat) (T : List Tr) (bays : List Int) (k : Int) (hk : k ≠ 0) (w : World) (hT : TrisAt w ao T) (hB : IntsAt w bo bays) (h : NoTab ao N len cap (.slice bo bl bcap) T bo bays k) :
    Calls Tryz.prog 23 #[.agg #[.int .i64 N, .slice ao len cap], .slice bo bl bcap] w fun e w' => e = .returned (.tuple #[.slice none 0 0, .int .i64 k]) ∧ Below w.heap.size w w' := by
  obtain ⟨W0, hW0⟩ : ∃ W0, W0 = w.alloc (.cells #[.int .i64 N, .slice ao len cap] 24) := ⟨_, rfl⟩
  have hb0 : Below w.heap.size w W0 := by rw [hW0]; exact (Below.refl _ _).alloc (Nat.le_refl _) _
  have hr0 : RowIs W0 w.heap.size 24 [.int .i64 N, .slice ao len cap] := by rw [hW0]; exact RowIs.made w 24 [.int .i64 N, .slice ao len cap]
  have HC := Lib.hid (h W0 (hT.mono (Nat.le_refl _) hb0) (hB.mono (Nat.le_refl _) hb0))
  have HR0 := Lib.hid hr0
  have HB0 := Lib.hid hb0
  have HW0 := Lib.hid hW0
  have d0 : (k != 0) = true := by simpa using hk
  have d1 : (k == 0) = false := by simpa using hk
  clear hT hB hb0 hr0 hW0 h hk
  go_enter Tryz.func23, Tryz.ntmps23
  go_upto_region 1 with fail
  rw [← HW0.out]
  have c0 := HR0.out.cell (i := 0) rfl
  have c1 := HR0.out.cell (i := 1) rfl
  go_wp2_with fail
  refine HC.out.mono ?_
  rintro e w1 ⟨rfl, hb1⟩
  have HB1 := Lib.hid (below_more HB0.out hb1 HB0.out.size)
  clear hb1 c0 c1
  go_wp2
  exact bodyPost_ret (v := .tuple #[.slice none 0 0, .int .i64 k]) (by simp [results, Tryz.results23, go_sem]) rfl ⟨rfl, HB1.out⟩
/-- The zero bay's row behind six stores of zeros. -/
theorem zero_six {X : World} {b : Nat} {e : TypeId} {v0 v1 v2 v3 v4 v5 : Value} (h : RowIs X b e [v0, v1, v2, v3, v4, v5]) (z0 z1 z2 z3 z4 z5 : Value) :
    RowIs ((((((X.setCell ⟨b, 0, none⟩ z0).setCell ⟨b, 1, none⟩ z1).setCell ⟨b, 2, none⟩ z2).setCell ⟨b, 3, none⟩ z3).setCell ⟨b, 4, none⟩ z4).setCell ⟨b, 5, none⟩ z5) b e [z0, z1, z2, z3, z4, z5] :=
  (((((h.set 0 z0).set 1 z1).set 2 z2).set 3 z3).set 4 z4).set 5 z5
theorem below_six {w X : World} {B b : Nat} (h : Below B w X) (hb : B ≤ b) (z0 z1 z2 z3 z4 z5 : Value) :
    Below B w ((((((X.setCell ⟨b, 0, none⟩ z0).setCell ⟨b, 1, none⟩ z1).setCell ⟨b, 2, none⟩ z2).setCell ⟨b, 3, none⟩ z3).setCell ⟨b, 4, none⟩ z4).setCell ⟨b, 5, none⟩ z5) :=
  (((((h.setCell (p := ⟨b, 0, none⟩) hb z0).setCell (p := ⟨b, 1, none⟩) hb z1).setCell (p := ⟨b, 2, none⟩) hb z2).setCell (p := ⟨b, 3, none⟩) hb z3).setCell (p := ⟨b, 4, none⟩) hb z4).setCell (p := ⟨b, 5, none⟩) hb z5
/-- Why there is none: what rim.table tells, and what rim.Cut tells then. -/
def CutWhy (N : Int) (len pl kl : Nat) (k r : Int) : Prop := (k = 11 ∧ r = 11) ∨ (k = 1 ∧ r = 1) ∨ (k = 0 ∧ r = 1 ∧ ((pl : Int) ≠ N ∨ (kl ≠ 0 ∧ kl ≠ 3 * len)))
set_option maxRecDepth 100000 in
set_option maxHeartbeats 4000000 in
theorem cut_none (N : Int) (ao po ko bo : Option Addr) (len cap pl pcap kl kcap bl bcap : Nat) (bay k r : Int) (T : List Tr) (bays : List Int) (w : World) (hl : len ≤ 8192) (hkl : kl ≤ 100000) (hpl : pl ≤ 100000) (hT : TrisAt w ao T) (hB : IntsAt w bo bays) (hwhy : CutWhy N len pl kl k r)
    (h : ∀ X : World, TrisAt X ao T → IntsAt X bo bays → Calls Tryz.prog 32 #[.agg #[.int .i64 N, .slice ao len cap], .slice bo bl bcap] X fun e w' => ∃ p : Option Addr, e = .returned (.tuple #[.pointer p, .int .i64 k]) ∧ Below X.heap.size X w') :
    Calls Tryz.prog 10 #[.agg #[.int .i64 N, .slice ao len cap, .slice po pl pcap, .slice ko kl kcap], .slice bo bl bcap, .int .i64 bay] w fun e w' => e = .returned (.tuple #[.agg zeroLocal, .int .i64 r]) ∧ Below w.heap.size w w' := by
  obtain ⟨W0, hW0⟩ : ∃ W0, W0 = (w.alloc (.cells #[.int .i64 N, .slice ao len cap, .slice po pl pcap, .slice ko kl kcap] 28)).alloc (.cells #[.int .i64 0, .slice none 0 0, .slice none 0 0, .slice none 0 0, .slice none 0 0, .slice none 0 0] 32) := ⟨_, rfl⟩
  have hb0 : Below w.heap.size w W0 := by rw [hW0]; exact ((Below.refl _ _).alloc (Nat.le_refl _) _).alloc (by simp) _
  have hr0 : RowIs W0 w.heap.size 28 [.int .i64 N, .slice ao len cap, .slice po pl pcap, .slice ko kl kcap] := by rw [hW0]; exact (RowIs.made w 28 [.int .i64 N, .slice ao len cap, .slice po pl pcap, .slice ko kl kcap]).alloc _
  have hz0 : RowIs W0 (w.heap.size + 1) 32 zeroLocal.toList := by rw [hW0]; exact RowIs.made' _ _ zeroLocal.toList _ (by simp)
  have HTAB := Lib.hid (h W0 (hT.mono (Nat.le_refl _) hb0) (hB.mono (Nat.le_refl _) hb0))
  have HB0 := Lib.hid hb0
  have HR0 := Lib.hid hr0
  have HZ0 := Lib.hid hz0
  have HW0 := Lib.hid hW0
  have HWHY := Lib.hid hwhy
  obtain ⟨xb, hxb⟩ : ∃ x, x = w.heap.size := ⟨_, rfl⟩
  rw [← hxb] at HR0 HZ0
  have HXB := Lib.hid hxb
  clear hT hB hb0 hr0 hz0 hW0 h hwhy hxb
  go_enter Tryz.func10, Tryz.ntmps10
  go_upto_region 1 with fail
  rw [show (w.alloc (.cells #[.int .i64 N, .slice ao len cap, .slice po pl pcap, .slice ko kl kcap] 28)).alloc (.cells #[.int .i64 0, .slice none 0 0, .slice none 0 0, .slice none 0 0, .slice none 0 0, .slice none 0 0] 32) = W0 from HW0.out.symm, ← HXB.out]
  have c0 := HR0.out.cell (i := 0) rfl
  have c1 := HR0.out.cell (i := 1) rfl
  go_wp2_with fail
  refine HTAB.out.mono ?_
  rintro e w1 ⟨p, rfl, hb1⟩
  obtain ⟨W2, hW2⟩ : ∃ W2, W2 = w1.alloc (.cells #[.pointer p] 46) := ⟨_, rfl⟩
  have hb12 : Below w1.heap.size w1 W2 := by rw [hW2]; exact (Below.refl _ _).alloc (Nat.le_refl _) _
  have hb2 := below_more hb1 hb12 hb1.size
  have hz2 := HZ0.out.after hb2
  have hr2 := HR0.out.after hb2
  have HB2 := Lib.hid (below_more HB0.out hb2 HB0.out.size)
  have HW2 := Lib.hid hW2
  have hf := fun i => hz2.free i
  have z0 := hz2.cell (i := 0) rfl
  have z1 := hz2.cell (i := 1) rfl
  have z2 := hz2.cell (i := 2) rfl
  have z3 := hz2.cell (i := 3) rfl
  have z4 := hz2.cell (i := 4) rfl
  have z5 := hz2.cell (i := 5) rfl
  have r0 := hr2.cell (i := 0) rfl
  have r1 := hr2.cell (i := 1) rfl
  have r2 := hr2.cell (i := 2) rfl
  have r3 := hr2.cell (i := 3) rfl
  have HRZ := Lib.hid (zero_six hz2 (.int .i64 0) (.slice none 0 0) (.slice none 0 0) (.slice none 0 0) (.slice none 0 0) (.slice none 0 0))
  have HBF := Lib.hid (below_six HB2.out (by have := HXB.out; omega : w.heap.size ≤ xb + 1) (.int .i64 0) (.slice none 0 0) (.slice none 0 0) (.slice none 0 0) (.slice none 0 0) (.slice none 0 0))
  have y0 := HRZ.out.cell (i := 0) rfl
  have y1 := HRZ.out.cell (i := 1) rfl
  have y2 := HRZ.out.cell (i := 2) rfl
  have y3 := HRZ.out.cell (i := 3) rfl
  have y4 := HRZ.out.cell (i := 4) rfl
  have y5 := HRZ.out.cell (i := 5) rfl
  clear hb1 hW2 hb12 hb2 hz2 hr2 c0 c1
  go_upto_region 2 with fail
  rw [← HW2.out]
  rcases HWHY.out with ⟨rfl, rfl⟩ | ⟨rfl, rfl⟩ | ⟨rfl, rfl, hbad⟩
  · go_wp2
    exact bodyPost_ret (v := .tuple #[.agg zeroLocal, .int .i64 11]) (by simp [results, Tryz.results10, go_sem, y0, y1, y2, y3, y4, y5, zeroLocal]) rfl ⟨rfl, HBF.out⟩
  · go_wp2
    exact bodyPost_ret (v := .tuple #[.agg zeroLocal, .int .i64 1]) (by simp [results, Tryz.results10, go_sem, y0, y1, y2, y3, y4, y5, zeroLocal]) rfl ⟨rfl, HBF.out⟩
  · by_cases hp1 : (pl : Int) = N
    · obtain ⟨hk0, hk3⟩ : kl ≠ 0 ∧ kl ≠ 3 * len := by
        rcases hbad with h | h
        · exact absurd hp1 h
        · exact h
      have d0 : ((pl : Int) != N) = false := by simp [hp1]
      have d0' : ((pl : Int) == N) = true := by simp [hp1]
      have d1 : ((kl : Int) != 0) = true := by simp; omega
      have d1' : (kl != 0) = true := by simpa using hk0
      obtain ⟨l3, hl3⟩ : ∃ q, q = 3 * len := ⟨_, rfl⟩
      have h3l : (3 : Int) * (len : Int) = (l3 : Int) := by omega
      have d2 : ((kl : Int) != (l3 : Int)) = true := by simp; omega
      have d2' : (kl != l3) = true := by simp; omega
      clear hbad hp1 hk0 hk3 hl3
      go_wp2
      exact bodyPost_ret (v := .tuple #[.agg zeroLocal, .int .i64 1]) (by simp [results, Tryz.results10, go_sem, y0, y1, y2, y3, y4, y5, zeroLocal]) rfl ⟨rfl, HBF.out⟩
    · have d0 : ((pl : Int) != N) = true := by simpa using hp1
      have d0' : ((pl : Int) == N) = false := by simpa using hp1
      clear hbad hp1
      go_wp2
      exact bodyPost_ret (v := .tuple #[.agg zeroLocal, .int .i64 1]) (by simp [results, Tryz.results10, go_sem, y0, y1, y2, y3, y4, y5, zeroLocal]) rfl ⟨rfl, HBF.out⟩
end Go.Proofs.YtknioobpoieohaaGreat

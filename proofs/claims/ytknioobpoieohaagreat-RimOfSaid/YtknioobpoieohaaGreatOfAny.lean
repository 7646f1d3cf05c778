/- rim.table, Of, Touch, where there is none. -/
import Derived.Test.YtknioobpoieohaaGreatRimTab
namespace Go.Proofs.YtknioobpoieohaaGreat
set_option linter.unusedVariables false
set_option linter.unusedSimpArgs false
open Go.RowKit
set_option maxRecDepth 100000 in
set_option maxHeartbeats 1000000 in
theorem table_none (N : Int) (ao : Option Addr) (cap : Nat) (T : List Tr) (bv : Value) (w : World) (hT : TrisAt w ao T) (hl : T.length ≤ 8192) (hs : ¬ Surf N T) :
    Calls Tryz.prog 32 #[.agg #[.int .i64 N, .slice ao T.length cap], bv] w fun e w' => e = .returned (.tuple #[.pointer none, .int .i64 11]) ∧ Below w.heap.size w w' := by
  obtain ⟨W0, hW0⟩ : ∃ W0, W0 = w.alloc (.cells #[.int .i64 N, .slice ao T.length cap] 24) := ⟨_, rfl⟩
  have hb0 : Below w.heap.size w W0 := by rw [hW0]; exact (Below.refl _ _).alloc (Nat.le_refl _) _
  have hr0 : RowIs W0 w.heap.size 24 [.int .i64 N, .slice ao T.length cap] := by rw [hW0]; exact RowIs.made w 24 [.int .i64 N, .slice ao T.length cap]
  have HC := Lib.hid (new_none N ao cap T W0 (hT.mono (Nat.le_refl _) hb0) hl hs)
  have HR0 := Lib.hid hr0
  have HB0 := Lib.hid hb0
  have HW0 := Lib.hid hW0
  clear hT hb0 hr0 hW0 hs
  go_enter Tryz.func32, Tryz.ntmps32
  go_upto_region 1 with fail
  rw [← HW0.out]
  have c0 := HR0.out.cell (i := 0) rfl
  have c1 := HR0.out.cell (i := 1) rfl
  go_wp2_with fail
  refine HC.out.mono ?_
  rintro e w1 ⟨k, a, b, rfl, hk1, hk2, hb1⟩
  have HB1 := Lib.hid (below_more HB0.out hb1 HB0.out.size)
  have HB2 := Lib.hid (HB1.out.alloc HB1.out.size (.cells #[.int .i64 k, .int .i64 a, .int .i64 b] 87))
  have d0 : (k != 0) = true := by simp; omega
  have d1 : (k == 0) = false := by simp; omega
  clear hb1 c0 c1
  go_wp2
  exact bodyPost_ret (v := .tuple #[.pointer none, .int .i64 11]) (by simp [results, Tryz.results32, go_sem]) rfl ⟨rfl, HB2.out⟩
/-- rim.table tells none, and why: k. -/
def NoTab (ao : Option Addr) (N : Int) (len cap : Nat) (bv : Value) (T : List Tr) (bo : Option Addr) (bays : List Int) (k : Int) : Prop :=
  ∀ X : World, TrisAt X ao T → IntsAt X bo bays → Calls Tryz.prog 32 #[.agg #[.int .i64 N, .slice ao len cap], bv] X fun e w' => e = .returned (.tuple #[.pointer none, .int .i64 k]) ∧ Below X.heap.size X w'
theorem notab_surf (N : Int) (ao : Option Addr) (cap : Nat) (T : List Tr) (bo : Option Addr) (bv : Value) (bays : List Int) (hl : T.length ≤ 8192) (hs : ¬ Surf N T) : NoTab ao N T.length cap bv T bo bays 11 := fun X h1 _ => table_none N ao cap T bv X h1 hl hs
theorem notab_bays (N : Int) (ao : Option Addr) (cap : Nat) (T : List Tr) (bo : Option Addr) (bcap : Nat) (bays : List Int) (hl : bays.length ≤ 100000) (hs : Surf N T) (hok : ¬ BaysOK T.length bays) : NoTab ao N T.length cap (.slice bo bays.length bcap) T bo bays 1 := fun X h1 h2 =>
  (table_ok N ao cap T bo bcap bays X h1 h2 hs hl).mono fun e w' ⟨h, hb⟩ => ⟨by
    rcases h with ⟨h, -⟩ | ⟨-, h⟩
    · exact absurd h hok
    · exact h, hb⟩
set_option maxRecDepth 100000 in
set_option maxHeartbeats 1000000 in
theorem of_none (N : Int) (ao bo : Option Addr) (len cap bl bcap : Nat) (T : List Tr) (bays : List Int) (k : Int) (hk : k ≠ 0) (w : World) (hT : TrisAt w ao T) (hB : IntsAt w bo bays) (h : NoTab ao N len cap (.slice bo bl bcap) T bo bays k) :
    Calls Tryz.prog 22 #[.agg #[.int .i64 N, .slice ao len cap], .slice bo bl bcap] w fun e w' => e = .returned (.tuple #[.slice none 0 0, .int .i64 k]) ∧ Below w.heap.size w w' := by
  obtain ⟨W0, hW0⟩ : ∃ W0, W0 = w.alloc (.cells #[.int .i64 N, .slice ao len cap] 24) := ⟨_, rfl⟩
  have hb0 : Below w.heap.size w W0 := by rw [hW0]; exact (Below.refl _ _).alloc (Nat.le_refl _) _
  have hr0 : RowIs W0 w.heap.size 24 [.int .i64 N, .slice ao len cap] := by rw [hW0]; exact RowIs.made w 24 [.int .i64 N, .slice ao len cap]
  have HC := Lib.hid (h W0 (hT.mono (Nat.le_refl _) hb0) (hB.mono (Nat.le_refl _) hb0))
  have HR0 := Lib.hid hr0
  have HB0 := Lib.hid hb0
  have HW0 := Lib.hid hW0
  have d0 : (k != 0) = true := by simpa using hk
  have d1 : (k == 0) = false := by simpa using hk
  clear hT hB hb0 hr0 hW0 h hk
  go_enter Tryz.func22, Tryz.ntmps22
  go_upto_region 1 with fail
  rw [← HW0.out]
  have c0 := HR0.out.cell (i := 0) rfl
  have c1 := HR0.out.cell (i := 1) rfl
  go_wp2_with fail
  refine HC.out.mono ?_
  rintro e w1 ⟨rfl, hb1⟩
  have HB1 := Lib.hid (below_more HB0.out hb1 HB0.out.size)
  clear hb1 c0 c1
  go_wp2
  exact bodyPost_ret (v := .tuple #[.slice none 0 0, .int .i64 k]) (by simp [results, Tryz.results22, go_sem]) rfl ⟨rfl, HB1.out⟩
set_option maxRecDepth 100000 in
set_option maxHeartbeats 1000000 in
theorem touch_none (N : Int) (ao bo : Option Addr) (len cap bl bcap : Nat) (T : List Tr) (bays : List Int) (k : Int) (hk : k ≠ 0) (w : World) (hT : TrisAt w ao T) (hB : IntsAt w bo bays) (h : NoTab ao N len cap (.slice bo bl bcap) T bo bays k) :
    Calls Tryz.prog 23 #[.agg #[.int .i64 N, .slice ao len cap], .slice bo bl bcap] w fun e w' => e = .returned (.tuple #[.slice none 0 0, .int .i64 k]) ∧ Below w.heap.size w w' := by
  obtain ⟨W0, hW0⟩ : ∃ W0, W0 = w.alloc (.cells #[.int .i64 N, .slice ao len cap] 24) := ⟨_, rfl⟩
  have hb0 : Below w.heap.size w W0 := by rw [hW0]; exact (Below.refl _ _).alloc (Nat.le_refl _) _
  have hr0 : RowIs W0 w.heap.size 24 [.int .i64 N, .slice ao len cap] := by rw [hW0]; exact RowIs.made w 24 [.int .i64 N, .slice ao len cap]
  have HC := Lib.hid (h W0 (hT.mono (Nat.le_refl _) hb0) (hB.mono (Nat.le_refl _) hb0))
  have HR0 := Lib.hid hr0
  have HB0 := Lib.hid hb0
  have HW0 := Lib.hid hW0
  have d0 : (k != 0) = true := by simpa using hk
  have d1 : (k == 0) = false := by simpa using hk
  clear hT hB hb0 hr0 hW0 h hk
  go_enter Tryz.func23, Tryz.ntmps23
  go_upto_region 1 with fail
  rw [← HW0.out]
  have c0 := HR0.out.cell (i := 0) rfl
  have c1 := HR0.out.cell (i := 1) rfl
  go_wp2_with fail
  refine HC.out.mono ?_
  rintro e w1 ⟨rfl, hb1⟩
  have HB1 := Lib.hid (below_more HB0.out hb1 HB0.out.size)
  clear hb1 c0 c1
  go_wp2
  exact bodyPost_ret (v := .tuple #[.slice none 0 0, .int .i64 k]) (by simp [results, Tryz.results23, go_sem]) rfl ⟨rfl, HB1.out⟩
end Go.Proofs.YtknioobpoieohaaGreat

/- gypsumref08.Same of two equal soups. -/
import Derived.Test.YtfbpjlfimmjieaaGreatTriEq
import Derived.Test.YtfbpjlfimmjieaaGreatInts08
import Derived.Deep.RegionHeld3
import Derived.Deep.DeepCutAuto
namespace Go.Proofs.YtfbpjlfimmjieaaGreat
set_option linter.unusedVariables false
set_option linter.unusedSimpArgs false
open Go.RowKit
set_option maxRecDepth 100000 in
set_option maxHeartbeats 1000000 in
theorem same08 (N : Int) (ao bo : Option Addr) (cap cap' : Nat) (T : List Tr) (w : World) (hl : T.length ≤ 100000) (hT : TrisAt w ao T) (hU : TrisAt w bo T) :
    Calls Tryz.prog 22 #[.agg #[.int .i64 N, .slice ao T.length cap], .agg #[.int .i64 N, .slice bo T.length cap']] w fun e w' => e = .returned (.bool true) ∧ Below w.heap.size w w' := by
  obtain ⟨len, hlen⟩ : ∃ n, n = T.length := ⟨_, rfl⟩
  rw [← hlen] at hl ⊢
  obtain ⟨W0, hW0⟩ : ∃ W0, W0 = (w.alloc (.cells #[.int .i64 N, .slice ao len cap] 24)).alloc (.cells #[.int .i64 N, .slice bo len cap'] 24) := ⟨_, rfl⟩
  have hb0 : Below w.heap.size w W0 := by rw [hW0]; exact ((Below.refl _ _).alloc (Nat.le_refl _) _).alloc (by simp) _
  have hr0 : RowIs W0 w.heap.size 24 [.int .i64 N, .slice ao len cap] := by rw [hW0]; exact (RowIs.made w 24 [.int .i64 N, .slice ao len cap]).alloc _
  have hr1 : RowIs W0 (w.heap.size + 1) 24 [.int .i64 N, .slice bo len cap'] := by rw [hW0]; exact RowIs.made' (w.alloc (.cells #[.int .i64 N, .slice ao len cap] 24)) 24 [.int .i64 N, .slice bo len cap'] (w.heap.size + 1) (by simp)
  have HT := Lib.hid (hT.mono (Nat.le_refl _) hb0)
  have HU := Lib.hid (hU.mono (Nat.le_refl _) hb0)
  have HL := Lib.hid hlen
  have HB0 := Lib.hid hb0
  have HR0 := Lib.hid hr0
  have HR1 := Lib.hid hr1
  have HW0 := Lib.hid hW0
  clear hT hU hb0 hr0 hr1 hW0 hlen
  go_enter Tryz.func22, Tryz.ntmps22
  go_upto_region 1 with fail
  rw [← HW0.out]
  have c0 := HR0.out.cell (i := 0) rfl
  have c1 := HR0.out.cell (i := 1) rfl
  have e0 := HR1.out.cell (i := 0) rfl
  have e1 := HR1.out.cell (i := 1) rfl
  go_wp2
  clear c0 c1 e0 e1
  go_loopw [5] (fun i ws => ∃ k : Nat, k ≤ len ∧ i = .int .i64 k ∧ Below W0.heap.size W0 ws) (fun i _ => len - (intOf i).toNat)
  case atStart => exact ⟨0, by omega, rfl, Below.refl _ _⟩
  case round =>
  obtain ⟨k, hk, rfl, hb⟩ := hrel
  obtain ⟨X, rfl⟩ : ∃ X : World, X = wr := ⟨_, rfl⟩
  have HB := Lib.hid hb
  have hbox := HR0.out.after hb
  have hbox1 := HR1.out.after hb
  have c0 := hbox.cell (i := 0) rfl
  have c1 := hbox.cell (i := 1) rfl
  have e0 := hbox1.cell (i := 0) rfl
  have e1 := hbox1.cell (i := 1) rfl
  clear hb hbox hbox1
  by_cases hlt : k < len
  case neg =>
    have HF := Lib.hid (below_more HB0.out HB.out HB0.out.size)
    go_wp2
    exact bodyPost_ret (v := .bool true) (by simp [results, Tryz.results22, go_sem]) rfl ⟨rfl, HF.out⟩
  case pos =>
  obtain ⟨b, off, x, y, z, rfl, ht, g0, g1, g2, -, -⟩ := HT.out.get (Nat.le_refl _) HB.out (i := k) (by rw [← HL.out]; exact hlt)
  obtain ⟨b', off', x', y', z', rfl, ht', g0', g1', g2', -, -⟩ := HU.out.get (Nat.le_refl _) HB.out (i := k) (by rw [← HL.out]; exact hlt)
  have he := ht.out.symm.trans ht'.out
  simp only [Prod.mk.injEq] at he
  obtain ⟨rfl, rfl, rfl⟩ := he
  have hte := tri_equal x y z x y z
  simp only [beq_self_eq_true, Bool.and_self] at hte
  have hk0 : (0 : Int) ≤ (k : Int) := by omega
  have hk1 : (k : Int) < (len : Int) := by omega
  clear ht ht'
  go_wp2
  go_quiet (fail)
  go_wp2
  go_roundw
  case rel => exact ⟨k + 1, by omega, by go_num, HB.out.trans ⟨rfl, rfl, rfl, Nat.le_refl _, fun _ _ => rfl⟩⟩
  case measure => simp [intOf]; omega
end Go.Proofs.YtfbpjlfimmjieaaGreat

/- certify.Is of any triangles: true just of a surface. -/
import Derived.Test.YtfbpjlfimmjieaaGreatCornerNew
import Derived.Test.YtfbpjlfimmjieaaGreatNumEq
import Derived.Deep.RegionHeld3
import Derived.Deep.DeepCutAuto
namespace Go.Proofs.YtfbpjlfimmjieaaGreat
set_option linter.unusedVariables false
set_option linter.unusedSimpArgs false
open Go.RowKit
theorem wit_fields : (Tryz.prog.fieldsOf 75).toList.map (fun f => (f.name, f.type, f.offset)) = [("Kind", 3, 0), ("A", 3, 1), ("B", 3, 2)] := by kernel_rfl
theorem wit_equal (a0 a1 a2 b0 b1 b2 : Int) (w : World) :
    (Op.equalIn 10000 75 (.agg #[.int .i64 a0, .int .i64 a1, .int .i64 a2]) (.agg #[.int .i64 b0, .int .i64 b1, .int .i64 b2])).run Tryz.prog w = .ok (a0 == b0 && (a1 == b1 && (a2 == b2 && true))) w := by
  rw [run_equalIn_struct w 9999 75 _ _ (by kernel_rfl) (by kernel_rfl)]
  have hf := wit_fields
  generalize (Tryz.prog.fieldsOf 75).toList = fs at hf
  have hlen : fs.length = 3 := by simpa using congrArg List.length hf
  match fs, hlen, hf with
  | [f0, f1, f2], _, hf =>
    simp only [List.map_cons, List.map_nil, List.cons.injEq, and_true] at hf
    obtain ⟨h0, h1, h2⟩ := hf
    exact eqf_cons h0 (by decide) rfl rfl (eqf_cons h1 (by decide) rfl rfl (eqf_cons h2 (by decide) rfl rfl rfl))
open Classical in
set_option maxRecDepth 100000 in
set_option maxHeartbeats 1000000 in
theorem is_any (N : Int) (ao : Option Addr) (cap : Nat) (T : List Tr) (w : World) (hT : TrisAt w ao T) (hl : T.length ≤ 8192) :
    Calls Tryz.prog 28 #[.agg #[.int .i64 N, .slice ao T.length cap]] w fun e w' => ∃ r, e = .returned (.bool r) ∧ (r = true ↔ Surf N T) ∧ Below w.heap.size w w' := by
  obtain ⟨W0, hW0⟩ : ∃ W0, W0 = w.alloc (.cells #[.int .i64 N, .slice ao T.length cap] 24) := ⟨_, rfl⟩
  have hb0 : Below w.heap.size w W0 := by rw [hW0]; exact (Below.refl _ _).alloc (Nat.le_refl _) _
  have hr0 : RowIs W0 w.heap.size 24 [.int .i64 N, .slice ao T.length cap] := by rw [hW0]; exact RowIs.made w 24 [.int .i64 N, .slice ao T.length cap]
  have HC := Lib.hid (check_any N ao cap T W0 (hT.mono (Nat.le_refl _) hb0) hl)
  have c0 := hr0.cell (i := 0) rfl
  have c1 := hr0.cell (i := 1) rfl
  have HB0 := Lib.hid hb0
  have HW0 := Lib.hid hW0
  clear hT hb0 hr0 hW0
  go_enter Tryz.func28, Tryz.ntmps28
  go_upto_region 1 with fail
  rw [← HW0.out]
  go_wp2_with fail
  refine HC.out.mono ?_
  rintro e w1 ⟨k, a, b, rfl, hk, hb1⟩
  have HB1 := Lib.hid (below_more HB0.out hb1 HB0.out.size)
  obtain ⟨r, hr⟩ : ∃ r, r = (k == 0 && (a == 0 && (b == 0 && true))) := ⟨_, rfl⟩
  have HR := Lib.hid (show r = true ↔ Surf N T from by
    rw [hr]
    rcases hk with ⟨h1, rfl, rfl, rfl⟩ | ⟨h1, h2, h3⟩
    · exact ⟨fun _ => h1, fun _ => rfl⟩
    · refine ⟨fun h => ?_, fun h => absurd h h1⟩
      simp only [Bool.and_eq_true, beq_iff_eq] at h
      omega)
  have he : ∀ X : World, (Op.equalIn 10000 75 (.agg #[.int .i64 k, .int .i64 a, .int .i64 b]) (.agg #[.int .i64 0, .int .i64 0, .int .i64 0])).run Tryz.prog X = .ok r X := fun X => by rw [hr]; exact wit_equal k a b 0 0 0 X
  clear hb1 hk hr c0 c1
  go_wp2
  exact bodyPost_ret (v := .bool r) (by simp [results, Tryz.results28, go_sem]) rfl ⟨r, rfl, HR.out, HB1.out⟩
end Go.Proofs.YtfbpjlfimmjieaaGreat

/- rim.Of of a surface with right bays; gypsumlaw40.points, square. -/
import Derived.Test.YtknioobpoieohaaRimsW
import Derived.Test.YtknioobpoieohaaCutSt
import Derived.Test.YtknioobpoieohaaRim40a
namespace Go.Proofs.Ytknioobpoieohaa
set_option linter.unusedVariables false
set_option linter.unusedSimpArgs false
open Go.RowKit
set_option maxRecDepth 100000 in
set_option maxHeartbeats 1000000 in
theorem of40_ok (n : Nat) (ao : Option Addr) (cap : Nat) (T : List Tr) (bo : Option Addr) (bcap : Nat) (bays : List Int) (w : World) (hT : TrisAt w ao T) (hB : IntsAt w bo bays) (hs : Surf n T) (hok : BaysOK T.length bays) :
    Calls Try.prog 7 #[.agg #[.int .i64 (n : Int), .slice ao T.length cap], .slice bo bays.length bcap] w fun e w' => ∃ a c, e = .returned (.tuple #[.slice a (rimL T bays n).length c, .int .i64 0]) ∧ IntsAt w' a ((rimL T bays n).map fun (x : Nat) => (x : Int)) ∧ Below w.heap.size w w' := by
  obtain ⟨W0, hW0⟩ : ∃ W0, W0 = w.alloc (.cells #[.int .i64 (n : Int), .slice ao T.length cap] 24) := ⟨_, rfl⟩
  have hb0 : Below w.heap.size w W0 := by rw [hW0]; exact (Below.refl _ _).alloc (Nat.le_refl _) _
  have hr0 : RowIs W0 w.heap.size 24 [.int .i64 (n : Int), .slice ao T.length cap] := by rw [hW0]; exact RowIs.made w 24 [.int .i64 (n : Int), .slice ao T.length cap]
  have hbl : bays.length ≤ 100000 := by have := hok.1; have := hs.t1; omega
  have HC := Lib.hid (table_ok n ao cap T bo bcap bays W0 (hT.mono (Nat.le_refl _) hb0) (hB.mono (Nat.le_refl _) hb0) hs hbl)
  have HR := Lib.hid (fun (X : World) (h1 : TrisAt X ao T) (h2 : IntsAt X bo bays) => rims_ok n ao cap T bo bcap bays X h1 h2 hs hok)
  have HT := Lib.hid (hT.mono (Nat.le_refl _) hb0)
  have HB := Lib.hid (hB.mono (Nat.le_refl _) hb0)
  have HOK := Lib.hid hok
  have HB0 := Lib.hid hb0
  have HR0 := Lib.hid hr0
  obtain ⟨len, hlen⟩ : ∃ l, l = T.length := ⟨_, rfl⟩
  obtain ⟨bl, hbl'⟩ : ∃ l, l = bays.length := ⟨_, rfl⟩
  rw [← hlen] at hW0 HC HR HR0 ⊢
  rw [← hbl'] at HC HR ⊢
  have HW0 := Lib.hid hW0
  clear hT hB hb0 hr0 hW0 hlen hbl' hbl hs hok
  go_enter Try.func7, Try.ntmps7
  go_upto_region 1 with fail
  rw [← HW0.out]
  have c0 := HR0.out.cell (i := 0) rfl
  have c1 := HR0.out.cell (i := 1) rfl
  go_wp2_with fail
  refine HC.out.mono ?_
  rintro e w1 ⟨hcase, hb1⟩
  obtain ⟨p, rfl, -, -⟩ := (hcase.resolve_right (fun h => h.1 HOK.out)).2
  have HB1 := Lib.hid (below_more HB0.out hb1 HB0.out.size)
  have HC2 := Lib.hid (HR.out w1 (HT.out.mono (Nat.le_refl _) hb1) (HB.out.mono (Nat.le_refl _) hb1))
  have hr1 := HR0.out.below hb1 HR0.out.lt
  have c0 := hr1.cell (i := 0) rfl
  have c1 := hr1.cell (i := 1) rfl
  clear hcase hb1 hr1
  go_wp2_with fail
  refine HC2.out.mono ?_
  rintro e w2 ⟨v, rfl, hown, hb2⟩
  have HB2 := Lib.hid (below_more HB1.out hb2 HB1.out.size)
  obtain ⟨a, c, rfl⟩ := owns_slice hown
  have HO := Lib.hid (owns_nl hown)
  clear hown hb2
  go_wp2
  exact bodyPost_ret (v := .tuple #[.slice a (rimL T bays n).length c, .int .i64 0]) (by simp [results, Try.results7, go_sem]) rfl ⟨a, c, rfl, HO.out, HB2.out⟩
/-- Of each vertex a point of its own. -/
def ptsL (n : Nat) : List Tr := (List.range n).map fun (v : Nat) => ((v : Int), -(v : Int), 7)
theorem ptsL_succ (n : Nat) : ptsL (n + 1) = ptsL n ++ [((n : Int), -(n : Int), 7)] := by simp [ptsL, List.range_succ]
theorem ptsL_len (n : Nat) : (ptsL n).length = n := by simp [ptsL]
theorem infoPt0 : (Try.prog.info? 43).map (fun i => (i.zero, i.size, i.bytes)) = some (some (.agg #[.int .i64 0, .int .i64 0, .int .i64 0]), 3, 24) := by kernel_rfl
set_option maxRecDepth 100000 in
set_option maxHeartbeats 1000000 in
theorem points40 (n : Nat) (w : World) (hn : n ≤ 10000) :
    Calls Try.prog 8 #[.int .i64 (n : Int)] w fun e w' => ∃ a c, e = .returned (.slice a n c) ∧ TrisAt w' a (ptsL n) ∧ Below w.heap.size w w' := by
  obtain ⟨i0, hi, hz0, hz1, hz2⟩ := info_parts infoPt0
  go_enter Try.func8, Try.ntmps8
  go_wp2
  go_loopw [4, 3] (fun c u ws => ∃ k : Nat, k ≤ n ∧ c = .int .i64 k ∧ ws.ownsRow w.heap.size 43 3 u k (tcells (ptsL k)) ∧ Below w.heap.size w ws) (fun c _ _ => n - (intOf c).toNat)
  case atStart => exact ⟨0, by omega, rfl, by exact World.ownsRow_nil _ _ _ _, Below.refl _ _⟩
  case round =>
    obtain ⟨k, hk, rfl, hown, hb⟩ := hrel
    by_cases hkn : k < n
    · have HW := Lib.hid hown
      have HB := Lib.hid hb
      have hs5 := hb.size
      clear hown hb
      go_wp2_with (at_builtin; refine wpList_append_new _ rfl _ _ 32 rfl w.heap.size 43 i0 _ 3 24 (by kernel_rfl) hi hz0 hz1 hz2 rfl (by decide) _ _ _ rfl HW.out _ _ _ rfl (by first | rfl | simp) rfl ?_ ?_ ?_ ?_ ?_)
      all_goals first | rfl | omega | (unfold maxLen; omega) | exact ⟨rfl, rfl, rfl⟩ | skip
      · intro v' w5 hown5 hbel hgr
        have HW5 := Lib.hid hown5
        have HB6 := Lib.hid (hbel w.heap.size _ (Nat.le_refl _) HB.out)
        clear hown5 hbel hgr
        go_wp2
        go_roundw
        case rel => exact ⟨k + 1, by omega, by go_num, by
          rw [ptsL_succ, tcells_snoc]
          exact HW5.out, HB6.out⟩
        case measure => simp [intOf]; omega
    · obtain rfl : k = n := by omega
      obtain ⟨a, c, e, ht⟩ := owns_tris (L := ptsL k) (by rw [ptsL_len]; exact hown)
      rw [ptsL_len] at e
      subst e
      have HT := Lib.hid ht
      have HB := Lib.hid hb
      clear hown hb ht
      go_wp2
      go_ret
      exact ⟨a, c, rfl, HT.out, HB.out⟩
def squareT : List Tr := [(0, 1, 4), (1, 2, 4), (2, 3, 4), (3, 0, 4)]
set_option maxRecDepth 100000 in
set_option maxHeartbeats 1000000 in
theorem square40 (w : World) :
    Calls Try.prog 11 #[] w fun e w' => ∃ a, e = .returned (.agg #[.int .i64 5, .slice a 4 4]) ∧ TrisAt w' a squareT ∧ Below w.heap.size w w' := by
  go_enter Try.func11, Try.ntmps11
  go_wp2
  obtain ⟨W, hW⟩ : ∃ W, W = (w.alloc (.cells #[.int .i64 5, .slice (some ⟨w.heap.size + 1, 0, none⟩) 4 4] 24)).alloc (.cells #[.int .i64 0, .int .i64 1, .int .i64 4, .int .i64 1, .int .i64 2, .int .i64 4, .int .i64 2, .int .i64 3, .int .i64 4, .int .i64 3, .int .i64 0, .int .i64 4] 42) := ⟨_, rfl⟩
  rw [← hW]
  have hr0 : RowIs W w.heap.size 24 [.int .i64 5, .slice (some ⟨w.heap.size + 1, 0, none⟩) 4 4] := by rw [hW]; exact (RowIs.made w 24 [.int .i64 5, .slice (some ⟨w.heap.size + 1, 0, none⟩) 4 4]).alloc _
  have hr1 : RowIs W (w.heap.size + 1) 42 (tcells squareT) := by rw [hW]; exact RowIs.made' _ _ (tcells squareT) _ (by simp)
  have hb : Below w.heap.size w W := by rw [hW]; exact ((Below.refl _ _).alloc (Nat.le_refl _) _).alloc (by simp) _
  obtain ⟨a, c, e, ht⟩ : ∃ a c, Value.slice (some ⟨w.heap.size + 1, 0, none⟩) 4 4 = .slice a squareT.length c ∧ TrisAt W a squareT := owns_tris (L := squareT) (hr1.owns (base := w.heap.size) (size := 3) (n := 4) (by omega) rfl (by decide))
  have y0 := hr0.cell (i := 0) rfl
  have y1 := hr0.cell (i := 1) rfl
  have HF := Lib.hid (show TrisAt W (some ⟨w.heap.size + 1, 0, none⟩) squareT from by simp only [Value.slice.injEq] at e; rw [e.1]; exact ht)
  have HB := Lib.hid hb
  clear hW hr0 hr1 hb e ht
  exact bodyPost_ret (v := .agg #[.int .i64 5, .slice (some ⟨w.heap.size + 1, 0, none⟩) 4 4]) (by simp [results, Try.results11, go_sem, y0, y1]) rfl ⟨_, rfl, HF.out, HB.out⟩
end Go.Proofs.Ytknioobpoieohaa

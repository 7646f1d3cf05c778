/- A table's surface. gypsumlaw10.Great, Laid; certify.Is. -/
import Derived.Test.YtbeefabboabfgaaGreatCornerNew
import Derived.Deep.RegionHeld3
import Derived.Deep.DeepCutAuto
import Derived.Test.YtbeefabboabfgaaGreatNumEq
namespace Go.Proofs.YtbeefabboabfgaaGreat
set_option linter.unusedVariables false
set_option linter.unusedSimpArgs false
open Go.RowKit
set_option maxRecDepth 100000 in
set_option maxHeartbeats 1000000 in
theorem soup_any (w : World) (b : Nat) (N : Int) (T : List Tr) (hl : T.length ≤ 10000) (h : TabS w b N T) :
    Calls Tryz.prog 27 #[.pointer (some ⟨b, 0, none⟩)] w fun e w' => ∃ ao cap, e = .returned (.agg #[.int .i64 N, .slice ao T.length cap]) ∧ w'.ownsRow (w.heap.size + 1) 62 3 (.slice ao T.length cap) T.length (tcells T) ∧ Below w.heap.size w w' := by
  obtain ⟨ao, cap, h0, h1, h2, h3⟩ := h
  have hb0 : Below w.heap.size w (w.alloc (.cells #[.int .i64 0, .slice none 0 0] 24)) := (Below.refl _ _).alloc (Nat.le_refl _) _
  have HCL := Lib.hid (fun w' (h : TrisAt w' ao T) => clone_tri (w := w') cap h hl)
  have HT := Lib.hid (h2.mono (Nat.le_refl _) hb0)
  have HB := Lib.hid hb0
  have HR := Lib.hid (RowIs.made w 24 [.int .i64 0, .slice none 0 0])
  obtain ⟨len, hlen⟩ : ∃ n, n = T.length := ⟨_, rfl⟩
  rw [← hlen] at h1 HCL ⊢
  clear hlen hl h2 hb0
  go_enter Tryz.func27, Tryz.ntmps27
  go_upto_region 3 with fail
  obtain ⟨W, hW⟩ : ∃ W, W = w.alloc (.cells #[.int .i64 0, .slice none 0 0] 24) := ⟨_, rfl⟩
  rw [← hW]
  rw [← hW] at HT HB HR
  have hlt : w.heap.size < W.heap.size := HR.out.lt
  have hsz : W.heap.size = w.heap.size + 1 := by rw [hW]; simp
  have HSZ := Lib.hid hsz
  have c0 : W.cell? ⟨b, 0, none⟩ = some (.int .i64 N) := (HB.out.cell (p := ⟨b, 0, none⟩) h3).trans h0
  have c1 : W.cell? ⟨b, 1, none⟩ = some (.slice ao len cap) := (HB.out.cell (p := ⟨b, 1, none⟩) h3).trans h1
  have hbW : b < W.heap.size := by omega
  have hbw : b ≠ w.heap.size := by omega
  have H0 := Lib.hid h0
  have H1 := Lib.hid h1
  have H3 := Lib.hid h3
  clear hW h0 h1 h3 hsz
  go_region_held3 (fun w' => w'.cell? ⟨b, 0, none⟩ = some (.int .i64 N) ∧ w'.cell? ⟨b, 1, none⟩ = some (.slice ao len cap)) (first | exact ⟨c0, c1⟩ | exact ⟨k0, k1⟩ | exact ⟨k0', k1'⟩)
    (first | (go_at_call 55; refine (HCL.out _ ?_).mono ?_; (exact HT.out.mono (Nat.le_refl _) (by first | exact (Below.refl _ _).drew | exact Below.refl _ _)); rintro e w2 ⟨ao2, cap2, rfl, hown2, hb2'⟩; have hb2 : Below W.heap.size W w2 := (by first | exact (Below.refl _ _).drew.trans hb2' | exact hb2'); have k0 := (hb2.cell (p := ⟨b, 0, none⟩) hbW).trans c0; have k1 := (hb2.cell (p := ⟨b, 1, none⟩) hbW).trans c1; have HR2 := Lib.hid (HR.out.after hb2); have q0 := HR2.out.cell (i := 0) rfl; have q1 := HR2.out.cell (i := 1) rfl; have f0 := HR2.out.free 0; have f1 := HR2.out.free 1; have HX := Lib.hid ((((below_more HB.out hb2 HB.out.size).setCell (p := ⟨w.heap.size, 0, none⟩) (Nat.le_refl _) (.int .i64 N)).setCell (p := ⟨w.heap.size, 1, none⟩) (Nat.le_refl _) (.slice ao2 len cap2))); have k0' := (HX.out.cell (p := ⟨b, 0, none⟩) H3.out).trans H0.out; have k1' := (HX.out.cell (p := ⟨b, 1, none⟩) H3.out).trans H1.out))
  all_goals
    go_wp2_with fail
    have hx := (HR2.out.set 0 (.int .i64 N)).set 1 (.slice ao2 len cap2)
    have x0 := hx.cell (i := 0) rfl
    have x1 := hx.cell (i := 1) rfl
    have hg1 : ∀ (w' : World) i v, w'.grownBy (w'.setCell ⟨w.heap.size, i, none⟩ v) (some w.heap.size) := fun w' i v => ⟨rfl, rfl, rfl, by simp [World.setCell], fun j hj hne => by
      have : w.heap.size ≠ j := fun e => hne (by rw [e])
      simp [World.setCell, Array.getElem?_modify, this]⟩
    have hob : (Value.slice ao2 len cap2).ownBlock = none ∨ (Value.slice ao2 len cap2).ownBlock ≠ some w.heap.size := by
      cases hk : (Value.slice ao2 len cap2).ownBlock with
      | none => left; rfl
      | some k =>
        right
        have := (hown2.lt k hk).1
        intro e; cases e
        first | omega | (have := HSZ.out; simp at *; omega)
    have hown3 := owns_base ((hown2.kept (hg1 w2 0 (.int .i64 N)) hob).kept (hg1 _ 1 (.slice ao2 len cap2)) hob) (base' := w.heap.size + 1) (by have := HSZ.out; first | omega | (simp; omega))
    exact bodyPost_ret (v := .agg #[.int .i64 N, .slice ao2 len cap2]) (by simp [results, Tryz.results27, go_sem, x0, x1]) rfl ⟨ao2, cap2, rfl, hown3, HX.out⟩
theorem wit_fields : (Tryz.prog.fieldsOf 52).toList.map (fun f => (f.name, f.type, f.offset)) = [("Kind", 3, 0), ("A", 3, 1), ("B", 3, 2)] := by kernel_rfl
theorem wit_equal (a0 a1 a2 b0 b1 b2 : Int) (w : World) :
    (Op.equalIn 10000 52 (.agg #[.int .i64 a0, .int .i64 a1, .int .i64 a2]) (.agg #[.int .i64 b0, .int .i64 b1, .int .i64 b2])).run Tryz.prog w = .ok (a0 == b0 && (a1 == b1 && (a2 == b2 && true))) w := by
  rw [run_equalIn_struct w 9999 52 _ _ (by kernel_rfl) (by kernel_rfl)]
  have hf := wit_fields
  generalize (Tryz.prog.fieldsOf 52).toList = fs at hf
  have hlen : fs.length = 3 := by simpa using congrArg List.length hf
  match fs, hlen, hf with
  | [f0, f1, f2], _, hf =>
    simp only [List.map_cons, List.map_nil, List.cons.injEq, and_true] at hf
    obtain ⟨h0, h1, h2⟩ := hf
    exact eqf_cons h0 (by decide) rfl rfl (eqf_cons h1 (by decide) rfl rfl (eqf_cons h2 (by decide) rfl rfl rfl))
open Classical in
set_option maxRecDepth 100000 in
set_option maxHeartbeats 1000000 in
theorem is_any (N : Int) (ao : Option Addr) (cap : Nat) (T : List Tr) (w : World) (hT : TrisAt w ao T) (hl : T.length ≤ 8192) :
    Calls Tryz.prog 15 #[.agg #[.int .i64 N, .slice ao T.length cap]] w fun e w' => ∃ r, e = .returned (.bool r) ∧ (r = true ↔ Surf N T) ∧ Below w.heap.size w w' := by
  obtain ⟨W0, hW0⟩ : ∃ W0, W0 = w.alloc (.cells #[.int .i64 N, .slice ao T.length cap] 24) := ⟨_, rfl⟩
  have hb0 : Below w.heap.size w W0 := by rw [hW0]; exact (Below.refl _ _).alloc (Nat.le_refl _) _
  have hr0 : RowIs W0 w.heap.size 24 [.int .i64 N, .slice ao T.length cap] := by rw [hW0]; exact RowIs.made w 24 [.int .i64 N, .slice ao T.length cap]
  have HC := Lib.hid (check_any N ao cap T W0 (hT.mono (Nat.le_refl _) hb0) hl)
  have c0 := hr0.cell (i := 0) rfl
  have c1 := hr0.cell (i := 1) rfl
  have HB0 := Lib.hid hb0
  have HW0 := Lib.hid hW0
  clear hT hb0 hr0 hW0
  go_enter Tryz.func15, Tryz.ntmps15
  go_upto_region 1 with fail
  rw [← HW0.out]
  go_wp2_with fail
  refine HC.out.mono ?_
  rintro e w1 ⟨k, a, b, rfl, hk, hb1⟩
  have HB1 := Lib.hid (below_more HB0.out hb1 HB0.out.size)
  obtain ⟨r, hr⟩ : ∃ r, r = (k == 0 && (a == 0 && (b == 0 && true))) := ⟨_, rfl⟩
  have HR := Lib.hid (show r = true ↔ Surf N T from by
    rw [hr]
    rcases hk with ⟨h1, rfl, rfl, rfl⟩ | ⟨h1, h2, h3⟩
    · exact ⟨fun _ => h1, fun _ => rfl⟩
    · refine ⟨fun h => ?_, fun h => absurd h h1⟩
      simp only [Bool.and_eq_true, beq_iff_eq] at h
      omega)
  have he : ∀ X : World, (Op.equalIn 10000 52 (.agg #[.int .i64 k, .int .i64 a, .int .i64 b]) (.agg #[.int .i64 0, .int .i64 0, .int .i64 0])).run Tryz.prog X = .ok r X := fun X => by rw [hr]; exact wit_equal k a b 0 0 0 X
  clear hb1 hk hr c0 c1
  go_wp2
  exact bodyPost_ret (v := .bool r) (by simp [results, Tryz.results15, go_sem]) rfl ⟨r, rfl, HR.out, HB1.out⟩
set_option maxRecDepth 100000 in
set_option maxHeartbeats 1000000 in
theorem great_any (N : Int) (ao : Option Addr) (cap : Nat) (T : List Tr) (w : World) (hm : T.length ≤ 9223372036854775807) :
    Calls Tryz.prog 14 #[.agg #[.int .i64 N, .slice ao T.length cap]] w fun e w' => ∃ g : Nat, e = .returned (.int .i64 g) ∧ ((g = 0 ∧ T.length ≤ 40 ∧ N ≤ 60 ∧ -1000 ≤ N) ∨ (g = 1 ∧ ¬ (T.length ≤ 40 ∧ N ≤ 60 ∧ -1000 ≤ N))) ∧ Below w.heap.size w w' := by
  obtain ⟨W0, hW0⟩ : ∃ W0, W0 = w.alloc (.cells #[.int .i64 N, .slice ao T.length cap] 24) := ⟨_, rfl⟩
  have hb0 : Below w.heap.size w W0 := by rw [hW0]; exact (Below.refl _ _).alloc (Nat.le_refl _) _
  have hr0 : RowIs W0 w.heap.size 24 [.int .i64 N, .slice ao T.length cap] := by rw [hW0]; exact RowIs.made w 24 [.int .i64 N, .slice ao T.length cap]
  generalize T.length = len at *
  have c0 := hr0.cell (i := 0) rfl
  have c1 := hr0.cell (i := 1) rfl
  have HB0 := Lib.hid hb0
  have HW0 := Lib.hid hW0
  clear hb0 hr0 hW0
  by_cases h1 : len ≤ 40
  case neg =>
    have d1 : decide ((len : Int) > 40) = true := by simp; omega
    have d1' : decide ((40 : Int) < (len : Int)) = true := by simp; omega
    have HF := Lib.hid (show ¬ (len ≤ 40 ∧ N ≤ 60 ∧ -1000 ≤ N) from by omega)
    clear h1
    go_enter Tryz.func14, Tryz.ntmps14
    go_upto_region 1 with fail
    rw [← HW0.out]
    go_wp2
    exact bodyPost_ret (v := .int .i64 1) (by simp [results, Tryz.results14, go_sem]) rfl ⟨1, rfl, Or.inr ⟨rfl, HF.out⟩, HB0.out⟩
  case pos =>
  have d1 : decide ((len : Int) > 40) = false := by simp; omega
  have d1' : decide ((40 : Int) < (len : Int)) = false := by simp; omega
  by_cases h2 : N ≤ 60
  case neg =>
    have d2 : decide (N > 60) = true := by simp; omega
    have d2' : decide ((60 : Int) < N) = true := by simp; omega
    have HF := Lib.hid (show ¬ (len ≤ 40 ∧ N ≤ 60 ∧ -1000 ≤ N) from by omega)
    clear h1 h2
    go_enter Tryz.func14, Tryz.ntmps14
    go_upto_region 1 with fail
    rw [← HW0.out]
    go_wp2
    exact bodyPost_ret (v := .int .i64 1) (by simp [results, Tryz.results14, go_sem]) rfl ⟨1, rfl, Or.inr ⟨rfl, HF.out⟩, HB0.out⟩
  case pos =>
  have d2 : decide (N > 60) = false := by simp; omega
  have d2' : decide ((60 : Int) < N) = false := by simp; omega
  by_cases h3 : -1000 ≤ N
  case neg =>
    have d3 : decide (N < -1000) = true := by simp; omega
    have HF := Lib.hid (show ¬ (len ≤ 40 ∧ N ≤ 60 ∧ -1000 ≤ N) from by omega)
    clear h1 h2 h3
    go_enter Tryz.func14, Tryz.ntmps14
    go_upto_region 1 with fail
    rw [← HW0.out]
    go_wp2
    exact bodyPost_ret (v := .int .i64 1) (by simp [results, Tryz.results14, go_sem]) rfl ⟨1, rfl, Or.inr ⟨rfl, HF.out⟩, HB0.out⟩
  case pos =>
  have d3 : decide (N < -1000) = false := by simp; omega
  have HF := Lib.hid (show len ≤ 40 ∧ N ≤ 60 ∧ -1000 ≤ N from by omega)
  clear h1 h2 h3
  go_enter Tryz.func14, Tryz.ntmps14
  go_upto_region 1 with fail
  rw [← HW0.out]
  go_wp2
  exact bodyPost_ret (v := .int .i64 0) (by simp [results, Tryz.results14, go_sem]) rfl ⟨0, rfl, Or.inl ⟨rfl, HF.out⟩, HB0.out⟩
/-- gypsumlaw10.Laid: the table of a small surface, or none. -/
def LaidPost (N : Int) (T : List Tr) (w : World) (e : Ending) (w' : World) : Prop :=
  (∃ (n p : Nat), N = n ∧ e = .returned (.pointer (some ⟨p, 0, none⟩)) ∧ w.heap.size ≤ p ∧ Tab w' p n T ∧ FirstAt w' p T n ∧ Surf n T ∧ T.length ≤ 40 ∧ n ≤ 60 ∧ Below w.heap.size w w') ∨ (e = .returned (.pointer none) ∧ (¬ Surf N T ∨ ¬ (T.length ≤ 40 ∧ N ≤ 60)) ∧ Below w.heap.size w w')
set_option maxRecDepth 100000 in
set_option maxHeartbeats 1000000 in
theorem laid_any (N : Int) (ao : Option Addr) (cap : Nat) (T : List Tr) (w : World) (hT : TrisAt w ao T) (hm : T.length ≤ 9223372036854775807) :
    Calls Tryz.prog 9 #[.agg #[.int .i64 N, .slice ao T.length cap]] w (LaidPost N T w) := by
  obtain ⟨W0, hW0⟩ : ∃ W0, W0 = w.alloc (.cells #[.int .i64 N, .slice ao T.length cap] 24) := ⟨_, rfl⟩
  have hb0 : Below w.heap.size w W0 := by rw [hW0]; exact (Below.refl _ _).alloc (Nat.le_refl _) _
  have hr0 : RowIs W0 w.heap.size 24 [.int .i64 N, .slice ao T.length cap] := by rw [hW0]; exact RowIs.made w 24 [.int .i64 N, .slice ao T.length cap]
  have c0 := hr0.cell (i := 0) rfl
  have c1 := hr0.cell (i := 1) rfl
  have HG := Lib.hid (great_any N ao cap T W0 hm)
  have HT := Lib.hid (hT.mono (Nat.le_refl _) hb0)
  have HR := Lib.hid hr0
  have HB0 := Lib.hid hb0
  have HW0 := Lib.hid hW0
  clear hb0 hr0 hW0 hT hm
  go_enter Tryz.func9, Tryz.ntmps9
  go_upto_region 1 with fail
  rw [← HW0.out]
  go_wp2_with fail
  refine HG.out.mono ?_
  rintro e w1 ⟨g, rfl, hg, hb1⟩
  have hr1 := HR.out.after hb1
  have HT1 := Lib.hid (HT.out.mono (Nat.le_refl _) hb1)
  have HB1 := Lib.hid (below_more HB0.out hb1 HB0.out.size)
  clear c0 c1 hb1
  rcases hg with ⟨rfl, hl, hn, hn'⟩ | ⟨rfl, hno⟩
  case inr =>
    have HNO := Lib.hid (show ¬ Surf N T ∨ ¬ (T.length ≤ 40 ∧ N ≤ 60) from by
      by_cases hs : Surf N T
      · right; intro h; exact hno ⟨h.1, h.2, by have := hs.n0; omega⟩
      · exact Or.inl hs)
    clear hno hr1
    go_wp2
    exact bodyPost_ret (v := .pointer none) (by simp [results, Tryz.results9, go_sem]) rfl (Or.inr ⟨rfl, HNO.out, HB1.out⟩)
  case inl =>
  have x0 := hr1.cell (i := 0) rfl
  have x1 := hr1.cell (i := 1) rfl
  have HL := Lib.hid (show T.length ≤ 40 ∧ N ≤ 60 from ⟨hl, hn⟩)
  clear hr1 hl hn hn'
  by_cases hs : Surf N T
  case neg =>
    have HN := Lib.hid (new_none N ao cap T w1 HT1.out (by have := HL.out.1; omega) hs)
    have HS := Lib.hid hs
    clear hs
    go_wp2_with fail
    refine HN.out.mono ?_
    rintro e w2 ⟨k, a, b, rfl, -, -, hb2⟩
    have HB2 := Lib.hid (below_more HB1.out hb2 HB1.out.size)
    clear hb2 x0 x1 HN
    go_wp2
    exact bodyPost_ret (v := .pointer none) (by simp [results, Tryz.results9, go_sem]) rfl (Or.inr ⟨rfl, Or.inl HS.out, HB2.out.alloc HB2.out.size _⟩)
  case pos =>
  obtain ⟨n, hn⟩ : ∃ n : Nat, N = n := ⟨N.toNat, by have := hs.n0; omega⟩
  subst hn
  have HN := Lib.hid (new_first n ao cap T w1 HT1.out hs)
  have HS := Lib.hid hs
  clear hs
  go_wp2_with fail
  refine HN.out.mono ?_
  rintro e w2 ⟨p, rfl, hp, ⟨htab, hfst⟩, hb2⟩
  have hp' : w.heap.size ≤ p := by have := HB1.out.size; omega
  have hbx : Below w2.heap.size w2 (w2.alloc (.cells #[.int .i64 0, .int .i64 0, .int .i64 0] 52)) := (Below.refl _ _).alloc (Nat.le_refl _) _
  have HF := Lib.hid (show LaidPost n T w (.returned (.pointer (some ⟨p, 0, none⟩))) (w2.alloc (.cells #[.int .i64 0, .int .i64 0, .int .i64 0] 52)) from
    Or.inl ⟨n, p, rfl, rfl, hp', htab.mono (Nat.le_refl _) hbx, (hfst n rfl).mono (Nat.le_refl _) hbx, HS.out, HL.out.1, by have := HL.out.2; omega, below_more HB1.out (below_more hb2 hbx hb2.size) HB1.out.size⟩)
  clear hp hp' htab hfst hb2 hbx x0 x1 HN HG HT HT1
  go_wp2
  exact bodyPost_ret (v := .pointer (some ⟨p, 0, none⟩)) (by simp [results, Tryz.results9, go_sem]) rfl HF.out
end Go.Proofs.YtbeefabboabfgaaGreat

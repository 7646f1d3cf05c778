/- A table's surface. -/
import Derived.Test.YtbeefabboabfgaaCornerNew
import Derived.Deep.RegionHeld3
import Derived.Deep.DeepCutAuto
namespace Go.Proofs.Ytbeefabboabfgaa
set_option linter.unusedVariables false
set_option linter.unusedSimpArgs false
open Go.RowKit
set_option maxRecDepth 100000 in
set_option maxHeartbeats 1000000 in
theorem soup_any (w : World) (b : Nat) (N : Int) (T : List Tr) (hl : T.length ≤ 10000) (h : TabS w b N T) :
    Calls Try.prog 14 #[.pointer (some ⟨b, 0, none⟩)] w fun e w' => ∃ ao cap, e = .returned (.agg #[.int .i64 N, .slice ao T.length cap]) ∧ w'.ownsRow (w.heap.size + 1) 38 3 (.slice ao T.length cap) T.length (tcells T) ∧ Below w.heap.size w w' := by
  obtain ⟨ao, cap, h0, h1, h2, h3⟩ := h
  have hb0 : Below w.heap.size w (w.alloc (.cells #[.int .i64 0, .slice none 0 0] 24)) := (Below.refl _ _).alloc (Nat.le_refl _) _
  have HCL := Lib.hid (fun w' (h : TrisAt w' ao T) => clone_tri (w := w') cap h hl)
  have HT := Lib.hid (h2.mono (Nat.le_refl _) hb0)
  have HB := Lib.hid hb0
  have HR := Lib.hid (RowIs.made w 24 [.int .i64 0, .slice none 0 0])
  obtain ⟨len, hlen⟩ : ∃ n, n = T.length := ⟨_, rfl⟩
  rw [← hlen] at h1 HCL ⊢
  clear hlen hl h2 hb0
  go_enter Try.func14, Try.ntmps14
  go_upto_region 3 with fail
  obtain ⟨W, hW⟩ : ∃ W, W = w.alloc (.cells #[.int .i64 0, .slice none 0 0] 24) := ⟨_, rfl⟩
  rw [← hW]
  rw [← hW] at HT HB HR
  have hlt : w.heap.size < W.heap.size := HR.out.lt
  have hsz : W.heap.size = w.heap.size + 1 := by rw [hW]; simp
  have HSZ := Lib.hid hsz
  have c0 : W.cell? ⟨b, 0, none⟩ = some (.int .i64 N) := (HB.out.cell (p := ⟨b, 0, none⟩) h3).trans h0
  have c1 : W.cell? ⟨b, 1, none⟩ = some (.slice ao len cap) := (HB.out.cell (p := ⟨b, 1, none⟩) h3).trans h1
  have hbW : b < W.heap.size := by omega
  have hbw : b ≠ w.heap.size := by omega
  have H0 := Lib.hid h0
  have H1 := Lib.hid h1
  have H3 := Lib.hid h3
  clear hW h0 h1 h3 hsz
  go_region_held3 (fun w' => w'.cell? ⟨b, 0, none⟩ = some (.int .i64 N) ∧ w'.cell? ⟨b, 1, none⟩ = some (.slice ao len cap)) (first | exact ⟨c0, c1⟩ | exact ⟨k0, k1⟩ | exact ⟨k0', k1'⟩)
    (first | (go_at_call 24; refine (HCL.out _ ?_).mono ?_; (exact HT.out.mono (Nat.le_refl _) (by first | exact (Below.refl _ _).drew | exact Below.refl _ _)); rintro e w2 ⟨ao2, cap2, rfl, hown2, hb2'⟩; have hb2 : Below W.heap.size W w2 := (by first | exact (Below.refl _ _).drew.trans hb2' | exact hb2'); have k0 := (hb2.cell (p := ⟨b, 0, none⟩) hbW).trans c0; have k1 := (hb2.cell (p := ⟨b, 1, none⟩) hbW).trans c1; have HR2 := Lib.hid (HR.out.after hb2); have q0 := HR2.out.cell (i := 0) rfl; have q1 := HR2.out.cell (i := 1) rfl; have f0 := HR2.out.free 0; have f1 := HR2.out.free 1; have HX := Lib.hid ((((below_more HB.out hb2 HB.out.size).setCell (p := ⟨w.heap.size, 0, none⟩) (Nat.le_refl _) (.int .i64 N)).setCell (p := ⟨w.heap.size, 1, none⟩) (Nat.le_refl _) (.slice ao2 len cap2))); have k0' := (HX.out.cell (p := ⟨b, 0, none⟩) H3.out).trans H0.out; have k1' := (HX.out.cell (p := ⟨b, 1, none⟩) H3.out).trans H1.out))
  all_goals
    go_wp2_with fail
    have hx := (HR2.out.set 0 (.int .i64 N)).set 1 (.slice ao2 len cap2)
    have x0 := hx.cell (i := 0) rfl
    have x1 := hx.cell (i := 1) rfl
    have hg1 : ∀ (w' : World) i v, w'.grownBy (w'.setCell ⟨w.heap.size, i, none⟩ v) (some w.heap.size) := fun w' i v => ⟨rfl, rfl, rfl, by simp [World.setCell], fun j hj hne => by
      have : w.heap.size ≠ j := fun e => hne (by rw [e])
      simp [World.setCell, Array.getElem?_modify, this]⟩
    have hob : (Value.slice ao2 len cap2).ownBlock = none ∨ (Value.slice ao2 len cap2).ownBlock ≠ some w.heap.size := by
      cases hk : (Value.slice ao2 len cap2).ownBlock with
      | none => left; rfl
      | some k =>
        right
        have := (hown2.lt k hk).1
        intro e; cases e
        first | omega | (have := HSZ.out; simp at *; omega)
    have hown3 := owns_base ((hown2.kept (hg1 w2 0 (.int .i64 N)) hob).kept (hg1 _ 1 (.slice ao2 len cap2)) hob) (base' := w.heap.size + 1) (by have := HSZ.out; first | omega | (simp; omega))
    exact bodyPost_ret (v := .agg #[.int .i64 N, .slice ao2 len cap2]) (by simp [results, Try.results14, go_sem, x0, x1]) rfl ⟨ao2, cap2, rfl, hown3, HX.out⟩
end Go.Proofs.Ytbeefabboabfgaa

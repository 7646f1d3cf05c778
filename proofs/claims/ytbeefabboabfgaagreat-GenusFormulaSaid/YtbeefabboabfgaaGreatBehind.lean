/- border.behind: who comes behind whom, as a map. -/
import Derived.Test.YtbeefabboabfgaaGreatLoopLaw
import Derived.Test.YtbeefabboabfgaaGreatButLaw
namespace Go.Proofs.YtbeefabboabfgaaGreat
set_option linter.unusedVariables false
set_option linter.unusedSimpArgs false
open Go.RowKit
/-- What the map holds. -/
def behC (E : List (Int × Int)) (v : Int) : Option Value := (nextB E v).map (Value.int .i64)
theorem behC_nil : behC [] = fun _ => none := rfl
theorem behC_snoc {E : List (Int × Int)} {e : Int × Int} (h : e.2 ∉ E.map Prod.snd) : behC (E ++ [e]) = fun v => if v = e.2 then some (Value.int .i64 e.1) else behC E v := by
  funext v
  unfold behC
  rw [nextB_snoc h]
  by_cases hv : v = e.2
  · simp [hv]
  · simp [hv]
theorem takeE_snoc {E : List (Int × Int)} {k : Nat} (h : k < E.length) : E.take (k + 1) = E.take k ++ [E! E k] := by
  rw [List.take_add_one]
  congr 1
  simp [E!, List.getD_eq_getElem?_getD, List.getElem?_eq_getElem h]
theorem OneIn.fresh {E : List (Int × Int)} (h : OneIn E) {k : Nat} (hk : k < E.length) : (E! E k).2 ∉ (E.take k).map Prod.snd := by
  intro hm
  obtain ⟨e, he, hv⟩ := List.mem_map.1 hm
  obtain ⟨i, hi, rfl⟩ := List.mem_iff_getElem.1 he
  rw [List.length_take] at hi
  rw [List.getElem_take] at hv
  have hp := List.pairwise_map.1 (List.nodup_iff_pairwise_ne.1 h.ends)
  have := List.pairwise_iff_getElem.1 hp i k (by omega) hk (by omega)
  apply this
  rw [hv]
  simp [E!, List.getD_eq_getElem?_getD, List.getElem?_eq_getElem hk]
theorem map_nocell {w : World} {m n : Nat} {C : Int → Option Value} (h : MapIs intFam w m n C) (i : Nat) : w.cell? ⟨m, i, none⟩ = none := by
  obtain ⟨es, clock, h1, -⟩ := h
  simp [World.cell?, h1]
set_option maxRecDepth 100000 in
set_option maxHeartbeats 2000000 in
theorem behind_ok (b : Nat) (N : Int) (T : List Tr) (w : World) (h : Tab w b N T) (hs : Surf N T) :
    Calls Tryz.prog 79 #[.pointer (some ⟨b, 0, none⟩)] w fun e w' => ∃ m cn, e = .returned (.map (some m)) ∧ w.heap.size ≤ m ∧ MapIs intFam w' m cn (behC (bordE T (3 * T.length))) ∧ Below w.heap.size w w' := by
  obtain ⟨E, hE⟩ : ∃ E, E = bordE T (3 * T.length) := ⟨_, rfl⟩
  have HED := Lib.hid (fun (X : World) (hX : Tab X b N T) => edges_any b N T X hX)
  simp only [← hE] at HED
  rw [← hE]
  have hone : OneIn E := by rw [hE]; exact hs.oneIn
  have hin : ∀ u, u ∈ E.map Prod.snd → I64 u := fun u hu => by
    have := hs.bord_in (by rw [← hE]; exact hu)
    have := hs.n1
    constructor <;> omega
  obtain ⟨el, hel⟩ : ∃ l, l = E.length := ⟨_, rfl⟩
  have helb : el ≤ 30000 := by
    have := bordE_le T (3 * T.length)
    rw [← hE] at this
    have := hs.t1
    omega
  obtain ⟨W0, hW0⟩ : ∃ W0, W0 = w.alloc (.map #[] 0) := ⟨_, rfl⟩
  have hb0 : Below w.heap.size w W0 := by rw [hW0]; exact (Below.refl _ _).alloc (Nat.le_refl _) _
  have hm0 : MapIs intFam W0 w.heap.size 0 (behC (E.take 0)) := by rw [hW0]; exact MapIs.made w
  have HT := Lib.hid (h.mono (Nat.le_refl _) hb0)
  have HB0 := Lib.hid hb0
  have HM0 := Lib.hid hm0
  have HW0 := Lib.hid hW0
  have HEL := Lib.hid hel
  have HONE := Lib.hid hone
  have HIN := Lib.hid hin
  obtain ⟨mb, hmb⟩ : ∃ m, m = w.heap.size := ⟨_, rfl⟩
  rw [← hmb] at HM0
  have HMB := Lib.hid hmb
  clear h hs hE hone hin hel hb0 hm0 hW0 hmb
  have hmm := @run_makeMap Tryz.prog
  go_enter Tryz.func79, Tryz.ntmps79
  go_upto_region 2 with fail
  rw [← HW0.out, ← HMB.out]
  clear hmm
  go_wp2_with fail
  refine (HED.out W0 HT.out).mono ?_
  rintro e w1 ⟨ao, cap, rfl, hea, hb1⟩
  rw [← HEL.out]
  have HEA := Lib.hid hea
  have HM1 := Lib.hid (HM0.out.below (Nat.le_refl _) hb1)
  have HB1 := Lib.hid (below_more HB0.out hb1 HB0.out.size)
  have HMLT := Lib.hid (show mb < w1.heap.size from HM1.out.lt)
  clear hea hb1
  go_wp2
  go_loopw [10] (fun i ws => ∃ k cn : Nat, k ≤ el ∧ i = .int .i64 k ∧ MapIs intFam ws mb cn (behC (E.take k)) ∧ But w1.heap.size mb w1 ws ∧ w1.heap.size ≤ ws.heap.size) (fun i _ => el - (intOf i).toNat)
  case atStart => exact ⟨0, 0, by omega, rfl, HM1.out, But.refl _ _ _, Nat.le_refl _⟩
  case round =>
  obtain ⟨k, cn, hk, rfl, hm, hb, hsz⟩ := hrel
  obtain ⟨X, rfl⟩ : ∃ X : World, X = wr := ⟨_, rfl⟩
  have HM := Lib.hid hm
  have HB := Lib.hid hb
  have HSZ := Lib.hid hsz
  clear hm hb hsz
  by_cases hkl : k < el
  case neg =>
    obtain rfl : el = k := by omega
    have HF := Lib.hid (show MapIs intFam X mb cn (behC E) from by
      have := HM.out
      rwa [List.take_of_length_le (by rw [← HEL.out]; exact Nat.le_refl _)] at this)
    have HBF := Lib.hid (show Below w.heap.size w X from HB1.out.trans (HB.out.below HB1.out.size (by rw [HMB.out]; exact Nat.le_refl _)))
    go_wp2
    go_ret
    exact ⟨mb, cn, rfl, by rw [HMB.out]; exact Nat.le_refl _, HF.out, HBF.out⟩
  case pos =>
  obtain ⟨eb, off, hao, hlt, hc⟩ := HEA.out (by intro e; rw [e] at HEL; have := HEL.out; simp at this; omega)
  subst hao
  obtain ⟨g0, g1⟩ := hc k (by rw [← HEL.out]; exact hkl)
  obtain ⟨a, ha⟩ : ∃ a, a = (E! E k).1 := ⟨_, rfl⟩
  obtain ⟨v, hv⟩ : ∃ v, v = (E! E k).2 := ⟨_, rfl⟩
  rw [← ha] at g0
  rw [← hv] at g1
  have hne : eb ≠ mb := fun e => by
    rw [e] at g0
    rw [map_nocell HM1.out] at g0
    cases g0
  have x0 := (HB.out.cell hlt hne).trans g0
  have x1 := (HB.out.cell hlt hne).trans g1
  obtain ⟨X1, hX1⟩ : ∃ X1, X1 = X.alloc (.cells #[.int .i64 a, .int .i64 v] 81) := ⟨_, rfl⟩
  have hbX : Below X.heap.size X X1 := by rw [hX1]; exact (Below.refl _ _).alloc (Nat.le_refl _) _
  have hrX : RowIs X1 X.heap.size 81 [.int .i64 a, .int .i64 v] := by rw [hX1]; exact RowIs.made X 81 [.int .i64 a, .int .i64 v]
  have hvS : v ∈ E.map Prod.snd := by rw [hv]; exact List.mem_map.2 ⟨_, E!_mem (by rw [← HEL.out]; exact hkl), rfl⟩
  obtain ⟨X2, hst2, hm2, hg2⟩ := (HM.out.below (Nat.le_refl _) hbX).store 124 3 (by kernel_rfl) v (HIN.out v hvS) (.int .i64 a)
  simp only [intFam] at hst2
  have hsn : behC (E.take (k + 1)) = fun b => if b = v then some (Value.int .i64 a) else behC (E.take k) b := by
    rw [takeE_snoc (by rw [← HEL.out]; exact hkl), behC_snoc (HONE.out.fresh (by rw [← HEL.out]; exact hkl)), ← ha, ← hv]
  rw [← hsn] at hm2
  have HM2 := Lib.hid hm2
  have HB2 := Lib.hid (show But w1.heap.size mb w1 X2 from (HB.out.more hbX HSZ.out).grown hg2 (by have := hbX.size; have := HSZ.out; omega) (fun q hq => .inr (by cases hq; rfl)))
  have HSZ2 := Lib.hid (show w1.heap.size ≤ X2.heap.size from by have := hbX.size; have := HSZ.out; have := hg2.size; omega)
  have HX1 := Lib.hid hX1
  have y0 := hrX.cell (i := 0) rfl
  have y1 := hrX.cell (i := 1) rfl
  clear hc g0 g1 hne ha hv hX1 hbX hrX hvS hm2 hg2 hsn
  go_upto_region 5 with fail
  rw [← HX1.out]
  go_wp2
  go_roundw
  case rel => exact ⟨k + 1, _, by omega, by go_num, HM2.out, HB2.out, HSZ2.out⟩
  case measure => simp [intOf]; omega
end Go.Proofs.YtbeefabboabfgaaGreat

/- web.walk: a way through edges. -/
import Derived.Test.YtkjamheoihlekaaGreatPathLaw
import Derived.Test.YtkjamheoihlekaaGreatTreeOrder
import Derived.Test.YtkjamheoihlekaaGreatTreeRest
import Derived.Test.YtkjamheoihlekaaGreatTreeDel
import Derived.Test.YtkjamheoihlekaaGreatButLaw
namespace Go.Proofs.YtkjamheoihlekaaGreat
set_option linter.unusedVariables false
set_option linter.unusedSimpArgs false
open Go.RowKit Go.Maps
/-- A map of rows: of each vertex its neighbours. -/
def Near (X : World) (nm : Nat) (E : List (Int × Int)) : Prop :=
  ∃ cnt C, MapIs intFam X nm cnt C ∧ ∀ v, (nbE E v = [] → C v = none) ∧ (nbE E v ≠ [] → ∃ b off cap, C v = some (.slice (some ⟨b, off, none⟩) (nbE E v).length cap) ∧ b < X.heap.size ∧ ∀ i, i < (nbE E v).length → X.cell? ⟨b, off + i, none⟩ = some (.int .i64 (I! (nbE E v) i)))
theorem Near.but {W X : World} {nm gm : Nat} {E : List (Int × Int)} (h : Near W nm E) (hb : But W.heap.size gm W X) (hne : nm ≠ gm) (hg : ∃ es c, W.heap[gm]? = some (.map es c)) : Near X nm E := by
  obtain ⟨cnt, C, h1, h2⟩ := h
  refine ⟨cnt, C, h1.same (hb.block nm h1.lt hne), fun v => ⟨(h2 v).1, fun hv => ?_⟩⟩
  obtain ⟨b, off, cap, e1, e2, e3⟩ := (h2 v).2 hv
  refine ⟨b, off, cap, e1, by have := hb.size; omega, fun i hi => ?_⟩
  have hbg : b ≠ gm := by
    rintro rfl
    obtain ⟨es, c, hm⟩ := hg
    have := e3 0 (List.length_pos_iff.2 hv)
    simp [World.cell?, hm] at this
  rw [hb.cell e2 hbg]
  exact e3 i hi
theorem zeroSlice : ∀ w, (zeroValue 28).run Tryz.prog w = .ok (.slice none 0 0) w := fun _ => by kernel_rfl
theorem pedges_one (E : List (Int × Int)) (d : Int × Int) (e : Int × Int) : e ∈ pedges (pathL E d 0) ↔ e = flatE d.1 d.2 := by
  rw [pedges_path]
  simp [dartE]
theorem pedges_more (E : List (Int × Int)) (d : Int × Int) (j : Nat) (e : Int × Int) : e ∈ pedges (pathL E d (j + 1)) ↔ e ∈ pedges (pathL E d j) ∨ e = flatE (dartE E d (j + 1)).1 (dartE E d (j + 1)).2 := by
  rw [pedges_path, pedges_path, List.range_succ (n := j + 1), List.map_append, List.mem_append]
  simp
/-- In the midst of the way. -/
structure WSt (w X : World) (wb nm gm : Nat) (E : List (Int × Int)) (d : Int × Int) (j : Nat) (vp : Value) (G : Int × Int → Prop) (cb : Nat) : Prop where
  box : RowIs X wb 90 [.map (some nm), .map (some gm)]
  row : X.ownsRow (wb + 1) 3 1 vp (j + 2) (ic (pathL E d j))
  gone : ∃ cnt, MapB edgeFam X gm cnt (mC G) ∧ cnt ≤ cb
  but : But wb gm w X
  ewb : w.heap.size = wb
  lgm : gm < wb
  sz : wb + 1 ≤ X.heap.size
section
variable {w X Y : World} {wb nm gm : Nat} {E : List (Int × Int)} {d : Int × Int} {j : Nat} {vp : Value} {G : Int × Int → Prop} {cb : Nat}
theorem WSt.more (h : WSt w X wb nm gm E d j vp G cb) (hb : Below X.heap.size X Y) : WSt w Y wb nm gm E d j vp G cb := by
  obtain ⟨cnt, g1, g2⟩ := h.gone
  exact ⟨h.box.after hb, owns_below h.row hb, ⟨cnt, g1.below (Nat.le_refl _) hb, g2⟩, h.but.more hb (by have := h.sz; omega), h.ewb, h.lgm, by have := hb.size; have := h.sz; omega⟩
theorem WSt.mark (h : WSt w X wb nm gm E d j vp G cb) {cnt : Nat} {G' : Int × Int → Prop} (hm : MapB edgeFam Y gm cnt (mC G')) (hc : cnt ≤ cb + 1) (hg : X.grownBy Y (some gm)) : WSt w Y wb nm gm E d j vp G' (cb + 1) := by
  have hgm := h.lgm
  exact ⟨h.box.grown hg (by simp; omega), h.row.kept hg (owns_off h.row (by omega)), ⟨cnt, hm, hc⟩, h.but.grown hg (by have := h.sz; omega) (fun q hq => by cases hq; exact .inr rfl), h.ewb, h.lgm, by have := hg.size; have := h.sz; omega⟩
theorem WSt.push (h : WSt w X wb nm gm E d j vp G cb) {g cap : Nat} (hown : Y.ownsRow (wb + 1) 3 1 (.slice (some ⟨g, 0, none⟩) (j + 3) cap) (j + 3) (ic (pathL E d (j + 1)))) (hg : X.grownBy Y vp.ownBlock) : WSt w Y wb nm gm E d (j + 1) (.slice (some ⟨g, 0, none⟩) (j + 3) cap) G cb := by
  have hgm := h.lgm
  have off : ∀ b, b < wb + 1 → some b ≠ vp.ownBlock := fun b hb q => by have := (h.row.lt b q.symm).1; omega
  obtain ⟨cnt, g1, g2⟩ := h.gone
  exact ⟨h.box.grown hg (off _ (by omega)), hown, ⟨cnt, g1.same (hg.block gm g1.lt (off _ (by omega))), g2⟩, h.but.grown hg (by have := h.sz; omega) (fun q hq => .inl (by have := (h.row.lt q hq).1; omega)), h.ewb, h.lgm, by have := hg.size; have := h.sz; omega⟩
end
theorem WSt.congr {w X : World} {wb nm gm : Nat} {E : List (Int × Int)} {d : Int × Int} {j : Nat} {vp : Value} {G G' : Int × Int → Prop} {cb cb' : Nat} (h : WSt w X wb nm gm E d j vp G cb) (hg : ∀ e, G e ↔ G' e) (hc : cb = cb') : WSt w X wb nm gm E d j vp G' cb' := by
  subst hc
  obtain ⟨cnt, g1, g2⟩ := h.gone
  exact ⟨h.box, h.row, ⟨cnt, by rw [← mC_congr hg]; exact g1, g2⟩, h.but, h.ewb, h.lgm, h.sz⟩
/-- Cells that are laid over a row's first ones. -/
theorem row_laid {e : TypeId} {g : Nat} : ∀ (cs : List Value) (o : Nat) (X : World) (xs : List Value), RowIs X g e xs → o + cs.length ≤ xs.length → ∃ ys, RowIs (X.setCells g o cs) g e ys ∧ ys.length = xs.length ∧ (∀ j, j < o → ys[j]? = xs[j]?) ∧ ∀ j, j < cs.length → ys[o + j]? = cs[j]?
  | [], o, X, xs, h, _ => ⟨xs, h, rfl, fun _ _ => rfl, fun j hj => by simp at hj⟩
  | c :: cs, o, X, xs, h, hl => by
    simp only [List.length_cons] at hl
    obtain ⟨ys, h1, h2, h3, h4⟩ := row_laid cs (o + 1) _ _ (h.set o c) (by simp; omega)
    refine ⟨ys, h1, by rw [h2]; simp, fun j hj => ?_, fun j hj => ?_⟩
    · rw [h3 j (by omega), List.getElem?_set_ne (by omega)]
    · cases j with
      | zero => rw [Nat.add_zero, h3 o (by omega), List.getElem?_set_self (by omega)]; rfl
      | succ j => rw [show o + (j + 1) = o + 1 + j by omega, h4 j (by simpa using hj)]; rfl
/-- What the way comes to. -/
def WalkP (w : World) (nm gm : Nat) (E : List (Int × Int)) (d : Int × Int) (K : Nat) (G : Int × Int → Prop) (cb : Nat) (e : Ending) (w' : World) : Prop :=
  ∃ a cap, e = .returned (.slice a (K + 2) cap) ∧ IntsAt w' a (canonR (pathL E d K)) ∧ (∀ b off, a = some ⟨b, off, none⟩ → w.heap.size ≤ b) ∧ (∃ cnt, MapB edgeFam w' gm cnt (mC (fun e => G e ∨ e ∈ pedges (pathL E d K))) ∧ cnt ≤ cb + K + 1) ∧ But w.heap.size gm w w'
set_option maxRecDepth 100000 in
set_option maxHeartbeats 8000000 in
theorem walk_ok (E : List (Int × Int)) (hR : RightE E) (hI : ∀ v, degE E v ≠ 0 → I64 v) (hlE : E.length ≤ 100000) (d : Int × Int) (K : Nat) (ht : Trail E d K) (hs : Stop18 E d K) (w : World) (nm gm cb : Nat) (G : Int × Int → Prop) (hnm : Near w nm E) (hne : nm ≠ gm) (hgo : ∃ cnt, MapB edgeFam w gm cnt (mC G) ∧ cnt ≤ cb) :
    Calls Tryz.prog 56 #[.agg #[.map (some nm), .map (some gm)], .int .i64 d.1, .int .i64 d.2] w (WalkP w nm gm E d K G cb) := by
  obtain ⟨i0, hi0, hz0, hz1, hz2⟩ := info_parts info3
  have hKb := ht.bound hR
  have hIv : ∀ j, j ≤ K → I64 (dartE E d j).1 ∧ I64 (dartE E d j).2 := fun j hj => by
    have hD := ht.isDj hR j hj
    have h1 : nbE E (dartE E d j).1 ≠ [] := fun q => by unfold IsD at hD; rw [q] at hD; cases hD
    have h2 : nbE E (dartE E d j).2 ≠ [] := fun q => by have := nbE_symm hR hD; rw [q] at this; cases this
    refine ⟨hI _ ?_, hI _ ?_⟩
    · rw [← nbE_len]; exact fun q => h1 (List.length_eq_zero_iff.1 q)
    · rw [← nbE_len]; exact fun q => h2 (List.length_eq_zero_iff.1 q)
  obtain ⟨wb, hwb⟩ : ∃ b, b = w.heap.size := ⟨_, rfl⟩
  obtain ⟨W1, hW1⟩ : ∃ W1, W1 = (w.alloc (.cells #[.map (some nm), .map (some gm)] 90)).alloc (.cells #[.int .i64 d.1, .int .i64 d.2] 3) := ⟨_, rfl⟩
  obtain ⟨cnt0, hg0, hc0⟩ := hgo
  have hgm : gm < wb := by rw [hwb]; exact hg0.lt
  have hbW : Below wb w W1 := by rw [hW1, hwb]; exact ((Below.refl _ _).alloc (Nat.le_refl _) _).alloc (by simp) _
  have hbox : RowIs W1 wb 90 [.map (some nm), .map (some gm)] := by rw [hW1, hwb]; exact (RowIs.made w 90 [.map (some nm), .map (some gm)]).alloc _
  have hrow : RowIs W1 (wb + 1) 3 [.int .i64 d.1, .int .i64 d.2] := by rw [hW1, hwb]; exact RowIs.made' _ 3 [.int .i64 d.1, .int .i64 d.2] _ (by simp)
  have hst : WSt w W1 wb nm gm E d 0 (.slice (some ⟨wb + 1, 0, none⟩) 2 2) G cb := ⟨hbox, hrow.owns (base := wb + 1) (size := 1) (n := 2) (Nat.le_refl _) rfl (by decide), ⟨cnt0, hg0.below (by rw [hwb]; exact Nat.le_refl _) hbW, hc0⟩, ⟨hbW.os, hbW.tape, hbW.output, hbW.size, fun k h1 _ => hbW.block k h1⟩, hwb.symm, hgm, by have := hbox.lt; omega⟩
  have hmap : ∃ es c, w.heap[gm]? = some (.map es c) := by
    obtain ⟨L, clock, q, -⟩ := hg0
    exact ⟨_, _, q⟩
  have HNR := Lib.hid (show ∀ X, But wb gm w X → Near X nm E from fun X hX => hnm.but (by rw [← hwb]; exact hX) hne hmap)
  have HT := Lib.hid ht
  have HS := Lib.hid hs
  have HR := Lib.hid hR
  have HIV := Lib.hid hIv
  have HWB := Lib.hid hwb
  have HST := Lib.hid hst
  have HW1 := Lib.hid hW1
  have HKB := Lib.hid hKb
  have HLE := Lib.hid hlE
  have hKs : K ≤ 200000 := by omega
  obtain ⟨⟨v, x⟩, hd⟩ : ∃ q, q = d := ⟨_, rfl⟩
  have HD := Lib.hid hd
  have hIv0 := hIv 0 (Nat.zero_le _)
  have HV0 := Lib.hid (show I64 v ∧ I64 x from by rw [← hd] at hIv0; exact hIv0)
  have HOK0 := Lib.hid (show I64 (min v x) ∧ I64 (max v x) from by have := HV0.out; unfold I64 at *; omega)
  have e1 : d.1 = v := by rw [← hd]
  have e2 : d.2 = x := by rw [← hd]
  have HE1 := Lib.hid e1
  have HE2 := Lib.hid e2
  rw [e1, e2]
  rw [e1, e2] at HW1
  clear hR hI ht hs hnm hKb hIv hwb hW1 hg0 hc0 hbW hbox hrow hmap hd hIv0 e1 e2 hlE
  have hst1 := HST.out.box.cell (i := 1) rfl
  have HK0 := Lib.hid (show W1.drew.cell? ⟨wb, 1, none⟩ = some (.map (some gm)) from hst1)
  have HSD := Lib.hid (HST.out.more (Below.refl _ _).drew)
  clear hst hst1
  go_enter Tryz.func56, Tryz.ntmps56
  go_upto_region 2 with fail
  simp only [← HWB.out]
  rw [← HW1.out]
  refine wp_region_held_drew (S := (fun w' => w'.cell? ⟨wb, 1, none⟩ = some (.map (some gm)))) (by kernel_rfl) ?_ (fun hHeld0 => ?_)
  · ((try dsimp only); first | exact HK0.out | exact hk5 | exact hk6)
  refine wpAnyH_take (i := 0) (v := ?_) rfl (by kernel_rfl) (by kernel_rfl) (by kernel_rfl) (fun _ _ _ h => h) (Or.inl ⟨by rfl, ?_⟩) (by assumption) ?_
  rotate_left
  · (intro w hSw; (try dsimp only at hSw); go_simp; try with_reducible rfl)
  try simp only [List.getElem_toArray, List.getElem_cons_succ, List.getElem_cons_zero, Act.put, List.setIfInBounds_toArray, List.set_cons_zero, List.set_cons_succ]
  refine wpAnyH_take (i := 1) (v := ?_) rfl (by kernel_rfl) (by kernel_rfl) (by kernel_rfl) (fun _ _ _ h => h) (Or.inl ⟨by rfl, ?_⟩) (by assumption) ?_
  rotate_left
  · (intro w hSw; (try dsimp only at hSw); go_simp; try with_reducible rfl)
  try simp only [List.getElem_toArray, List.getElem_cons_succ, List.getElem_cons_zero, Act.put, List.setIfInBounds_toArray, List.set_cons_zero, List.set_cons_succ]
  refine wpAnyH_take (i := 2) (v := ?_) rfl (by kernel_rfl) (by kernel_rfl) (by kernel_rfl) (fun _ _ _ h => h) (Or.inl ⟨by rfl, ?_⟩) (by assumption) ?_
  rotate_left
  · (intro w hSw; (try dsimp only at hSw); go_simp; try with_reducible rfl)
  try simp only [List.getElem_toArray, List.getElem_cons_succ, List.getElem_cons_zero, Act.put, List.setIfInBounds_toArray, List.set_cons_zero, List.set_cons_succ]
  refine wpAnyH_take (i := 3) (v := ?_) rfl (by kernel_rfl) (by kernel_rfl) (by kernel_rfl) (fun _ _ _ h => h) (Or.inl ⟨by rfl, ?_⟩) (by assumption) ?_
  rotate_left
  · (intro w hSw; (try dsimp only at hSw); go_simp; try with_reducible rfl)
  try simp only [List.getElem_toArray, List.getElem_cons_succ, List.getElem_cons_zero, Act.put, List.setIfInBounds_toArray, List.set_cons_zero, List.set_cons_succ]
  refine wpAnyH_take (i := 4) (v := ?_) rfl (by kernel_rfl) (by kernel_rfl) (by kernel_rfl) (fun _ _ _ h => h) (Or.inl ⟨by rfl, ?_⟩) (by assumption) ?_
  rotate_left
  · (intro w hSw; (try dsimp only at hSw); go_simp; try with_reducible rfl)
  try simp only [List.getElem_toArray, List.getElem_cons_succ, List.getElem_cons_zero, Act.put, List.setIfInBounds_toArray, List.set_cons_zero, List.set_cons_succ]
  refine wpAnyH_ready (rs := [5]) (by kernel_rfl) (by simp) ?_
  refine AllReadyH.cons rfl (fun K hK => ?_) AllReadyH.nil
  go_simp
  go_wp2_with ((go_at_call 44; (refine (plain_ok v x _).mono ?_); rintro e w5 ⟨rfl, hb5⟩; have hs5 := HSD.out.more hb5; have hk5 : w5.cell? ⟨wb, 1, none⟩ = some (.map (some gm)) := hs5.box.cell (i := 1) rfl; obtain ⟨cn5, hm5, hc5⟩ := hs5.gone; obtain ⟨Z', hst, hM', hg'⟩ := hm5.store 68 4 (by kernel_rfl) (min v x, max v x) HOK0.out (.bool true); (simp only [edgeFam] at hst); rw [mC_store] at hM'; have hs6 := hs5.mark hM' (by split <;> omega) hg'; have hk6 : Z'.cell? ⟨wb, 1, none⟩ = some (.map (some gm)) := hs6.box.cell (i := 1) rfl; clear hm5 hM' hg'))
  refine hK.out _ _ ?_ (fun hHeld1 => ?_)
  · ((try dsimp only); first | exact HK0.out | exact hk5 | exact hk6)
  clear hK K hHeld0
  refine wpAnyH_ready (rs := [6]) (by kernel_rfl) (by simp) ?_
  refine AllReadyH.cons rfl (fun K hK => ?_) AllReadyH.nil
  go_simp
  refine hK.out _ _ ?_ (fun hHeld2 => ?_)
  · ((try dsimp only); first | exact HK0.out | exact hk5 | exact hk6)
  clear hK K hHeld1
  refine wpAnyH_done (by kernel_rfl) ?_ _
  clear hHeld2
  have HS6 := Lib.hid hs6
  clear hs5 hb5 hk5 hs6 hk6 hst
  have HS7 := Lib.hid (show WSt w Z' wb nm gm E d 0 (.slice (some ⟨wb + 1, 0, none⟩) 2 2) (fun e => G e ∨ e ∈ pedges (pathL E d 0)) (cb + 0 + 1) from HS6.out.congr (fun e => by
    rw [pedges_one, HE1.out, HE2.out]
    rfl) (by omega))
  clear HS6 HSD HK0 HST
  go_wp2
  go_loopw [7, 8, 9] (fun pv av fv ws => ∃ (j : Nat), j ≤ K ∧ pv = pv ∧ av = .int .i64 (dartE E d j).2 ∧ fv = .int .i64 (dartE E d j).1 ∧ lenV pv = j + 2 ∧ WSt w ws wb nm gm E d j pv (fun e => G e ∨ e ∈ pedges (pathL E d j)) (cb + j + 1)) (fun pv _ _ _ => K + 2 - lenV pv)
  case atStart => exact ⟨0, Nat.zero_le _, rfl, by rw [show dartE E d 0 = d from rfl, HE2.out], by rw [show dartE E d 0 = d from rfl, HE1.out], rfl, HS7.out⟩
  case round =>
  clear HS7
  obtain ⟨j, hj, -, rfl, rfl, hlv, hst⟩ := hrel
  obtain ⟨X, rfl⟩ : ∃ X : World, X = wr := ⟨_, rfl⟩
  obtain ⟨va, vcap, rfl⟩ := owns_slice hst.row
  have hD := HT.out.isDj HR.out j hj
  have hDr := nbE_symm HR.out hD
  have hNX := HNR.out X hst.but
  obtain ⟨ncnt, NC, nmap, nall⟩ := hNX
  obtain ⟨nb, noff, ncap, nC, nlt, ncell⟩ := (nall (dartE E d j).2).2 (fun q => by rw [q] at hDr; cases hDr)
  have hiv := (HIV.out j hj).2
  have hlk := nmap.look 88 28 (by kernel_rfl) zeroSlice (dartE E d j).2 hiv false
  rw [nC] at hlk
  have hdl := nbE_len E (dartE E d j).2
  have HSJ := Lib.hid hst
  have HSTP := Lib.hid (show j < K → degE E (dartE E d j).2 = 2 ∧ (dartE E d j).2 ≠ v from fun h => by
    have := HT.out.thru j h
    rw [HE1.out] at this
    exact this)
  have HSTO := Lib.hid (show j = K → (dartE E d j).2 = v ∨ degE E (dartE E d j).2 ≠ 2 from fun h => by
    have := HS.out
    unfold Stop18 at this
    rw [HE1.out, ← h] at this
    exact this)
  have HOTH := Lib.hid (show dartE E d (j + 1) = ((dartE E d j).2, oth E (dartE E d j).2 (dartE E d j).1) from rfl)
  have k0 := hst.box.cell (i := 0) rfl
  obtain ⟨a, ha⟩ : ∃ a, a = (dartE E d j).1 := ⟨_, rfl⟩
  obtain ⟨b, hb⟩ : ∃ a, a = (dartE E d j).2 := ⟨_, rfl⟩
  obtain ⟨dl, hdl'⟩ : ∃ n, n = degE E b := ⟨_, rfl⟩
  have HA := Lib.hid ha
  have HBB := Lib.hid hb
  rw [← hb] at hlk ncell hdl HSTP HSTO HOTH
  rw [← ha] at HOTH
  rw [← hdl'] at hdl HSTP HSTO
  rw [hdl] at hlk ncell
  simp only [Option.getD_some, Bool.false_eq_true, if_false, intFam] at hlk
  simp only [← ha, ← hb]
  have HDL := Lib.hid (show dl ≤ 200000 from by rw [hdl']; have := degE_le E b; have := HLE.out; omega)
  have HNL := Lib.hid hdl
  clear hst hD hDr nmap nall nC hiv hdl ha hb hdl'
  by_cases hjK : j < K
  case neg =>
    obtain rfl : j = K := by omega
    have hstop := HSTO.out rfl
    have hrow := HSJ.out.row
    obtain ⟨P, hP⟩ : ∃ P, P = pathL E d j := ⟨_, rfl⟩
    have hPl : P.length = j + 2 := by rw [hP, pathL_len]
    rw [← hP] at hrow
    obtain ⟨gp, cp, hv, hgp, hgX, -, -, hcl, -⟩ := owns_block hrow (by omega)
    simp only [Value.slice.injEq, true_and] at hv
    obtain ⟨rfl, rfl⟩ := hv
    have hcell : ∀ i, i < P.length → X.cell? ⟨gp, 0 + i, none⟩ = some (.int .i64 (P.getD i 0)) := fun i hi => by
      rw [Nat.zero_add]
      refine hcl i _ ?_
      simp [ic, List.getD_eq_getElem?_getD, hi]
    have HCL := Lib.hid (Tryz.slices_Clone_int gp 0 (j + 2) vcap P X (by omega) (by omega) hcell)
    have HIP := Lib.hid (show IntsAt X (some ⟨gp, 0, none⟩) P from fun _ => ⟨gp, 0, rfl, hgX, fun i hi => by
      rw [hcell i hi]
      rfl⟩)
    have HPP := Lib.hid hP
    have HPL := Lib.hid hPl
    have HGP := Lib.hid (show wb + 1 ≤ gp ∧ gp < X.heap.size from ⟨hgp, hgX⟩)
    clear hrow hP hPl hgp hgX hcl hcell ncell
    rcases Classical.em (b = v) with hbv | hbv
    case' inl =>
      have g1 : (b != v) = false := by simp [hbv]
      clear hbv hstop
      go_wp2_with fail
    case' inr =>
      have g1 : (b != v) = true := by simpa using hbv
      have g2 : ((dl : Int) == 2) = false := by
        have : dl ≠ 2 := by
          rcases hstop with q | q
          · exact absurd q hbv
          · exact q
        simp
        omega
      clear hbv hstop
      go_wp2_with fail
    all_goals
      refine HCL.out.mono ?_
      rintro e w2 ⟨v', rfl, ho2, -, hb2⟩
      rw [List.take_of_length_le (by rw [HPL.out]; exact Nat.le_refl _)] at ho2
      obtain ⟨gb, cb', rfl, hgb, hgb2, -, -, hcl2, hfr2⟩ := owns_block ho2 (by omega)
      have hrb : ∃ xs, RowIs w2 gb 3 xs ∧ j + 2 ≤ xs.length := by
        obtain ⟨h1, h2 | ⟨g, cap, cur, hv, -, hh, hn, -, hsz, ht⟩⟩ := ho2
        · simp at h2
        · simp only [Value.slice.injEq, Option.some.injEq, Addr.mk.injEq, and_true, true_and] at hv
          obtain ⟨rfl, rfl⟩ := hv
          refine ⟨cur.toList, by unfold RowIs; rw [hh], ?_⟩
          have := congrArg List.length ht
          rw [List.length_take, List.length_map, HPL.out] at this
          omega
      have hcell2 : ∀ i, i < P.length → w2.cell? ⟨gb, 0 + i, none⟩ = some (.int .i64 (P.getD i 0)) := fun i hi => by
        rw [Nat.zero_add]
        refine hcl2 i _ ?_
        simp [List.getD_eq_getElem?_getD, hi]
      have HRV := Lib.hid (Tryz.slices_Reverse_int_cells gb 0 (j + 2) cb' P w2 (by rw [HPL.out]; exact Nat.le_refl _) (by omega) hcell2 (fun i _ => hfr2 (0 + i)))
      have HRB := Lib.hid hrb
      have HB2 := Lib.hid hb2
      have HGB := Lib.hid (show X.heap.size ≤ gb from hgb)
      clear ho2 hgb hgb2 hcl2 hfr2 hrb hcell2 hb2
      go_wp2_with fail
      refine HRV.out.mono ?_
      rintro e w3 ⟨rfl, q, rfl⟩
      have hs2 := HSJ.out.more (HB2.out.trans (below_drewN (Below.refl _ _) q))
      have hgr := grown_setCells gb ((P.take (j + 2)).reverse.map (Value.int .i64)) 0 (w2.drewN q)
      have hX2 : Below X.heap.size X (w2.drewN q) := HB2.out.trans (below_drewN (Below.refl _ _) q)
      obtain ⟨xs, hx1, hx2⟩ := HRB.out
      obtain ⟨ys, y1, y2, -, y4⟩ := row_laid ((P.take (j + 2)).reverse.map (Value.int .i64)) 0 (w2.drewN q) xs hx1 (by simp; omega)
      obtain ⟨W3, hW3⟩ : ∃ W3, W3 = (w2.drewN q).setCells gb 0 ((P.take (j + 2)).reverse.map (Value.int .i64)) := ⟨_, rfl⟩
      rw [← hW3] at hgr y1 ⊢
      have HIB := Lib.hid (show IntsAt W3 (some ⟨gb, 0, none⟩) P.reverse from fun _ => ⟨gb, 0, rfl, y1.lt, fun i hi => by
        have hi' : i < P.length := by simpa using hi
        have e : ys[0 + i]? = some (.int .i64 (I! P.reverse i)) := by
          rw [y4 i (by simp; have := HPL.out; omega), List.take_of_length_le (by rw [HPL.out]; exact Nat.le_refl _), List.getElem?_map, I!_get hi]
          rfl
        exact y1.cell e⟩)
      have HIP3 := Lib.hid (show IntsAt W3 (some ⟨gp, 0, none⟩) P from fun hne => by
        obtain ⟨b1, o1, e1, hl1, hc1⟩ := (HIP.out.mono (Nat.le_refl _) hX2) hne
        cases e1
        refine ⟨gp, 0, rfl, by have := hgr.size; omega, fun i hi => ?_⟩
        have hbk := hgr.block gp hl1 (by have := HGP.out.2; have := HGB.out; simp; omega)
        have := hc1 i hi
        simp only [World.cell?, hbk] at this ⊢
        exact this)
      have HSF := Lib.hid (show (∃ cnt, MapB edgeFam W3 gm cnt (mC (fun e => G e ∨ e ∈ pedges (pathL E d j))) ∧ cnt ≤ cb + j + 1) ∧ But wb gm w W3 from by
        obtain ⟨cnt, m1, m2⟩ := hs2.gone
        have := hs2.lgm
        have hge : wb ≤ gb := by have := HGB.out; have := HGP.out; omega
        exact ⟨⟨cnt, m1.same (hgr.block gm m1.lt (by simp; omega)), m2⟩, hs2.but.grown hgr (by have := hs2.sz; omega) (fun q hq => by cases hq; exact .inl hge)⟩)
      have HCM := Lib.hid (show Calls Tryz.prog 58 #[.slice (some ⟨gb, 0, none⟩) (j + 2) cb', .slice (some ⟨gp, 0, none⟩) (j + 2) vcap] W3 fun e w' => e = .returned (.int .i64 (cmpR P.reverse P)) ∧ W3 = w' from by
        have := compare_rows P.reverse P (some ⟨gb, 0, none⟩) (some ⟨gp, 0, none⟩) cb' vcap W3 HIB.out HIP3.out (by simp [HPL.out]; omega) (by rw [HPL.out]; omega)
        rw [List.length_reverse, HPL.out] at this
        exact this)
      obtain ⟨cm, hcm⟩ : ∃ c, c = cmpR P.reverse P := ⟨_, rfl⟩
      rw [← hcm] at HCM
      have HCMP := Lib.hid hcm
      clear hs2 hgr hX2 hx1 hx2 y1 y2 y4 hW3 hcm
      go_wp2_with fail
      refine HCM.out.mono ?_
      rintro e w4 ⟨rfl, rfl⟩
      rcases Classical.em (cm < 0) with hlt | hlt
      · have g3 : decide (cm < 0) = true := by simpa using hlt
        have HCN := Lib.hid (show canonR (pathL E d j) = P.reverse from by
          unfold canonR
          rw [← HPP.out, if_pos (by rw [← HCMP.out]; exact hlt)])
        go_wp2
        refine bodyPost_ret (v := .slice (some ⟨gb, 0, none⟩) (j + 2) cb') (by simp [results, Tryz.results56, go_sem]) rfl ⟨_, cb', rfl, by rw [HCN.out]; exact HIB.out, fun b off he => by cases he; have := HGB.out; have := HGP.out; have := HWB.out; omega, HSF.out.1, by rw [← HWB.out]; exact HSF.out.2⟩
      · have g3 : decide (cm < 0) = false := by simpa using hlt
        have HCN := Lib.hid (show canonR (pathL E d j) = P from by
          unfold canonR
          rw [← HPP.out, if_neg (by rw [← HCMP.out]; exact hlt)])
        go_wp2
        refine bodyPost_ret (v := .slice (some ⟨gp, 0, none⟩) (j + 2) vcap) (by simp [results, Tryz.results56, go_sem]) rfl ⟨_, vcap, rfl, by rw [HCN.out]; exact HIP3.out, fun b off he => by cases he; have := HGP.out; have := HWB.out; omega, HSF.out.1, by rw [← HWB.out]; exact HSF.out.2⟩
  case pos =>
  obtain ⟨h2, hbv⟩ := HSTP.out hjK
  subst h2
  have g1 : (b != v) = true := by simpa using hbv
  have n0 := ncell 0 (by omega)
  have n1 := ncell 1 (by omega)
  rw [Nat.add_zero] at n0
  obtain ⟨c, hc⟩ : ∃ c, c = oth E b a := ⟨_, rfl⟩
  have HC := Lib.hid hc
  obtain ⟨t0, ht0⟩ : ∃ t, t = I! (nbE E b) 0 := ⟨_, rfl⟩
  obtain ⟨t1, ht1⟩ : ∃ t, t = I! (nbE E b) 1 := ⟨_, rfl⟩
  have hoth : c = if t0 = a then t1 else t0 := by rw [hc, ht0, ht1]; rfl
  rw [← ht0] at n0
  rw [← ht1] at n1
  have HIC := Lib.hid (show I64 b ∧ I64 c from by
    have := HIV.out (j + 1) (by omega)
    rw [HOTH.out, ← HC.out] at this
    exact this)
  have HOK := Lib.hid (show I64 (min b c) ∧ I64 (max b c) from by have := HIC.out; unfold I64 at *; omega)
  have k1 := HSJ.out.box.cell (i := 1) rfl
  have HKB0 := Lib.hid (show X.drew.cell? ⟨wb, 1, none⟩ = some (.map (some gm)) from k1)
  have HSDJ := Lib.hid (HSJ.out.more (Below.refl _ _).drew)
  clear ncell hc ht0 ht1 k1 hbv
  by_cases h0 : t0 = a
  case' pos =>
    rw [if_pos h0] at hoth
    subst h0 hoth
  case' neg =>
    rw [if_neg h0] at hoth
    subst hoth
    have g2 : (c == a) = false := by simpa using h0
    clear h0
  all_goals
    go_upto_region 8 with fail
    refine wp_region_held_drew (S := (fun w' => w'.cell? ⟨wb, 1, none⟩ = some (.map (some gm)))) (by kernel_rfl) ?_ (fun hHeld0 => ?_)
    · ((try dsimp only); first | exact HKB0.out | exact hk5 | exact hk6)
    refine wpAnyH_take (i := 0) (v := ?_) rfl (by kernel_rfl) (by kernel_rfl) (by kernel_rfl) (fun _ _ _ h => h) (Or.inl ⟨by rfl, ?_⟩) (by assumption) ?_
    rotate_left
    · (intro w hSw; (try dsimp only at hSw); go_simp; try with_reducible rfl)
    try simp only [List.getElem_toArray, List.getElem_cons_succ, List.getElem_cons_zero, Act.put, List.setIfInBounds_toArray, List.set_cons_zero, List.set_cons_succ]
    refine wpAnyH_take (i := 1) (v := ?_) rfl (by kernel_rfl) (by kernel_rfl) (by kernel_rfl) (fun _ _ _ h => h) (Or.inl ⟨by rfl, ?_⟩) (by assumption) ?_
    rotate_left
    · (intro w hSw; (try dsimp only at hSw); go_simp; try with_reducible rfl)
    try simp only [List.getElem_toArray, List.getElem_cons_succ, List.getElem_cons_zero, Act.put, List.setIfInBounds_toArray, List.set_cons_zero, List.set_cons_succ]
    refine wpAnyH_take (i := 2) (v := ?_) rfl (by kernel_rfl) (by kernel_rfl) (by kernel_rfl) (fun _ _ _ h => h) (Or.inl ⟨by rfl, ?_⟩) (by assumption) ?_
    rotate_left
    · (intro w hSw; (try dsimp only at hSw); go_simp; try with_reducible rfl)
    try simp only [List.getElem_toArray, List.getElem_cons_succ, List.getElem_cons_zero, Act.put, List.setIfInBounds_toArray, List.set_cons_zero, List.set_cons_succ]
    refine wpAnyH_take (i := 3) (v := ?_) rfl (by kernel_rfl) (by kernel_rfl) (by kernel_rfl) (fun _ _ _ h => h) (Or.inl ⟨by rfl, ?_⟩) (by assumption) ?_
    rotate_left
    · (intro w hSw; (try dsimp only at hSw); go_simp; try with_reducible rfl)
    try simp only [List.getElem_toArray, List.getElem_cons_succ, List.getElem_cons_zero, Act.put, List.setIfInBounds_toArray, List.set_cons_zero, List.set_cons_succ]
    refine wpAnyH_take (i := 4) (v := ?_) rfl (by kernel_rfl) (by kernel_rfl) (by kernel_rfl) (fun _ _ _ h => h) (Or.inl ⟨by rfl, ?_⟩) (by assumption) ?_
    rotate_left
    · (intro w hSw; (try dsimp only at hSw); go_simp; try with_reducible rfl)
    try simp only [List.getElem_toArray, List.getElem_cons_succ, List.getElem_cons_zero, Act.put, List.setIfInBounds_toArray, List.set_cons_zero, List.set_cons_succ]
    refine wpAnyH_ready (rs := [5]) (by kernel_rfl) (by simp) ?_
    refine AllReadyH.cons rfl (fun K hK => ?_) AllReadyH.nil
    go_simp
    go_wp2_with ((go_at_call 44; (refine (plain_ok b c _).mono ?_); rintro e w5 ⟨rfl, hb5⟩; have hs5 := HSDJ.out.more hb5; have hk5 : w5.cell? ⟨wb, 1, none⟩ = some (.map (some gm)) := hs5.box.cell (i := 1) rfl; obtain ⟨cn5, hm5, hc5⟩ := hs5.gone; obtain ⟨Z', hst, hM', hg'⟩ := hm5.store 68 4 (by kernel_rfl) (min b c, max b c) HOK.out (.bool true); (simp only [edgeFam] at hst); rw [mC_store] at hM'; have hs6 := hs5.mark hM' (by split <;> omega) hg'; have hk6 : Z'.cell? ⟨wb, 1, none⟩ = some (.map (some gm)) := hs6.box.cell (i := 1) rfl; clear hm5 hM' hg'))
    refine hK.out _ _ ?_ (fun hHeld1 => ?_)
    · ((try dsimp only); first | exact HKB0.out | exact hk5 | exact hk6)
    clear hK K hHeld0
    refine wpAnyH_ready (rs := [6]) (by kernel_rfl) (by simp) ?_
    refine AllReadyH.cons rfl (fun K hK => ?_) AllReadyH.nil
    go_simp
    refine hK.out _ _ ?_ (fun hHeld2 => ?_)
    · ((try dsimp only); first | exact HKB0.out | exact hk5 | exact hk6)
    clear hK K hHeld1
    refine wpAnyH_done (by kernel_rfl) ?_ _
    clear hHeld2
    have HS6 := Lib.hid hs6
    clear hs5 hb5 hk5 hs6 hk6 hst
    have HAL := Lib.hid (HS6.out.row.alloc (.cells #[.int .i64 c] 3))
    have HQ1 := Lib.hid (show j + 2 + 1 ≤ maxLen by unfold maxLen; omega)
    have HQ2 := Lib.hid (show (j + 2 + 1) * 8 ≤ 140737488355328 by omega)
    have HQ3 := Lib.hid (show wb + 1 ≤ (Z'.alloc (.cells #[.int .i64 c] 3)).heap.size by have := HS6.out.sz; simp; omega)
    go_wp2_with (at_builtin; refine wpList_append_lies _ rfl _ _ 28 rfl (wb + 1) 3 i0 (.int .i64 0) 1 8 (by kernel_rfl) hi0 hz0 hz1 hz2 rfl (by decide) _ _ _ rfl HAL.out ⟨Z'.heap.size, 0, none⟩ 1 1 [.int .i64 c] rfl rfl (World.news_of_block (heap_alloc_new Z' _)) (by intro u hu; simp at hu; subst hu; rfl) (by decide) HQ1.out HQ2.out HQ3.out _ rfl ?_)
    intro g2 cap2 X2 hown2 hgr2 hat2 hlt2
    have HN := Lib.hid (show WSt w X2 wb nm gm E d (j + 1) (.slice (some ⟨g2, 0, none⟩) (j + 3) cap2) (fun e => G e ∨ e ∈ pedges (pathL E d (j + 1))) (cb + (j + 1) + 1) from ((HS6.out.more ((Below.refl _ _).alloc (Nat.le_refl _) (.cells #[.int .i64 c] 3))).push (g := g2) (cap := cap2) (by
      have e : ic (pathL E d (j + 1)) = ic (pathL E d j) ++ [.int .i64 c] := by
        rw [pathL_succ, ic_snoc, HOTH.out, ← HC.out]
      rw [e]
      exact hown2) hgr2).congr (fun e => by
      rw [pedges_more, HOTH.out, ← HC.out, or_assoc]
      rfl) (by omega))
    clear hown2 hgr2 hat2 hlt2 HAL HS6
    go_wp2
    go_roundw
    case rel => exact ⟨j + 1, by omega, by first | rfl | trivial, by rw [HOTH.out, ← HC.out], by rw [HOTH.out], rfl, HN.out⟩
    case measure => simp [lenV]; omega
end Go.Proofs.YtkjamheoihlekaaGreat

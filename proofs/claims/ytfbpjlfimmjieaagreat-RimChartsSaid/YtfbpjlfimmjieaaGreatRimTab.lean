/- rim.table: of a surface: its table, if the bays fit. rim.sides: of each corner the least one on its side. rim.sides: the walk. -/
import Derived.Test.YtfbpjlfimmjieaaGreatIntsDef
import Derived.Test.YtfbpjlfimmjieaaGreatCornerNew
import Derived.Test.YtfbpjlfimmjieaaGreatShelf
import Derived.Test.YtfbpjlfimmjieaaGreatFaceLaw
import Derived.Deep.AppendLies
import Derived.Deep.LoopGhost
import Derived.Deep.DeepCutAuto
namespace Go.Proofs.YtfbpjlfimmjieaaGreat
set_option linter.unusedVariables false
set_option linter.unusedSimpArgs false
open Go.RowKit Go.Lib
open Go.RowKit
/-- The bays of so many triangles. -/
def BaysOK (n : Nat) (bays : List Int) : Prop := bays.length = n ∧ ∀ b ∈ bays, 0 ≤ b ∧ b < 256
def badBay (b : Int) : Bool := decide (b < 0) || decide (256 ≤ b)
theorem bays_any {bays : List Int} : bays.any badBay = false ↔ ∀ b ∈ bays, 0 ≤ b ∧ b < 256 := by
  rw [List.any_eq_false]
  constructor
  · intro h b hb
    have := h b hb
    simp [badBay] at this
    omega
  · intro h b hb
    have := h b hb
    simp [badBay]
    omega
set_option maxHeartbeats 400000 in
theorem badbay_any (b : Int) (W : World) : Calls Tryz.prog 95 #[.int .i64 b] W fun e w' => e = .returned (.bool (badBay b)) ∧ ∃ q, w' = W.drewN q := by
  obtain ⟨r, hr⟩ : ∃ r, r = badBay b := ⟨_, rfl⟩
  rw [← hr]
  unfold badBay at hr
  cases h1 : decide (b < 0) <;> cases h2 : decide (256 ≤ b) <;> simp only [h1, h2, Bool.or_false, Bool.or_true] at hr <;> subst hr
  all_goals
    have h3 : decide (b ≥ 256) = _ := h2
    go_enter Tryz.func95, Tryz.ntmps95
    go_wp2
    go_ret
    exact ⟨rfl, 0, rfl⟩
theorem contains_bad (bo : Option Addr) (cap : Nat) (bays : List Int) (w : World) (hB : IntsAt w bo bays) (hl : bays.length ≤ 100000) :
    Calls Tryz.prog 92 #[.slice bo bays.length cap, .func (.func 95) #[] #[]] w fun e w' => e = .returned (.bool (bays.any badBay)) ∧ Below w.heap.size w w' := by
  by_cases h0 : bays = []
  · subst h0
    exact (AnyE.slices_ContainsFunc_empty Tryz.laysContainsF bo cap _ w).mono fun e w' ⟨h1, h2⟩ => ⟨h1, by rw [h2]; exact Below.refl _ _⟩
  · obtain ⟨b, off, rfl, hlt, hc⟩ := hB h0
    have h := AnyE.slices_ContainsFunc Tryz.laysContainsF (Value.int .i64) badBay 95 #[] (enters_of Tryz.func95 (by kernel_rfl) rfl) b off bays.length cap bays w (fun W x _ => badbay_any x W) (Nat.le_refl _) (by omega) (fun j hj => by
      rw [hc j hj]
      unfold I!
      simp [List.getD_eq_getElem?_getD, hj])
    change Calls Tryz.prog 92 _ _ _ at h
    refine h.mono fun e w' ⟨h1, q, h2⟩ => ⟨by rw [h1, List.take_length], ?_⟩
    rw [h2]
    exact ⟨rfl, rfl, rfl, Nat.le_refl _, fun _ _ => rfl⟩
def TabPost (N : Int) (T : List Tr) (bays : List Int) (w : World) (e : Ending) (w' : World) : Prop :=
  ((BaysOK T.length bays ∧ ∃ p, e = .returned (.tuple #[.pointer (some ⟨p, 0, none⟩), .int .i64 0]) ∧ w.heap.size ≤ p ∧ Tab w' p N T) ∨ (¬ BaysOK T.length bays ∧ e = .returned (.tuple #[.pointer none, .int .i64 1]))) ∧ Below w.heap.size w w'
set_option maxRecDepth 100000 in
set_option maxHeartbeats 1000000 in
theorem table_ok (N : Int) (ao : Option Addr) (cap : Nat) (T : List Tr) (bo : Option Addr) (bcap : Nat) (bays : List Int) (w : World) (hT : TrisAt w ao T) (hB : IntsAt w bo bays) (hs : Surf N T) (hl : bays.length ≤ 100000) :
    Calls Tryz.prog 76 #[.agg #[.int .i64 N, .slice ao T.length cap], .slice bo bays.length bcap] w (TabPost N T bays w) := by
  obtain ⟨W0, hW0⟩ : ∃ W0, W0 = w.alloc (.cells #[.int .i64 N, .slice ao T.length cap] 24) := ⟨_, rfl⟩
  have hb0 : Below w.heap.size w W0 := by rw [hW0]; exact (Below.refl _ _).alloc (Nat.le_refl _) _
  have hr0 : RowIs W0 w.heap.size 24 [.int .i64 N, .slice ao T.length cap] := by rw [hW0]; exact RowIs.made w 24 [.int .i64 N, .slice ao T.length cap]
  have HC := Lib.hid (new_ok N ao cap T W0 (hT.mono (Nat.le_refl _) hb0) hs)
  have HBY := Lib.hid (hB.mono (Nat.le_refl _) hb0)
  have HCF := Lib.hid (fun (W : World) (h : IntsAt W bo bays) => contains_bad bo bcap bays W h hl)
  obtain ⟨len, hlen⟩ : ∃ n, n = T.length := ⟨_, rfl⟩
  obtain ⟨bl, hbl⟩ : ∃ n, n = bays.length := ⟨_, rfl⟩
  have hw1 : w.heap.size < W0.heap.size := hr0.lt
  have HR0 := Lib.hid hr0
  have HB0 := Lib.hid hb0
  have HT := Lib.hid (show len ≤ 10000 from by rw [hlen]; have := hs.t1; omega)
  rw [← hlen] at hW0 HC HR0 ⊢
  rw [← hbl] at HCF hl ⊢
  have HL := Lib.hid hlen
  have HBL := Lib.hid hbl
  have HW0 := Lib.hid hW0
  clear hT hB hb0 hr0 hW0 hlen hbl
  go_enter Tryz.func76, Tryz.ntmps76
  go_upto_region 1 with fail
  rw [← HW0.out]
  have c0 := HR0.out.cell (i := 0) rfl
  have c1 := HR0.out.cell (i := 1) rfl
  go_wp2_with fail
  refine HC.out.mono ?_
  rintro e w1 ⟨p, rfl, hp, htab, hb1⟩
  have HB1 := Lib.hid (below_more HB0.out hb1 HB0.out.size)
  have HR1 := Lib.hid (HR0.out.below hb1 HR0.out.lt)
  have HBY1 := Lib.hid (HBY.out.mono (Nat.le_refl _) hb1)
  have HTB := Lib.hid htab
  have HP := Lib.hid (show w.heap.size ≤ p from by omega)
  have hsz := hb1.size
  clear htab hb1 hp c0 c1
  obtain ⟨W2, hW2⟩ : ∃ W2, W2 = w1.alloc (.cells #[.int .i64 0, .int .i64 0, .int .i64 0] 75) := ⟨_, rfl⟩
  have hb2 : Below w1.heap.size w1 W2 := by rw [hW2]; exact (Below.refl _ _).alloc (Nat.le_refl _) _
  have HB2 := Lib.hid (below_more HB1.out hb2 (by omega))
  have hr2 := HR1.out.below hb2 HR1.out.lt
  have c1 := hr2.cell (i := 1) rfl
  have HTB2 := Lib.hid (HTB.out.mono (Nat.le_refl _) hb2)
  have HBY2 := Lib.hid (HBY1.out.mono (Nat.le_refl _) hb2)
  have HW2 := Lib.hid hW2
  clear hb2 hr2 hW2
  go_upto_region 4 with fail
  rw [← HW2.out]
  by_cases hne : bl = len
  · have hd : ((bl : Int) != (len : Int)) = false := by simp; omega
    have hd2 : (bl != len) = false := by simpa using hne
    have HC3 := Lib.hid (HCF.out W2 HBY2.out)
    cases hany : bays.any badBay
    · rw [hany] at HC3
      have HK := Lib.hid (show BaysOK T.length bays from ⟨by rw [← HBL.out, ← HL.out]; exact hne, bays_any.1 hany⟩)
      subst hne
      clear hany
      go_wp2_with fail
      refine HC3.out.mono ?_
      rintro e w3 ⟨rfl, hb3⟩
      have HF := Lib.hid (show TabPost N T bays w (.returned (.tuple #[.pointer (some ⟨p, 0, none⟩), .int .i64 0])) w3 from ⟨.inl ⟨HK.out, p, rfl, HP.out, HTB2.out.mono (Nat.le_refl _) hb3⟩, below_more HB2.out hb3 HB2.out.size⟩)
      clear hb3
      go_wp2
      exact bodyPost_ret (v := .tuple #[.pointer (some ⟨p, 0, none⟩), .int .i64 0]) (by simp [results, Tryz.results76, go_sem]) rfl HF.out
    · rw [hany] at HC3
      have HK := Lib.hid (show ¬ BaysOK T.length bays from fun h => by rw [bays_any.2 h.2] at hany; cases hany)
      subst hne
      clear hany
      go_wp2_with fail
      refine HC3.out.mono ?_
      rintro e w3 ⟨rfl, hb3⟩
      have HF := Lib.hid (show TabPost N T bays w (.returned (.tuple #[.pointer none, .int .i64 1])) w3 from ⟨.inr ⟨HK.out, rfl⟩, below_more HB2.out hb3 HB2.out.size⟩)
      clear hb3
      go_wp2
      exact bodyPost_ret (v := .tuple #[.pointer none, .int .i64 1]) (by simp [results, Tryz.results76, go_sem]) rfl HF.out
  · have hd : ((bl : Int) != (len : Int)) = true := by simp; omega
    have hd2 : (bl != len) = true := by simpa using hne
    have HK := Lib.hid (show ¬ BaysOK T.length bays from fun h => hne (by rw [HBL.out, HL.out]; exact h.1))
    have HF := Lib.hid (show TabPost N T bays w (.returned (.tuple #[.pointer none, .int .i64 1])) W2 from ⟨.inr ⟨HK.out, rfl⟩, HB2.out⟩)
    clear hne
    go_wp2
    exact bodyPost_ret (v := .tuple #[.pointer none, .int .i64 1]) (by simp [results, Tryz.results76, go_sem]) rfl HF.out
theorem nextN {w : World} {b : Nat} {N : Int} {T : List Tr} (h : Tab w b N T) (c : Nat) (hc : c < 3 * T.length) :
    Calls Tryz.prog 49 #[.pointer (some ⟨b, 0, none⟩), .int .i64 (c : Int)] w fun e w' => e = .returned (.int .i64 (nxn c : Int)) ∧ w = w' := by
  obtain ⟨ao, cap, h0, h1, h2, h3⟩ := h.s
  have := next_any c w b ao T.length cap h.len h1 (by omega) (by omega)
  rw [show (c : Int) - c % 3 + ((c : Int) + 1) % 3 = (nxn c : Int) from nx_nat c] at this
  exact this
theorem prevN {w : World} {b : Nat} {N : Int} {T : List Tr} (h : Tab w b N T) (c : Nat) (hc : c < 3 * T.length) :
    Calls Tryz.prog 50 #[.pointer (some ⟨b, 0, none⟩), .int .i64 (c : Int)] w fun e w' => e = .returned (.int .i64 (pvn c : Int)) ∧ w = w' := by
  obtain ⟨ao, cap, h0, h1, h2, h3⟩ := h.s
  have := prev_any c w b ao T.length cap h.len h1 (by omega) (by omega)
  rw [show (c : Int) - c % 3 + ((c : Int) + 2) % 3 = (pvn c : Int) from pv_nat c] at this
  exact this
/-- A row less its last. -/
theorem owns_pop {w : World} {base : Nat} {e : TypeId} {g cap m : Nat} {xs : List Value} {x : Value} (h : w.ownsRow base e 1 (.slice (some ⟨g, 0, none⟩) (m + 1) cap) (m + 1) (xs ++ [x])) :
    w.ownsRow base e 1 (.slice (some ⟨g, 0, none⟩) m cap) m xs := by
  obtain ⟨hl, h⟩ := h
  simp at hl
  refine ⟨by simp [hl], ?_⟩
  rcases h with ⟨hv, _⟩ | ⟨g', cap', cur, hv, hb, hg, hc, hm, hs, ht⟩
  · cases hv
  · simp only [Value.slice.injEq, Option.some.injEq, Addr.mk.injEq] at hv
    obtain ⟨⟨rfl, -⟩, -, rfl⟩ := hv
    refine .inr ⟨_, _, cur, rfl, hb, hg, by omega, hm, hs, ?_⟩
    have := congrArg (List.take m) ht
    rw [List.take_take, List.take_append_of_le_length (by omega), List.take_of_length_le (l := xs) (by omega)] at this
    simpa using this
def ysel (a b : Int) (i : Nat) : Int := if i = 0 then a else b
theorem ysel_get (a b : Int) {i : Nat} (h : i < 2) : ([Value.int .i64 a, .int .i64 b] : List Value)[i]? = some (.int .i64 (ysel a b i)) := by
  match i, h with
  | 0, _ => rfl
  | 1, _ => rfl
/-- A corner across, turned on. -/
def stepA (T : List Tr) (x : Nat) : Int := if 0 ≤ opp T (nxn x : Int) then nx (opp T (nxn x : Int)) else opp T (nxn x : Int)
def stepB (T : List Tr) (x : Nat) : Int := if 0 ≤ opp T (pvn x : Int) then pv (opp T (pvn x : Int)) else opp T (pvn x : Int)
/-- A neighbour's number. -/
def IsNb (T : List Tr) (x : Nat) (y : Int) : Prop := y < 0 ∨ ∃ j : Nat, y = j ∧ j < 3 * T.length ∧ ∃ o : Nat, (opp T (nxn x : Int) = (o : Int) ∧ j = nxn o) ∨ (opp T (pvn x : Int) = (o : Int) ∧ j = pvn o)
theorem stepA_nb {N : Int} {T : List Tr} (hs : Surf N T) {x : Nat} (hx : x < 3 * T.length) : IsNb T x (stepA T x) := by
  unfold stepA
  split
  · rename_i h
    obtain ⟨o, e, ho, -⟩ := hs.opp_opp (nxn_lt hx) h
    exact .inr ⟨nxn o, by rw [e, nx_nat], nxn_lt ho, o, .inl ⟨e, rfl⟩⟩
  · exact .inl (by omega)
theorem stepB_nb {N : Int} {T : List Tr} (hs : Surf N T) {x : Nat} (hx : x < 3 * T.length) : IsNb T x (stepB T x) := by
  unfold stepB
  split
  · rename_i h
    obtain ⟨o, e, ho, -⟩ := hs.opp_opp (pvn_lt hx) h
    exact .inr ⟨pvn o, by rw [e, pv_nat], pvn_lt ho, o, .inr ⟨e, rfl⟩⟩
  · exact .inl (by omega)
theorem ysel_nb {N : Int} {T : List Tr} (hs : Surf N T) {x : Nat} (hx : x < 3 * T.length) (i : Nat) : IsNb T x (ysel (stepA T x) (stepB T x) i) := by
  unfold ysel
  split
  · exact stepA_nb hs hx
  · exact stepB_nb hs hx
theorem sadj_ysel {T : List Tr} {bay : Nat → Int} {x j : Nat} (h : SAdj T bay x j) : ∃ l, l < 2 ∧ ysel (stepA T x) (stepB T x) l = (j : Int) := by
  obtain ⟨_, _, _, o, ⟨e, rfl⟩ | ⟨e, rfl⟩⟩ := h
  · refine ⟨0, by omega, ?_⟩
    unfold ysel stepA
    rw [if_pos rfl, e, if_pos (by omega), nx_nat]
  · refine ⟨1, by omega, ?_⟩
    unfold ysel stepB
    rw [if_neg (by omega), e, if_pos (by omega), pv_nat]
/-- The state of the search from f. -/
structure SSt (T : List Tr) (bays : List Int) (n3 f g : Nat) (w : World) (L0 L : Nat → Int) (S : List Nat) (gs cap : Nat) (ws : World) : Prop where
  own : ws.ownsRow (g + 1) 3 1 (.slice (some ⟨gs, 0, none⟩) S.length cap) S.length (nv S)
  row : RowIs ws g 3 (iv L n3)
  bel : Below w.heap.size w ws
theorem SSt.more {T : List Tr} {bays : List Int} {n3 f g : Nat} {w : World} {L0 L : Nat → Int} {S : List Nat} {gs cap : Nat} {ws wt : World} (h : SSt T bays n3 f g w L0 L S gs cap ws) (hb : Below ws.heap.size ws wt) : SSt T bays n3 f g w L0 L S gs cap wt :=
  ⟨owns_below h.own hb, h.row.below hb h.row.lt, below_more h.bel hb h.bel.size⟩
set_option maxRecDepth 100000 in
set_option maxHeartbeats 4000000 in
theorem sides_ok (w : World) (b : Nat) (N : Int) (T : List Tr) (bo : Option Addr) (bcap : Nat) (bays : List Int) (h : Tab w b N T) (hs : Surf N T) (hB : IntsAt w bo bays) (hok : BaysOK T.length bays) :
    Calls Tryz.prog 78 #[.pointer (some ⟨b, 0, none⟩), .slice bo bays.length bcap] w fun e w' => ∃ n3 L, n3 = 3 * T.length ∧ e = .returned (.slice (some ⟨w.heap.size, 0, none⟩) n3 n3) ∧ RowIs w' w.heap.size 3 (iv L n3) ∧ IsLeast (SAdj T (I! bays)) n3 L ∧ Below w.heap.size w w' := by
  obtain ⟨i0, hi, hz0, hz1, hz2⟩ := info_parts info3
  have hi0 := hi
  have H := Lib.hid h
  have HS := Lib.hid hs
  have HBY := Lib.hid hB
  have HBB := Lib.hid hok
  rw [hok.1]
  obtain ⟨len, hlen⟩ : ∃ n, n = T.length := ⟨_, rfl⟩
  obtain ⟨n3, hn3⟩ : ∃ n, n = 3 * len := ⟨_, rfl⟩
  have hl : len ≤ 8192 := by rw [hlen]; exact hs.t1
  have h3 : (3 : Int) * (len : Int) = (n3 : Int) := by omega
  have hl3 : n3 ≤ 24576 := by omega
  rw [← hlen, ← hn3]
  have HL := Lib.hid hlen
  have HN := Lib.hid (show n3 = 3 * T.length by omega)
  have HTC := triangles_any _ _ _ _ h.s
  rw [← hlen] at HTC
  have HTC' := Lib.hid HTC
  clear h hs hB hok hlen hn3 HTC
  go_enter Tryz.func78, Tryz.ntmps78
  go_wp2_with fail
  refine HTC'.out.mono ?_
  rintro e w1 ⟨rfl, rfl⟩
  go_wp2_with (at_make; refine wpList_make_full _ rfl _ _ _ rfl w.heap.size 3 i0 (.int .i64 0) 1 (by kernel_rfl) hi hz0 hz1 _ _ _ _ n3 rfl rfl rfl rfl (by rw [hz2]; omega) (by unfold maxLen; omega) (Nat.le_refl _) ?_)
  intro w1 hown hgrow
  rw [madeCells_iv] at hown
  have hrow := RowIs.of_owns hown
  have hb1 : Below w.heap.size w w1 := (Below.refl _ _).grown hgrow (Nat.le_refl _) (by simp)
  clear hown hgrow
  go_wp2
  go_loopw [20] (fun i wr => ∃ k : Nat, k ≤ n3 ∧ i = .int .i64 k ∧ RowIs wr w.heap.size 3 (iv (fun j => if j < k then -1 else 0) n3) ∧ Below w.heap.size w wr) (fun i _ => n3 - (intOf i).toNat)
  case atStart => exact ⟨0, Nat.zero_le _, rfl, by simpa using hrow, hb1⟩
  case round =>
    obtain ⟨k, hk, rfl, hr, hb⟩ := hrel
    clear hb1 hrow
    by_cases hlt : k < n3
    · have hc := hr.cell (iv_get _ hlt)
      have hf := hr.free k
      have hb' : Below w.heap.size w (wr.setCell ⟨w.heap.size, k, none⟩ (.int .i64 (-1))) := hb.setCell (Nat.le_refl _) _
      have hr' := hr.set k (.int .i64 (-1))
      rw [iv_set, iv_congr (h := fun j => if j < k + 1 then -1 else 0) (fun i _ => by unfold upd; by_cases e : i = k <;> simp [e]; by_cases q : i < k <;> simp [q] <;> omega)] at hr'
      have HR := Lib.hid hr'
      have HB := Lib.hid hb'
      clear hr' hb' hr hb
      go_wp2
      go_roundw
      case rel => exact ⟨k + 1, by omega, by go_num, HR.out, HB.out⟩
      case measure => simp [intOf]; omega
    · obtain rfl : n3 = k := by omega
      rw [iv_congr (h := fun _ => -1) (fun i hi => by simp [hi])] at hr
      have HR := Lib.hid hr
      have HB := Lib.hid hb
      clear hr hb hlt
      go_wp2
      go_loopw [29] (fun i ws => ∃ (f : Nat) (L : Nat → Int), f ≤ n3 ∧ i = .int .i64 f ∧ RowIs ws w.heap.size 3 (iv L n3) ∧ LInv (SAdj T (I! bays)) n3 f L ∧ Below w.heap.size w ws) (fun i _ => n3 - (intOf i).toNat)
      case atStart => exact ⟨0, fun _ => -1, by omega, rfl, HR.out, LInv.start _ _, HB.out⟩
      case round =>
        obtain ⟨f, L0, hf, rfl, hr, ho, hb⟩ := hrel
        clear HR HB
        by_cases hfn : f < n3
        · have hcell := hr.cell (iv_get L0 hfn)
          by_cases hL : 0 ≤ L0 f
          · have HR := Lib.hid hr
            have HB := Lib.hid hb
            have HI := Lib.hid (ho.skip hL)
            clear hr hb ho
            generalize L0 f = lf at *
            have hd : decide (lf ≥ 0) = true := by simpa using hL
            go_wp2
            go_roundw
            case rel => exact ⟨f + 1, L0, by omega, by go_num, HR.out, HI.out, HB.out⟩
            case measure => simp [intOf]; omega
          · have hL2 : (decide (L0 f ≥ 0)) = false := by simpa using hL
            have HLN := Lib.hid (show L0 f < 0 by omega)
            have hbs := DInv.start ho hfn hL
            have hfz := hr.free f
            have HO0 := Lib.hid ho
            have hr1 := hr.set f (.int .i64 (f : Int))
            rw [iv_set] at hr1
            have hb1 : Below w.heap.size w (wr.setCell ⟨w.heap.size, f, none⟩ (.int .i64 (f : Int))) := hb.setCell (Nat.le_refl _) _
            have hsz : (wr.setCell ⟨w.heap.size, f, none⟩ (.int .i64 (f : Int))).heap.size = wr.heap.size := by simp [World.setCell]
            have hwr := hr.lt
            have HST := Lib.hid (show SSt T bays n3 f w.heap.size w L0 (upd L0 f f) [f] wr.heap.size 1 ((wr.setCell ⟨w.heap.size, f, none⟩ (.int .i64 (f : Int))).alloc (.cells #[.int .i64 (f : Int)] 3)) from by
              have hw := RowIs.made (wr.setCell ⟨w.heap.size, f, none⟩ (.int .i64 (f : Int))) 3 (nv [f])
              rw [hsz] at hw
              exact ⟨hw.owns (base := w.heap.size + 1) (size := 1) (n := 1) (by omega) rfl (by decide), hr1.alloc _, hb1.alloc (by have := hb.size; rw [hsz]; omega) _⟩)
            have HI := Lib.hid hbs
            clear hr ho hb hr1 hb1 hbs hL hsz
            generalize L0 f = lf at hcell hL2
            go_wp2
            clear hcell hfz hL2
            go_loopg [8] (2 * nNeg (upd L0 f f) n3 + 1) (fun k v ws => ∃ (S : List Nat) (L : Nat → Int) (gs cap : Nat), k = 2 * nNeg L n3 + S.length ∧ k ≤ 2 * n3 + 1 ∧ v = .slice (some ⟨gs, 0, none⟩) S.length cap ∧ SSt T bays n3 f w.heap.size w L0 L S gs cap ws ∧ DInv (SAdj T (I! bays)) n3 f L0 L S)
            case atStart => exact ⟨[f], upd L0 f f, wr.heap.size, 1, rfl, by have := nNeg_le (upd L0 f f) n3; omega, rfl, HST.out, HI.out⟩
            case round =>
              clear HST HI hwr
              obtain ⟨S, L, gs, cap, hgk, hgk2, rfl, hst, hdi⟩ := hrel
              obtain ⟨W3, rfl⟩ : ∃ W3 : World, W3 = wr := ⟨_, rfl⟩
              rcases (show S = [] ∨ ∃ S' x, S = S' ++ [x] from by
                rcases List.eq_nil_or_concat S with h | ⟨a, b, h⟩
                · exact .inl h
                · exact .inr ⟨a, b, by simpa using h⟩) with rfl | ⟨S, x, rfl⟩
              · have HR := Lib.hid hst.row
                have HB := Lib.hid hst.bel
                have HI := Lib.hid (hdi.stop HO0.out hfn HLN.out (fun i j _ _ => HS.out.sadj_symm))
                clear hst hdi hgk
                go_wp2
                go_roundw
                case rel => exact ⟨f + 1, L, by omega, by go_num, HR.out, HI.out, HB.out⟩
                case measure => simp [intOf]; omega
              · have e1 : (S ++ [x]).length = S.length + 1 := by simp
                rw [e1] at hgk ⊢
                have hown := hst.own
                rw [e1, nv_snoc] at hown
                have hx := hdi.sub x (by simp)
                obtain ⟨m, hm⟩ : ∃ m, m = S.length := ⟨_, rfl⟩
                have HMS := Lib.hid hm
                rw [← hm] at hgk hown ⊢
                obtain ⟨gs', cap', hv, hgb, hgl, hcap, hcm, hcx0, -⟩ := owns_block hown (by omega)
                have hcx := hcx0 m (.int .i64 (x : Int)) (by simp [nv_length, hm])
                obtain ⟨rfl, rfl⟩ : gs = gs' ∧ cap = cap' := by
                  simp only [Value.slice.injEq, Option.some.injEq, Addr.mk.injEq] at hv
                  exact ⟨hv.1.1, hv.2.2⟩
                have HPOP := Lib.hid (owns_pop hown)
                have HR3 := Lib.hid hst.row
                have HB3 := Lib.hid hst.bel
                have HES := Lib.hid hdi.pop
                have hxn := hx.1
                have HT3 := Lib.hid (H.out.mono (Nat.le_refl _) hst.bel)
                have hxT : x < 3 * T.length := by have := HN.out; omega
                have HNX := Lib.hid (nextN HT3.out x hxT)
                obtain ⟨p, hp⟩ : ∃ p, p = nxn x := ⟨_, rfl⟩
                obtain ⟨q, hq⟩ : ∃ q, q = pvn x := ⟨_, rfl⟩
                have hpT : p < 3 * T.length := by rw [hp]; exact nxn_lt hxT
                have hqT : q < 3 * T.length := by rw [hq]; exact pvn_lt hxT
                rw [← hp] at HNX
                have HP := Lib.hid hp
                have HQ := Lib.hid hq
                clear hst hdi hown hx e1 hm hv hcx0 hp hq
                go_wp2_with fail
                refine HNX.out.mono ?_
                rintro e w1 ⟨rfl, rfl⟩
                go_wp2_with fail
                refine (opp_any (p : Int) _ _ _ _ HT3.out (by omega) (by omega)).mono ?_
                rintro e w4 ⟨rfl, hb4⟩
                have HT4 := Lib.hid (HT3.out.mono (Nat.le_refl _) hb4)
                have HPV := Lib.hid (prevN HT4.out x hxT)
                rw [← HQ.out] at HPV
                have HB34 := Lib.hid hb4
                clear hb4
                go_wp2_with fail
                refine HPV.out.mono ?_
                rintro e w4' ⟨rfl, rfl⟩
                go_wp2_with fail
                refine (opp_any (q : Int) _ _ _ _ HT4.out (by omega) (by omega)).mono ?_
                rintro e w5 ⟨rfl, hb5⟩
                have HT5 := Lib.hid (HT4.out.mono (Nat.le_refl _) hb5)
                have hb35 : Below W3.heap.size W3 w5 := HB34.out.trans (hb5.mono HB34.out.size)
                have HPOP5 := Lib.hid (owns_below HPOP.out hb35)
                have HR5 := Lib.hid (HR3.out.below hb35 HR3.out.lt)
                have HB5 := Lib.hid (below_more HB3.out hb35 HB3.out.size)
                obtain ⟨A, hA⟩ : ∃ A, Hid (opp T (p : Int) = A) := ⟨_, rfl⟩
                obtain ⟨B, hBq⟩ : ∃ B, Hid (opp T (q : Int) = B) := ⟨_, rfl⟩
                rw [hA.out, hBq.out]
                obtain ⟨ya, hya⟩ : ∃ y, Hid (stepA T x = y) := ⟨_, rfl⟩
                obtain ⟨yb, hyb⟩ : ∃ y, Hid (stepB T x = y) := ⟨_, rfl⟩
                have HAV := Lib.hid (show ya = if 0 ≤ A then nx A else A from by rw [← hya.out]; unfold stepA; rw [← HP.out, hA.out])
                have HBV := Lib.hid (show yb = if 0 ≤ B then pv B else B from by rw [← hyb.out]; unfold stepB; rw [← HQ.out, hBq.out])
                have HAL := Lib.hid (show 0 ≤ A → ∃ a : Nat, A = a ∧ a < 3 * T.length from fun h => by
                  obtain ⟨o, e, ho, -⟩ := HS.out.opp_opp hpT (by rw [hA.out]; exact h)
                  exact ⟨o, by rw [← hA.out]; exact e, ho⟩)
                have HBL := Lib.hid (show 0 ≤ B → ∃ a : Nat, B = a ∧ a < 3 * T.length from fun h => by
                  obtain ⟨o, e, ho, -⟩ := HS.out.opp_opp hqT (by rw [hBq.out]; exact h)
                  exact ⟨o, by rw [← hBq.out]; exact e, ho⟩)
                have hgl5 : gs < w5.heap.size := by have := hb35.size; omega
                clear hcx hb5 hb35 HT3 HT4 HB34 HPOP HR3 HB3
                obtain ⟨W5, rfl⟩ : ∃ W5 : World, W5 = w5 := ⟨_, rfl⟩
                obtain ⟨γA, hγ⟩ : ∃ γ, decide (A ≥ 0) = γ := ⟨_, rfl⟩
                have hγ2 : decide (0 ≤ A) = γA := hγ
                have HGA := Lib.hid hγ
                go_upto_if 68 with fail
                clear hγ hγ2
                go_cut [10] (fun s10 wc => s10 = .int .i64 ya ∧ wc = W5)
                case first =>
                  rcases (show (γA = true ∧ 0 ≤ A) ∨ (γA = false ∧ ¬ 0 ≤ A) from by
                    have h := HGA.out
                    cases γA
                    · exact .inr ⟨rfl, by simpa using h⟩
                    · exact .inl ⟨rfl, by simpa using h⟩) with ⟨rfl, h0⟩ | ⟨rfl, h0⟩
                  · obtain ⟨a, rfl, ha⟩ := HAL.out h0
                    have HCN := Lib.hid (nextN HT5.out a ha)
                    have HYV := Lib.hid (show ya = (nxn a : Int) from by rw [HAV.out, if_pos h0, nx_nat])
                    have hd : decide ((a : Int) ≥ 0) = true := by simp
                    have hd2 : decide (0 ≤ (a : Int)) = true := by simp
                    clear h0
                    go_wp2_with fail
                    refine HCN.out.mono ?_
                    rintro e w6 ⟨rfl, rfl⟩
                    go_wp2
                    go_meet
                    exact ⟨by rw [HYV.out], rfl⟩
                  · have HYV := Lib.hid (show ya = A from by rw [HAV.out, if_neg h0])
                    have hd : decide (A ≥ 0) = false := by simpa using h0
                    have hd2 : decide (0 ≤ A) = false := by simpa using h0
                    clear h0
                    go_wp2
                    go_meet
                    exact ⟨by rw [HYV.out], rfl⟩
                case rest =>
                obtain ⟨rfl, hwc⟩ := hcut
                rw [hwc]
                clear hwc
                obtain ⟨γB, hγ⟩ : ∃ γ, decide (B ≥ 0) = γ := ⟨_, rfl⟩
                have hγ2 : decide (0 ≤ B) = γB := hγ
                have HGB := Lib.hid hγ
                go_upto_if 73 with fail
                clear hγ hγ2
                go_cut [11] (fun s11 wc => s11 = .int .i64 yb ∧ wc = W5)
                case first =>
                  rcases (show (γB = true ∧ 0 ≤ B) ∨ (γB = false ∧ ¬ 0 ≤ B) from by
                    have h := HGB.out
                    cases γB
                    · exact .inr ⟨rfl, by simpa using h⟩
                    · exact .inl ⟨rfl, by simpa using h⟩) with ⟨rfl, h0⟩ | ⟨rfl, h0⟩
                  · obtain ⟨a, rfl, ha⟩ := HBL.out h0
                    have HCN := Lib.hid (prevN HT5.out a ha)
                    have HYV := Lib.hid (show yb = (pvn a : Int) from by rw [HBV.out, if_pos h0, pv_nat])
                    have hd : decide ((a : Int) ≥ 0) = true := by simp
                    have hd2 : decide (0 ≤ (a : Int)) = true := by simp
                    clear h0
                    go_wp2_with fail
                    refine HCN.out.mono ?_
                    rintro e w6 ⟨rfl, rfl⟩
                    go_wp2
                    go_meet
                    exact ⟨by rw [HYV.out], rfl⟩
                  · have HYV := Lib.hid (show yb = B from by rw [HBV.out, if_neg h0])
                    have hd : decide (B ≥ 0) = false := by simpa using h0
                    have hd2 : decide (0 ≤ B) = false := by simpa using h0
                    clear h0
                    go_wp2
                    go_meet
                    exact ⟨by rw [HYV.out], rfl⟩
                case rest =>
                obtain ⟨rfl, hwc⟩ := hcut
                rw [hwc]
                clear hwc
                have hs5 := HB5.out.size
                have hwl5 := HR5.out.lt
                have HST := Lib.hid (show SSt T bays n3 f w.heap.size w L0 L S gs cap (W5.alloc (.cells #[.int .i64 ya, .int .i64 yb] 3)) from
                  ⟨by rw [← HMS.out]; exact HPOP5.out.alloc _, HR5.out.alloc _, HB5.out.alloc hs5 _⟩)
                have HGA := Lib.hid (RowIs.made W5 3 [.int .i64 ya, .int .i64 yb])
                have HLT := Lib.hid (show 2 * nNeg L n3 + S.length < gk from by have := HMS.out; omega)
                have HM0 := Lib.hid (show ∀ i, IsNb T x (ysel ya yb i) from fun i => by rw [← hya.out, ← hyb.out]; exact ysel_nb HS.out hxT i)
                have HALL := Lib.hid (show ∀ j, j < n3 → SAdj T (I! bays) x j → ∃ l, l < 2 ∧ ysel ya yb l = (j : Int) from fun j _ h => by rw [← hya.out, ← hyb.out]; exact sadj_ysel h)
                have hms := HMS.out
                go_wp2
                go_loopw [81, 8] (fun c v ws => ∃ (i : Nat) (S : List Nat) (L : Nat → Int) (gs cap : Nat), i ≤ 2 ∧ c = .int .i64 i ∧ v = .slice (some ⟨gs, 0, none⟩) S.length cap ∧ SSt T bays n3 f w.heap.size w L0 L S gs cap ws ∧ gs ≠ W5.heap.size ∧
                    RowIs ws W5.heap.size 3 [.int .i64 ya, .int .i64 yb] ∧ EInvS (SAdj T (I! bays)) n3 f L0 L S x ∧ 2 * nNeg L n3 + S.length < gk ∧ (∀ l, l < i → ∀ j : Nat, ysel ya yb l = (j : Int) → j < n3 → I! bays (j / 3) = I! bays (x / 3) → 0 ≤ L j)) (fun c _ _ => 2 - (intOf c).toNat)
                case atStart => exact ⟨0, S, L, gs, cap, by omega, rfl, by rw [hms], HST.out, by omega, HGA.out, HES.out, HLT.out, fun l h => by omega⟩
                case round =>
                  clear HST HGA HES HLT HPOP5 HR5 HB5 hgk hms HMS hgl5 hcap hcm
                  obtain ⟨i, S, L, gs, cap, hi2, rfl, rfl, hst, hne, hga, hes, hlt, hdone⟩ := hrel
                  obtain ⟨W6, rfl⟩ : ∃ W6 : World, W6 = wr := ⟨_, rfl⟩
                  by_cases hi : i < 2
                  · have hcy := hga.cell (ysel_get ya yb hi)
                    have hnb := HM0.out i
                    obtain ⟨y, hy⟩ : ∃ y, Hid (ysel ya yb i = y) := ⟨_, rfl⟩
                    rw [hy.out] at hcy hnb
                    have HDW := Lib.hid (show ∀ a, Below W6.heap.size W6 (W6.drewN a) from fun _ => ⟨rfl, rfl, rfl, Nat.le_refl _, fun _ _ => rfl⟩)
                    have HST := Lib.hid hst
                    have HGA := Lib.hid hga
                    have HES := Lib.hid hes
                    have HLT := Lib.hid hlt
                    have HDN := Lib.hid hdone
                    clear hdone
                    by_cases y0 : y < 0
                    · have d0 : decide (y ≥ 0) = false := by simpa using y0
                      have d1 : decide (0 ≤ y) = false := by simpa using y0
                      have HD2 := Lib.hid (show ∀ l, l < i + 1 → ∀ j : Nat, ysel ya yb l = (j : Int) → j < n3 → I! bays (j / 3) = I! bays (x / 3) → 0 ≤ L j from fun l hl j e hj hb => by
                        by_cases el : l = i
                        · subst el; rw [hy.out] at e; omega
                        · exact HDN.out l (by omega) j e hj hb)
                      clear y0 hst hga hes hlt hnb
                      go_upto_region 24 with fail
                      go_quiet (fail)
                      go_wp2
                      go_roundw
                      case rel => exact ⟨i + 1, S, L, gs, cap, by omega, by go_num, rfl, HST.out.more (HDW.out _), hne, HGA.out.after (HDW.out _), HES.out, HLT.out, HD2.out⟩
                      case measure => simp [intOf]; omega
                    · obtain ⟨j, rfl, hjT, hjo⟩ := hnb.resolve_left y0
                      have hj3 : j < n3 := by have := HN.out; omega
                      have d0 : decide ((j : Int) ≥ 0) = true := by simp
                      have d1 : decide (0 ≤ (j : Int)) = true := by simp
                      have hcj := hst.row.cell (iv_get L hj3)
                      have hfj := hst.row.free j
                      obtain ⟨t, ht⟩ : ∃ t, Hid (L j = t) := ⟨_, rfl⟩
                      rw [ht.out] at hcj
                      by_cases t0 : 0 ≤ t
                      · have dt : decide (t < 0) = false := by simpa using t0
                        have HD2 := Lib.hid (show ∀ l, l < i + 1 → ∀ j : Nat, ysel ya yb l = (j : Int) → j < n3 → I! bays (j / 3) = I! bays (x / 3) → 0 ≤ L j from fun l hl j' e hj hb => by
                          by_cases el : l = i
                          · subst el; rw [hy.out] at e
                            have : j' = j := by omega
                            rw [this, ht.out]; exact t0
                          · exact HDN.out l (by omega) j' e hj hb)
                        clear y0 t0 hst hga hes hlt hnb hfj
                        go_upto_region 24 with fail
                        go_quiet (fail)
                        go_wp2
                        go_roundw
                        case rel => exact ⟨i + 1, S, L, gs, cap, by omega, by go_num, rfl, HST.out.more (HDW.out _), hne, HGA.out.after (HDW.out _), HES.out, HLT.out, HD2.out⟩
                        case measure => simp [intOf]; omega
                      · have dt : decide (t < 0) = true := by simp; omega
                        obtain ⟨j3, hj3'⟩ : ∃ k, k = j / 3 := ⟨_, rfl⟩
                        obtain ⟨x3, hx3'⟩ : ∃ k, k = x / 3 := ⟨_, rfl⟩
                        have sj : (j : Int) / 3 = (j3 : Int) := by omega
                        have sx : (x : Int) / 3 = (x3 : Int) := by omega
                        have lj : j3 < len := by have := HL.out; omega
                        have lx : x3 < len := by have := HL.out; omega
                        obtain ⟨bb, boff, qj, hE, hqj, hcqj, -, -⟩ := HBY.out.get (Nat.le_refl _) hst.bel (i := j3) (by have := HBB.out.1; have := HL.out; omega)
                        subst hE
                        obtain ⟨bb', boff', qx, hE, hqx, hcqx, -, -⟩ := HBY.out.get (Nat.le_refl _) hst.bel (i := x3) (by have := HBB.out.1; have := HL.out; omega)
                        cases hE
                        have HQJ := Lib.hid (show I! bays (j / 3) = qj from by rw [← hj3']; exact hqj.out)
                        have HQX := Lib.hid (show I! bays (x / 3) = qx from by rw [← hx3']; exact hqx.out)
                        clear hj3' hx3' hqj hqx
                        cases hqe : qj == qx
                        · have HD2 := Lib.hid (show ∀ l, l < i + 1 → ∀ j : Nat, ysel ya yb l = (j : Int) → j < n3 → I! bays (j / 3) = I! bays (x / 3) → 0 ≤ L j from fun l hl j' e hj hb => by
                            by_cases el : l = i
                            · subst el; rw [hy.out] at e
                              have : j' = j := by omega
                              rw [this, HQJ.out, HQX.out] at hb
                              simp [hb] at hqe
                            · exact HDN.out l (by omega) j' e hj hb)
                          clear y0 t0 hst hga hes hlt hnb hfj
                          go_upto_region 24 with fail
                          go_quiet (fail)
                          go_wp2
                          go_roundw
                          case rel => exact ⟨i + 1, S, L, gs, cap, by omega, by go_num, rfl, HST.out.more (HDW.out _), hne, HGA.out.after (HDW.out _), HES.out, HLT.out, HD2.out⟩
                          case measure => simp [intOf]; omega
                        · have heq : qj = qx := by simpa using hqe
                          have hadj : SAdj T (I! bays) x j := ⟨hxT, hjT, by rw [HQJ.out, HQX.out, heq], hjo⟩
                          have HE2 := Lib.hid (HES.out.push hj3 hadj (by rw [ht.out]; omega))
                          have HD2 := Lib.hid (show ∀ l, l < i + 1 → ∀ j' : Nat, ysel ya yb l = (j' : Int) → j' < n3 → I! bays (j' / 3) = I! bays (x / 3) → 0 ≤ upd L j f j' from fun l hl j' e hj hb => by
                            by_cases el : l = i
                            · subst el; rw [hy.out] at e
                              have : j' = j := by omega
                              rw [this]; simp [upd]
                            · unfold upd
                              split
                              · omega
                              · exact HDN.out l (by omega) j' e hj hb)
                          have HLT2 := Lib.hid (show 2 * nNeg (upd L j f) n3 + (S.length + 1) < gk from by
                            have := nNeg_upd (v := (f : Int)) hj3 (show L j < 0 by rw [ht.out]; omega) (by omega)
                            omega)
                          have HLS := Lib.hid (show S.length ≤ 100000 from by omega)
                          have HG2 := Lib.hid (show ∀ a, RowIs ((W6.drewN a).setCell ⟨w.heap.size, j, none⟩ (.int .i64 (f : Int))) w.heap.size 3 (iv (upd L j f) n3) ∧ RowIs ((W6.drewN a).setCell ⟨w.heap.size, j, none⟩ (.int .i64 (f : Int))) W5.heap.size 3 [.int .i64 ya, .int .i64 yb] ∧
                              ((W6.drewN a).setCell ⟨w.heap.size, j, none⟩ (.int .i64 (f : Int))).ownsRow (w.heap.size + 1) 3 1 (.slice (some ⟨gs, 0, none⟩) S.length cap) S.length (nv S) ∧ Below w.heap.size w ((W6.drewN a).setCell ⟨w.heap.size, j, none⟩ (.int .i64 (f : Int))) from fun a => by
                            refine ⟨?_, (HGA.out.after (HDW.out a)).other (by show w.heap.size ≠ _; omega) _, ownsRow_setCell_below (HST.out.more (HDW.out a)).own (a := ⟨w.heap.size, j, none⟩) (Nat.lt_succ_self _) _, (HST.out.more (HDW.out a)).bel.setCell (Nat.le_refl _) _⟩
                            have := (HST.out.more (HDW.out a)).row.set j (.int .i64 (f : Int))
                            rw [iv_set] at this
                            exact this)
                          have hsz6 := hst.bel.size
                          have hga6 := hga.lt
                          clear y0 t0 hst hga hes hlt hnb hadj heq
                          go_upto_region 24 with fail
                          go_quiet (fail)
                          obtain ⟨W7, hW7⟩ : ∃ W7, W7 = (W6.drewN nq).setCell ⟨w.heap.size, j, none⟩ (.int .i64 (f : Int)) := ⟨_, rfl⟩
                          have hG := HG2.out nq
                          rw [← hW7] at hG
                          have hsz7 : W7.heap.size = W6.heap.size := by rw [hW7]; simp [World.setCell]
                          have HSZ7 := Lib.hid hsz7
                          have HW7 := Lib.hid hW7
                          obtain ⟨hR7, hA7, hO7, hB7⟩ := hG
                          have HR7 := Lib.hid hR7
                          have HA7 := Lib.hid hA7
                          have HO7 := Lib.hid hO7
                          have HB7 := Lib.hid hB7
                          have hls := HLS.out
                          clear hW7 hR7 hA7 hO7 hB7 hsz7
                          go_upto_region 26 with fail
                          rw [← HW7.out]
                          clear hcy hcj hfj hcqj hcqx
                          have HX := Lib.hid (HO7.out.alloc (.cells #[.int .i64 (j : Int)] 3))
                          go_wp2_with (at_builtin; refine wpList_append_lies _ rfl _ _ 25 rfl (w.heap.size + 1) 3 i0 (.int .i64 0) 1 8 (by kernel_rfl) hi0 hz0 hz1 hz2 rfl (by decide) _ _ _ rfl HX.out ⟨W7.heap.size, 0, none⟩ 1 1 [.int .i64 (j : Int)] rfl rfl (World.news_of_block (heap_alloc_new W7 _)) (by intro u hu; simp at hu; subst hu; rfl) (by decide) (by unfold maxLen; omega) (by omega) (by have := HSZ7.out; simp; omega) _ rfl ?_)
                          intro g2 cap2 w8 hown8 hgr8 hat8 hlt8
                          have hsz7 := HSZ7.out
                          have hga8 : g2 ≠ W5.heap.size := by
                            rcases hat8 with e | e
                            · simp [Value.ownBlock] at e; omega
                            · first | omega | (simp at e; omega)
                          have hgs : w.heap.size + 1 ≤ gs := (HO7.out.lt gs rfl).1
                          have HST8 := Lib.hid (show SSt T bays n3 f w.heap.size w L0 (upd L j f) (S ++ [j]) g2 cap2 w8 from
                            ⟨by rw [nv_snoc, List.length_append]; exact hown8, (HR7.out.alloc _).grown hgr8 (by simp [Value.ownBlock]; omega), (HB7.out.alloc (by have := HB7.out.size; omega) _).grown hgr8 (by have := HB7.out.size; simp; omega) (fun k hk => by simp [Value.ownBlock] at hk; omega)⟩)
                          have HGA8 := Lib.hid ((HA7.out.alloc (.cells #[.int .i64 (j : Int)] 3)).grown hgr8 (by simp [Value.ownBlock]; omega))
                          clear hown8 hgr8 hat8 hlt8 hsz7
                          go_wp2
                          go_roundw
                          case rel => exact ⟨i + 1, S ++ [j], upd L j f, g2, cap2, by omega, by go_num, by rw [List.length_append]; rfl, HST8.out, hga8, HGA8.out, HE2.out, by rw [List.length_append]; exact HLT2.out, HD2.out⟩
                          case measure => simp [intOf]; omega
                  · obtain rfl : i = 2 := by omega
                    have HDI := Lib.hid (hes.seen fun j hj ha => by
                      obtain ⟨l, hl, e⟩ := HALL.out j hj ha
                      exact hdone l (by omega) j e hj ha.2.2.1)
                    have HST := Lib.hid hst
                    have HLT := Lib.hid hlt
                    clear hst hga hes hlt hdone
                    go_wp2
                    go_roundg (2 * nNeg L n3 + S.length)
                    case rel => exact ⟨S, L, gs, cap, rfl, by have := HLT.out; omega, rfl, HST.out, HDI.out⟩
                    case measure => exact HLT.out
        · obtain rfl : f = n3 := by omega
          have HF := Lib.hid ho.done
          have HR := Lib.hid hr
          have HB := Lib.hid hb
          clear hr ho hb
          go_wp2
          go_ret
          exact ⟨f, L0, by have := HN.out; omega, rfl, HR.out, HF.out, HB.out⟩
end Go.Proofs.YtfbpjlfimmjieaaGreat

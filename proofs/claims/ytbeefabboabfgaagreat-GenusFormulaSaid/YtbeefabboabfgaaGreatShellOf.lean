/- shell.Of: of each triangle the number of its shell. -/
import Derived.Test.YtbeefabboabfgaaGreatFacing
import Derived.Test.YtbeefabboabfgaaGreatRowl
namespace Go.Proofs.YtbeefabboabfgaaGreat
set_option linter.unusedVariables false
set_option linter.unusedSimpArgs false
open Go.RowKit Go.Maps
/-- From one triangle across an edge to another. -/
def Adj (T : List Tr) (i j : Nat) : Prop := ∃ k : Nat, k < 3 ∧ 0 ≤ opp T (3 * (i : Int) + k) ∧ (opp T (3 * (i : Int) + k)).toNat / 3 = j
set_option maxRecDepth 100000 in
set_option maxHeartbeats 1000000 in
theorem of_any (w : World) (b : Nat) (N : Int) (T : List Tr) (h : Tab w b N T) (hsym : ∀ i j, i < T.length → j < T.length → Adj T i j → Adj T j i) (hopp : ∀ c : Int, 0 ≤ c → c < 3 * T.length → opp T c < 3 * T.length) :
    Calls Tryz.prog 28 #[.pointer (some ⟨b, 0, none⟩)] w fun e w' => ∃ g L, e = .returned (.slice (some ⟨g, 0, none⟩) T.length T.length) ∧ w.heap.size ≤ g ∧ RowIs w' g 3 (iv L T.length) ∧ IsShells (Adj T) T.length L ∧ Below w.heap.size w w' := by
  obtain ⟨i0, hi, hz0, hz1, hz2⟩ := info_parts info3
  have H := Lib.hid h
  have hlen := h.len
  obtain ⟨n, hn⟩ : ∃ n, n = T.length := ⟨_, rfl⟩
  rw [← hn] at hsym hopp hlen ⊢
  have HN := Lib.hid hn
  have HS := Lib.hid hsym
  have HO := Lib.hid hopp
  clear h hn hsym hopp
  go_enter Tryz.func28, Tryz.ntmps28
  go_wp2_with fail
  refine (triangles_any _ _ _ _ H.out.s).mono ?_
  rintro e w1 ⟨rfl, rfl⟩
  rw [← HN.out]
  go_wp2_with (at_make; refine wpList_make_full _ rfl _ _ _ rfl w.heap.size 3 i0 (.int .i64 0) 1 (by kernel_rfl) hi hz0 hz1 _ _ _ _ n rfl rfl rfl rfl (by rw [hz2]; omega) (by unfold maxLen; omega) (Nat.le_refl _) ?_)
  intro w1 hown hgrow
  rw [madeCells_iv] at hown
  have hrow := RowIs.of_owns hown
  have hb1 : Below w.heap.size w w1 := (Below.refl _ _).grown hgrow (Nat.le_refl _) (by simp)
  clear hown hgrow
  go_wp2
  go_loopw [16, 4] (fun i _ wr => ∃ k : Nat, k ≤ n ∧ i = .int .i64 k ∧ RowIs wr w.heap.size 3 (iv (fun j => if j < k then -1 else 0) n) ∧ Below w.heap.size w wr) (fun i _ _ => n - (intOf i).toNat)
  case atStart => exact ⟨0, Nat.zero_le _, rfl, by simpa using hrow, hb1⟩
  case round =>
    obtain ⟨k, hk, rfl, hr, hb⟩ := hrel
    clear hb1 hrow
    by_cases hlt : k < n
    · have hc := hr.cell (iv_get _ hlt)
      have hf := hr.free k
      have hb' : Below w.heap.size w (wr.setCell ⟨w.heap.size, k, none⟩ (.int .i64 (-1))) := hb.setCell (Nat.le_refl _) _
      have hr' := hr.set k (.int .i64 (-1))
      rw [iv_set, iv_congr (h := fun j => if j < k + 1 then -1 else 0) (fun i _ => by unfold upd; by_cases e : i = k <;> simp [e]; by_cases q : i < k <;> simp [q] <;> omega)] at hr'
      have HR := Lib.hid hr'
      have HB := Lib.hid hb'
      clear hr' hb' hr hb
      go_wp2
      go_roundw
      case rel => exact ⟨k + 1, by omega, by go_num, HR.out, HB.out⟩
      case measure => simp [intOf]; omega
    · obtain rfl : n = k := by omega
      rw [iv_congr (h := fun _ => -1) (fun i hi => by simp [hi])] at hr
      clear hz0 hz1 hz2 hi i0
      obtain ⟨i0, hi, hz0, hz1, hz2⟩ := info_parts info3
      have HR := Lib.hid hr
      have HB := Lib.hid hb
      clear hr hb hlt
      go_wp2
      go_loopw [25, 5] (fun i m ws => ∃ (f c : Nat) (L : Nat → Int), f ≤ n ∧ c ≤ n ∧ i = .int .i64 f ∧ m = .int .i64 c ∧ RowIs ws w.heap.size 3 (iv L n) ∧ OInv (Adj T) n f c L ∧ Below w.heap.size w ws) (fun i _ _ => n - (intOf i).toNat)
      case atStart => exact ⟨0, 0, fun _ => -1, by omega, by omega, rfl, rfl, HR.out, OInv.start _ _, HB.out⟩
      case round =>
        obtain ⟨f, c, L, hf, hc, rfl, rfl, hr, ho, hb⟩ := hrel
        clear HR HB
        by_cases hfn : f < n
        · have hcell := hr.cell (iv_get L hfn)
          by_cases hL : 0 ≤ L f
          · have HR := Lib.hid hr
            have HB := Lib.hid hb
            have HI := Lib.hid (ho.skip hL)
            clear hr hb ho
            generalize L f = lf at *
            go_wp2
            go_roundw
            case rel => exact ⟨f + 1, c, L, by omega, hc, by go_num, rfl, HR.out, HI.out, HB.out⟩
            case measure => simp [intOf]; omega
          · have hL2 : (decide (L f ≥ 0)) = false := by simpa using hL
            have hbs := BInv.start ho hfn hL
            have hfz := hr.free f
            have HO0 := Lib.hid ho
            have hr1 := hr.set f (.int .i64 (c : Int))
            rw [iv_set] at hr1
            have hb1 : Below w.heap.size w (wr.setCell ⟨w.heap.size, f, none⟩ (.int .i64 (c : Int))) := hb.setCell (Nat.le_refl _) _
            have hsz : (wr.setCell ⟨w.heap.size, f, none⟩ (.int .i64 (c : Int))).heap.size = wr.heap.size := by simp [World.setCell]
            have HR := Lib.hid (hr1.alloc (.cells #[.int .i64 (f : Int)] 3))
            have hw := RowIs.made (wr.setCell ⟨w.heap.size, f, none⟩ (.int .i64 (c : Int))) 3 (nv [f])
            rw [hsz] at hw
            have HW := Lib.hid (hw.owns (base := w.heap.size + 1) (size := 1) (n := 1) (by have := hr.lt; omega) rfl (by decide))
            have HB := Lib.hid (hb1.alloc (by have := hb.size; omega) (.cells #[.int .i64 (f : Int)] 3))
            have HI := Lib.hid hbs
            have hwr := hr.lt
            clear hr ho hb hr1 hw hb1 hbs hL hsz
            generalize L f = lf at *
            go_wp2
            clear hcell hfz hL2
            go_loopw [8, 7] (fun i v xs => ∃ (k : Nat) (W : List Nat) (M : Nat → Int), k ≤ W.length ∧ W.length ≤ n ∧ i = .int .i64 k ∧ xs.ownsRow (w.heap.size + 1) 3 1 v W.length (nv W) ∧ RowIs xs w.heap.size 3 (iv M n) ∧
                BInv (Adj T) n f c L M W ∧ (∀ (d x : Nat), d < k → W[d]? = some x → ∀ j, j < n → Adj T x j → 0 ≤ M j) ∧ Below w.heap.size w xs) (fun i _ _ => n - (intOf i).toNat)
            case atStart => exact ⟨0, [f], upd L f c, by simp, by simp; omega, rfl, HW.out, HR.out, HI.out, fun d x h => by omega, HB.out⟩
            case round =>
              obtain ⟨k, W, M, hk, hWn, rfl, hown, hr, hbi, hall, hb⟩ := hrel
              clear HW HR HI HB hwr
              obtain ⟨gw, cap, rfl, hgb, hgs, hcap, hcm, hwc, hwf⟩ := owns_block hown (List.length_pos_of_mem hbi.fin)
              clear hwc hwf
              by_cases hkW : k < W.length
              · obtain ⟨x, hx⟩ : ∃ x, W[k]? = some x := ⟨_, List.getElem?_eq_getElem hkW⟩
                have HW := Lib.hid hown
                have HR := Lib.hid hr
                have HI := Lib.hid hbi
                have HA := Lib.hid hall
                have HB := Lib.hid hb
                have HX := Lib.hid hx
                have hxn := Lib.hid (hbi.wlt x (List.mem_of_getElem? hx)).1
                clear hown hr hbi hall hb hx
                go_wp2
                go_loopw [45, 7] (fun i v ys => ∃ (m : Nat) (W : List Nat) (M : Nat → Int), m ≤ 3 ∧ k < W.length ∧ W.length ≤ n ∧ i = .int .i64 m ∧ ys.ownsRow (w.heap.size + 1) 3 1 v W.length (nv W) ∧ RowIs ys w.heap.size 3 (iv M n) ∧
                    BInv (Adj T) n f c L M W ∧ (∀ (d x : Nat), d < k → W[d]? = some x → ∀ j, j < n → Adj T x j → 0 ≤ M j) ∧ W[k]? = some x ∧
                    (∀ l : Nat, l < m → ∀ j, j < n → 0 ≤ opp T (3 * (x : Int) + l) → (opp T (3 * (x : Int) + l)).toNat / 3 = j → 0 ≤ M j) ∧ Below w.heap.size w ys) (fun i _ _ => 3 - (intOf i).toNat)
                case atStart => exact ⟨0, W, M, by omega, hkW, hWn, rfl, HW.out, HR.out, HI.out, HA.out, HX.out, fun l h => by omega, HB.out⟩
                case round =>
                  clear HW HR HI HA HB HX
                  obtain ⟨m, W, M, hm, hkW, hWn, rfl, hown, hr, hbi, hall, hx, hdone, hb⟩ := hrel
                  obtain ⟨gy, cap2, rfl, hgb2, hgs2, hcap2, hcm2, hwc, hwf⟩ := owns_block hown (by omega)
                  have hcx := hwc k _ (nv_get hx)
                  clear hwc hwf
                  by_cases hm3 : m < 3
                  · have HT := Lib.hid (H.out.mono (Nat.le_refl _) hb)
                    have hxn' := hxn.out
                    have HN' := Lib.hid HN.out
                    have hdone0 := Lib.hid hdone
                    have HX := Lib.hid hx
                    have HI := Lib.hid hbi
                    have HA := Lib.hid hall
                    have HW := Lib.hid hown
                    have HR := Lib.hid hr
                    have HB := Lib.hid hb
                    have hbase := Nat.lt_of_lt_of_le hr.lt (Nat.le_refl _)
                    clear hown hr hbi hall hb hx hdone
                    go_wp2_with fail
                    refine (opp_any (3 * (x : Int) + m) _ _ _ _ HT.out (by omega) (by rw [← HN'.out]; omega)).mono ?_
                    rintro e y2 ⟨rfl, hb2⟩
                    have ho3 := HO.out (3 * (x : Int) + m) (by omega) (by omega)
                    obtain ⟨o, HOe⟩ : ∃ o, Hid (opp T (3 * (x : Int) + m) = o) := ⟨_, rfl⟩
                    rw [HOe.out] at ho3 ⊢
                    have HW2 := Lib.hid (owns_below HW.out hb2)
                    have hr2 := HR.out.below hb2 hbase
                    have HB2 := Lib.hid (HB.out.trans (hb2.mono HB.out.size))
                    have hsz2 := hb2.size
                    clear HW HR HB hb2 hcx
                    by_cases ho0 : 0 ≤ o
                    · obtain ⟨p, rfl⟩ := Int.eq_ofNat_of_zero_le ho0
                      have hq : p / 3 < n := by omega
                      have hcq := hr2.cell (iv_get M hq)
                      by_cases hM : 0 ≤ M (p / 3)
                      · have hMd : decide (M (p / 3) < 0) = false := by simpa using hM
                        have HR2 := Lib.hid hr2
                        have HD := Lib.hid (show ∀ l : Nat, l < m + 1 → ∀ j, j < n → 0 ≤ opp T (3 * (x : Int) + l) → (opp T (3 * (x : Int) + l)).toNat / 3 = j → 0 ≤ M j from fun l hl j hj h0 h1 => by
                          by_cases e : l = m
                          · subst e
                            rw [HOe.out] at h1
                            subst h1
                            exact hM
                          · exact hdone0.out l (by omega) j hj h0 h1)
                        clear hr2
                        generalize M (p / 3) = mq at *
                        go_wp2
                        go_roundw
                        case rel => exact ⟨m + 1, W, M, by omega, hkW, hWn, by go_num, HW2.out, HR2.out, HI.out, HA.out, HX.out, HD.out, HB2.out⟩
                        case measure => simp [intOf]; omega
                      · have hMd : decide (M (p / 3) < 0) = true := by simpa using hM
                        have hfz := hr2.free (p / 3)
                        have ha : Adj T x (p / 3) := ⟨m, hm3, by rw [HOe.out]; omega, by rw [HOe.out]; rfl⟩
                        have hpush := HI.out.push (List.mem_of_getElem? HX.out) hq ha hM
                        have HIN := Lib.hid hpush
                        have hlen2 := hpush.len
                        have HAN := Lib.hid (show ∀ (d y : Nat), d < k → (W ++ [p / 3])[d]? = some y → ∀ j, j < n → Adj T y j → 0 ≤ upd M (p / 3) c j from fun d y hd hy j hj haj => by
                          rw [List.getElem?_append_left (by omega)] at hy
                          exact HI.out.kept hj (HA.out d y hd hy j hj haj))
                        have HXN := Lib.hid (show (W ++ [p / 3])[k]? = some x from by rw [List.getElem?_append_left (by omega)]; exact HX.out)
                        have HD := Lib.hid (show ∀ l : Nat, l < m + 1 → ∀ j, j < n → 0 ≤ opp T (3 * (x : Int) + l) → (opp T (3 * (x : Int) + l)).toNat / 3 = j → 0 ≤ upd M (p / 3) c j from fun l hl j hj h0 h1 => by
                          by_cases e : l = m
                          · subst e
                            rw [HOe.out] at h1
                            have : j = p / 3 := by rw [← h1]; rfl
                            simp [upd, this]
                          · exact HI.out.kept hj (hdone0.out l (by omega) j hj h0 h1))
                        have hr3 := (hr2.set (p / 3) (.int .i64 (c : Int))).alloc (.cells #[.int .i64 ((p : Int) / 3)] 3)
                        rw [iv_set] at hr3
                        have HR3 := Lib.hid hr3
                        have HW3 := Lib.hid ((ownsRow_setCell_below HW2.out (a := ⟨w.heap.size, p / 3, none⟩) (Nat.lt_succ_self _) (.int .i64 (c : Int))).alloc (.cells #[.int .i64 ((p : Int) / 3)] 3))
                        have HB3 := Lib.hid ((HB2.out.setCell (p := ⟨w.heap.size, p / 3, none⟩) (Nat.le_refl _) (.int .i64 (c : Int))).alloc (by have := HB2.out.size; simp [World.setCell]; omega) (.cells #[.int .i64 ((p : Int) / 3)] 3))
                        clear hr2 hr3 hpush
                        generalize M (p / 3) = mq at *
                        go_wp2_with (at_builtin; refine wpList_append_own _ rfl _ _ 45 rfl (w.heap.size + 1) 3 i0 (.int .i64 0) 1 8 (by kernel_rfl) hi hz0 hz1 hz2 rfl (by decide) _ _ _ rfl HW3.out ⟨y2.heap.size, 0, none⟩ 1 1 [.int .i64 ((p : Int) / 3)] rfl rfl ?c1 ?c2 ?c3 ?c4 ?c5 ?_)
                        case c1 =>
                          intro j u hj
                          match j, hj with
                          | 0, hj =>
                            simp at hj; subst hj
                            have h0 := (RowIs.made (y2.setCell ⟨w.heap.size, p / 3, none⟩ (.int .i64 (c : Int))) 3 [.int .i64 ((p : Int) / 3)]).cell (i := 0) rfl
                            have e0 : (y2.setCell ⟨w.heap.size, p / 3, none⟩ (.int .i64 (c : Int))).heap.size = y2.heap.size := by simp [World.setCell]
                            rw [e0] at h0
                            exact h0
                        case c2 => intro u hu; simp at hu; subst hu; rfl
                        case c3 => unfold maxLen; omega
                        case c4 => omega
                        case c5 => have := HB3.out.size; simp [World.setCell]; omega
                        intro v' y5 hown5 hgrow5 _
                        have HW5 := Lib.hid (show y5.ownsRow (w.heap.size + 1) 3 1 v' (W ++ [p / 3]).length (nv (W ++ [p / 3])) from by
                          rw [nv_snoc, List.length_append]
                          exact hown5)
                        have HR5 := Lib.hid (HR3.out.grown hgrow5 (by simp [Value.ownBlock]; omega))
                        have HB5 := Lib.hid (HB3.out.grown hgrow5 (by have := HB3.out.size; simp [World.setCell]; omega) (by intro k hk; simp [Value.ownBlock] at hk; omega))
                        clear hown5 hgrow5
                        go_wp2
                        go_roundw
                        case rel => exact ⟨m + 1, W ++ [p / 3], upd M (p / 3) c, by omega, by simp; omega, hlen2, by go_num, HW5.out, HR5.out, HIN.out, HAN.out, HXN.out, HD.out, HB5.out⟩
                        case measure => simp [intOf]; omega
                    · have hod : decide (0 ≤ o) = false := by simpa using ho0
                      have HR2 := Lib.hid hr2
                      have HD := Lib.hid (show ∀ l : Nat, l < m + 1 → ∀ j, j < n → 0 ≤ opp T (3 * (x : Int) + l) → (opp T (3 * (x : Int) + l)).toNat / 3 = j → 0 ≤ M j from fun l hl j hj h0 h1 => by
                        by_cases e : l = m
                        · subst e
                          rw [HOe.out] at h0
                          exact absurd h0 ho0
                        · exact hdone0.out l (by omega) j hj h0 h1)
                      clear hr2
                      go_wp2
                      go_roundw
                      case rel => exact ⟨m + 1, W, M, by omega, hkW, hWn, by go_num, HW2.out, HR2.out, HI.out, HA.out, HX.out, HD.out, HB2.out⟩
                      case measure => simp [intOf]; omega
                  · obtain rfl : m = 3 := by omega
                    have HW := Lib.hid hown
                    have HR := Lib.hid hr
                    have HI := Lib.hid hbi
                    have HA := Lib.hid (show ∀ (d x : Nat), d < k + 1 → W[d]? = some x → ∀ j, j < n → Adj T x j → 0 ≤ M j from fun d y hd hy j hj ha => by
                      by_cases e : d = k
                      · subst e
                        obtain rfl := Option.some.inj (hx.symm.trans hy)
                        obtain ⟨l, hl, h0, h1⟩ := ha
                        exact hdone l hl j hj h0 h1
                      · exact hall d y (by omega) hy j hj ha)
                    have HB := Lib.hid hb
                    clear hown hr hbi hall hb hx hdone hcx
                    go_wp2
                    go_roundw
                    case rel => exact ⟨k + 1, W, M, by omega, hWn, by go_num, HW.out, HR.out, HI.out, HA.out, HB.out⟩
                    case measure => simp [intOf]; omega
              · obtain rfl : k = W.length := by omega
                have HS1 := Lib.hid (hbi.stop HO0.out hfn HS.out fun x hx j hj ha => by
                  obtain ⟨d, hd⟩ := List.mem_iff_getElem?.1 hx
                  exact hall d x (List.getElem?_eq_some_iff.1 hd).1 hd j hj ha)
                have HR := Lib.hid hr
                have HB := Lib.hid hb
                have hcf := HO0.out.cle
                clear hown hr hbi hall hb
                go_wp2
                go_roundw
                case rel => exact ⟨f + 1, c + 1, M, by omega, by omega, by go_num, by go_num, HR.out, HS1.out, HB.out⟩
                case measure => simp [intOf]; omega
        · obtain rfl : n = f := by omega
          have HR := Lib.hid hr
          have HB := Lib.hid hb
          have HI := Lib.hid ho.done
          clear hr hb ho
          go_wp2
          go_ret
          exact ⟨w.heap.size, L, rfl, Nat.le_refl _, HR.out, HI.out, HB.out⟩
end Go.Proofs.YtbeefabboabfgaaGreat

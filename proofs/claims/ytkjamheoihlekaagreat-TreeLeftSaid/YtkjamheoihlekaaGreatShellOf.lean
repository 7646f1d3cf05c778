/- shell.Of: of each triangle the number of its shell. The shells' numbers on a surface's table: shell.Of, shell.Count by one list. -/
import Derived.Test.YtkjamheoihlekaaGreatCorner
import Derived.Test.YtkjamheoihlekaaGreatRowl
import Derived.Test.YtkjamheoihlekaaGreatFaceLaw
import Derived.Test.YtkjamheoihlekaaGreatCornerNew
import Derived.Test.YtkjamheoihlekaaGreatSpread
import Derived.Test.YtkjamheoihlekaaGreatTogether
namespace Go.Proofs.YtkjamheoihlekaaGreat
set_option linter.unusedVariables false
set_option linter.unusedSimpArgs false
open Go.RowKit Go.Maps
open Go.RowKit
/-- From one triangle across an edge to another. -/
def Adj (T : List Tr) (i j : Nat) : Prop := ∃ k : Nat, k < 3 ∧ 0 ≤ opp T (3 * (i : Int) + k) ∧ (opp T (3 * (i : Int) + k)).toNat / 3 = j
set_option maxRecDepth 100000 in
set_option maxHeartbeats 1000000 in
theorem of_any (w : World) (b : Nat) (N : Int) (T : List Tr) (h : Tab w b N T) (hsym : ∀ i j, i < T.length → j < T.length → Adj T i j → Adj T j i) (hopp : ∀ c : Int, 0 ≤ c → c < 3 * T.length → opp T c < 3 * T.length) :
    Calls Tryz.prog 72 #[.pointer (some ⟨b, 0, none⟩)] w fun e w' => ∃ g L, e = .returned (.slice (some ⟨g, 0, none⟩) T.length T.length) ∧ w.heap.size ≤ g ∧ RowIs w' g 3 (iv L T.length) ∧ IsShells (Adj T) T.length L ∧ Below w.heap.size w w' := by
  obtain ⟨i0, hi, hz0, hz1, hz2⟩ := info_parts info3
  have H := Lib.hid h
  have hlen := h.len
  obtain ⟨n, hn⟩ : ∃ n, n = T.length := ⟨_, rfl⟩
  rw [← hn] at hsym hopp hlen ⊢
  have HN := Lib.hid hn
  have HS := Lib.hid hsym
  have HO := Lib.hid hopp
  clear h hn hsym hopp
  go_enter Tryz.func72, Tryz.ntmps72
  go_wp2_with fail
  refine (triangles_any _ _ _ _ H.out.s).mono ?_
  rintro e w1 ⟨rfl, rfl⟩
  rw [← HN.out]
  go_wp2_with (at_make; refine wpList_make_full _ rfl _ _ _ rfl w.heap.size 3 i0 (.int .i64 0) 1 (by kernel_rfl) hi hz0 hz1 _ _ _ _ n rfl rfl rfl rfl (by rw [hz2]; omega) (by unfold maxLen; omega) (Nat.le_refl _) ?_)
  intro w1 hown hgrow
  rw [madeCells_iv] at hown
  have hrow := RowIs.of_owns hown
  have hb1 : Below w.heap.size w w1 := (Below.refl _ _).grown hgrow (Nat.le_refl _) (by simp)
  clear hown hgrow
  go_wp2
  go_loopw [16, 4] (fun i _ wr => ∃ k : Nat, k ≤ n ∧ i = .int .i64 k ∧ RowIs wr w.heap.size 3 (iv (fun j => if j < k then -1 else 0) n) ∧ Below w.heap.size w wr) (fun i _ _ => n - (intOf i).toNat)
  case atStart => exact ⟨0, Nat.zero_le _, rfl, by simpa using hrow, hb1⟩
  case round =>
    obtain ⟨k, hk, rfl, hr, hb⟩ := hrel
    clear hb1 hrow
    by_cases hlt : k < n
    · have hc := hr.cell (iv_get _ hlt)
      have hf := hr.free k
      have hb' : Below w.heap.size w (wr.setCell ⟨w.heap.size, k, none⟩ (.int .i64 (-1))) := hb.setCell (Nat.le_refl _) _
      have hr' := hr.set k (.int .i64 (-1))
      rw [iv_set, iv_congr (h := fun j => if j < k + 1 then -1 else 0) (fun i _ => by unfold upd; by_cases e : i = k <;> simp [e]; by_cases q : i < k <;> simp [q] <;> omega)] at hr'
      have HR := Lib.hid hr'
      have HB := Lib.hid hb'
      clear hr' hb' hr hb
      go_wp2
      go_roundw
      case rel => exact ⟨k + 1, by omega, by go_num, HR.out, HB.out⟩
      case measure => simp [intOf]; omega
    · obtain rfl : n = k := by omega
      rw [iv_congr (h := fun _ => -1) (fun i hi => by simp [hi])] at hr
      clear hz0 hz1 hz2 hi i0
      obtain ⟨i0, hi, hz0, hz1, hz2⟩ := info_parts info3
      have HR := Lib.hid hr
      have HB := Lib.hid hb
      clear hr hb hlt
      go_wp2
      go_loopw [25, 5] (fun i m ws => ∃ (f c : Nat) (L : Nat → Int), f ≤ n ∧ c ≤ n ∧ i = .int .i64 f ∧ m = .int .i64 c ∧ RowIs ws w.heap.size 3 (iv L n) ∧ OInv (Adj T) n f c L ∧ Below w.heap.size w ws) (fun i _ _ => n - (intOf i).toNat)
      case atStart => exact ⟨0, 0, fun _ => -1, by omega, by omega, rfl, rfl, HR.out, OInv.start _ _, HB.out⟩
      case round =>
        obtain ⟨f, c, L, hf, hc, rfl, rfl, hr, ho, hb⟩ := hrel
        clear HR HB
        by_cases hfn : f < n
        · have hcell := hr.cell (iv_get L hfn)
          by_cases hL : 0 ≤ L f
          · have HR := Lib.hid hr
            have HB := Lib.hid hb
            have HI := Lib.hid (ho.skip hL)
            clear hr hb ho
            generalize L f = lf at *
            go_wp2
            go_roundw
            case rel => exact ⟨f + 1, c, L, by omega, hc, by go_num, rfl, HR.out, HI.out, HB.out⟩
            case measure => simp [intOf]; omega
          · have hL2 : (decide (L f ≥ 0)) = false := by simpa using hL
            have hbs := BInv.start ho hfn hL
            have hfz := hr.free f
            have HO0 := Lib.hid ho
            have hr1 := hr.set f (.int .i64 (c : Int))
            rw [iv_set] at hr1
            have hb1 : Below w.heap.size w (wr.setCell ⟨w.heap.size, f, none⟩ (.int .i64 (c : Int))) := hb.setCell (Nat.le_refl _) _
            have hsz : (wr.setCell ⟨w.heap.size, f, none⟩ (.int .i64 (c : Int))).heap.size = wr.heap.size := by simp [World.setCell]
            have HR := Lib.hid (hr1.alloc (.cells #[.int .i64 (f : Int)] 3))
            have hw := RowIs.made (wr.setCell ⟨w.heap.size, f, none⟩ (.int .i64 (c : Int))) 3 (nv [f])
            rw [hsz] at hw
            have HW := Lib.hid (hw.owns (base := w.heap.size + 1) (size := 1) (n := 1) (by have := hr.lt; omega) rfl (by decide))
            have HB := Lib.hid (hb1.alloc (by have := hb.size; omega) (.cells #[.int .i64 (f : Int)] 3))
            have HI := Lib.hid hbs
            have hwr := hr.lt
            clear hr ho hb hr1 hw hb1 hbs hL hsz
            generalize L f = lf at *
            go_wp2
            clear hcell hfz hL2
            go_loopw [8, 7] (fun i v xs => ∃ (k : Nat) (W : List Nat) (M : Nat → Int), k ≤ W.length ∧ W.length ≤ n ∧ i = .int .i64 k ∧ xs.ownsRow (w.heap.size + 1) 3 1 v W.length (nv W) ∧ RowIs xs w.heap.size 3 (iv M n) ∧
                BInv (Adj T) n f c L M W ∧ (∀ (d x : Nat), d < k → W[d]? = some x → ∀ j, j < n → Adj T x j → 0 ≤ M j) ∧ Below w.heap.size w xs) (fun i _ _ => n - (intOf i).toNat)
            case atStart => exact ⟨0, [f], upd L f c, by simp, by simp; omega, rfl, HW.out, HR.out, HI.out, fun d x h => by omega, HB.out⟩
            case round =>
              obtain ⟨k, W, M, hk, hWn, rfl, hown, hr, hbi, hall, hb⟩ := hrel
              clear HW HR HI HB hwr
              obtain ⟨gw, cap, rfl, hgb, hgs, hcap, hcm, hwc, hwf⟩ := owns_block hown (List.length_pos_of_mem hbi.fin)
              clear hwc hwf
              by_cases hkW : k < W.length
              · obtain ⟨x, hx⟩ : ∃ x, W[k]? = some x := ⟨_, List.getElem?_eq_getElem hkW⟩
                have HW := Lib.hid hown
                have HR := Lib.hid hr
                have HI := Lib.hid hbi
                have HA := Lib.hid hall
                have HB := Lib.hid hb
                have HX := Lib.hid hx
                have hxn := Lib.hid (hbi.wlt x (List.mem_of_getElem? hx)).1
                clear hown hr hbi hall hb hx
                go_wp2
                go_loopw [45, 7] (fun i v ys => ∃ (m : Nat) (W : List Nat) (M : Nat → Int), m ≤ 3 ∧ k < W.length ∧ W.length ≤ n ∧ i = .int .i64 m ∧ ys.ownsRow (w.heap.size + 1) 3 1 v W.length (nv W) ∧ RowIs ys w.heap.size 3 (iv M n) ∧
                    BInv (Adj T) n f c L M W ∧ (∀ (d x : Nat), d < k → W[d]? = some x → ∀ j, j < n → Adj T x j → 0 ≤ M j) ∧ W[k]? = some x ∧
                    (∀ l : Nat, l < m → ∀ j, j < n → 0 ≤ opp T (3 * (x : Int) + l) → (opp T (3 * (x : Int) + l)).toNat / 3 = j → 0 ≤ M j) ∧ Below w.heap.size w ys) (fun i _ _ => 3 - (intOf i).toNat)
                case atStart => exact ⟨0, W, M, by omega, hkW, hWn, rfl, HW.out, HR.out, HI.out, HA.out, HX.out, fun l h => by omega, HB.out⟩
                case round =>
                  clear HW HR HI HA HB HX
                  obtain ⟨m, W, M, hm, hkW, hWn, rfl, hown, hr, hbi, hall, hx, hdone, hb⟩ := hrel
                  obtain ⟨gy, cap2, rfl, hgb2, hgs2, hcap2, hcm2, hwc, hwf⟩ := owns_block hown (by omega)
                  have hcx := hwc k _ (nv_get hx)
                  clear hwc hwf
                  by_cases hm3 : m < 3
                  · have HT := Lib.hid (H.out.mono (Nat.le_refl _) hb)
                    have hxn' := hxn.out
                    have HN' := Lib.hid HN.out
                    have hdone0 := Lib.hid hdone
                    have HX := Lib.hid hx
                    have HI := Lib.hid hbi
                    have HA := Lib.hid hall
                    have HW := Lib.hid hown
                    have HR := Lib.hid hr
                    have HB := Lib.hid hb
                    have hbase := Nat.lt_of_lt_of_le hr.lt (Nat.le_refl _)
                    clear hown hr hbi hall hb hx hdone
                    go_wp2_with fail
                    refine (opp_any (3 * (x : Int) + m) _ _ _ _ HT.out (by omega) (by rw [← HN'.out]; omega)).mono ?_
                    rintro e y2 ⟨rfl, hb2⟩
                    have ho3 := HO.out (3 * (x : Int) + m) (by omega) (by omega)
                    obtain ⟨o, HOe⟩ : ∃ o, Hid (opp T (3 * (x : Int) + m) = o) := ⟨_, rfl⟩
                    rw [HOe.out] at ho3 ⊢
                    have HW2 := Lib.hid (owns_below HW.out hb2)
                    have hr2 := HR.out.below hb2 hbase
                    have HB2 := Lib.hid (HB.out.trans (hb2.mono HB.out.size))
                    have hsz2 := hb2.size
                    clear HW HR HB hb2 hcx
                    by_cases ho0 : 0 ≤ o
                    · obtain ⟨p, rfl⟩ := Int.eq_ofNat_of_zero_le ho0
                      have hq : p / 3 < n := by omega
                      have hcq := hr2.cell (iv_get M hq)
                      by_cases hM : 0 ≤ M (p / 3)
                      · have hMd : decide (M (p / 3) < 0) = false := by simpa using hM
                        have HR2 := Lib.hid hr2
                        have HD := Lib.hid (show ∀ l : Nat, l < m + 1 → ∀ j, j < n → 0 ≤ opp T (3 * (x : Int) + l) → (opp T (3 * (x : Int) + l)).toNat / 3 = j → 0 ≤ M j from fun l hl j hj h0 h1 => by
                          by_cases e : l = m
                          · subst e
                            rw [HOe.out] at h1
                            subst h1
                            exact hM
                          · exact hdone0.out l (by omega) j hj h0 h1)
                        clear hr2
                        generalize M (p / 3) = mq at *
                        go_wp2
                        go_roundw
                        case rel => exact ⟨m + 1, W, M, by omega, hkW, hWn, by go_num, HW2.out, HR2.out, HI.out, HA.out, HX.out, HD.out, HB2.out⟩
                        case measure => simp [intOf]; omega
                      · have hMd : decide (M (p / 3) < 0) = true := by simpa using hM
                        have hfz := hr2.free (p / 3)
                        have ha : Adj T x (p / 3) := ⟨m, hm3, by rw [HOe.out]; omega, by rw [HOe.out]; rfl⟩
                        have hpush := HI.out.push (List.mem_of_getElem? HX.out) hq ha hM
                        have HIN := Lib.hid hpush
                        have hlen2 := hpush.len
                        have HAN := Lib.hid (show ∀ (d y : Nat), d < k → (W ++ [p / 3])[d]? = some y → ∀ j, j < n → Adj T y j → 0 ≤ upd M (p / 3) c j from fun d y hd hy j hj haj => by
                          rw [List.getElem?_append_left (by omega)] at hy
                          exact HI.out.kept hj (HA.out d y hd hy j hj haj))
                        have HXN := Lib.hid (show (W ++ [p / 3])[k]? = some x from by rw [List.getElem?_append_left (by omega)]; exact HX.out)
                        have HD := Lib.hid (show ∀ l : Nat, l < m + 1 → ∀ j, j < n → 0 ≤ opp T (3 * (x : Int) + l) → (opp T (3 * (x : Int) + l)).toNat / 3 = j → 0 ≤ upd M (p / 3) c j from fun l hl j hj h0 h1 => by
                          by_cases e : l = m
                          · subst e
                            rw [HOe.out] at h1
                            have : j = p / 3 := by rw [← h1]; rfl
                            simp [upd, this]
                          · exact HI.out.kept hj (hdone0.out l (by omega) j hj h0 h1))
                        have hr3 := (hr2.set (p / 3) (.int .i64 (c : Int))).alloc (.cells #[.int .i64 ((p : Int) / 3)] 3)
                        rw [iv_set] at hr3
                        have HR3 := Lib.hid hr3
                        have HW3 := Lib.hid ((ownsRow_setCell_below HW2.out (a := ⟨w.heap.size, p / 3, none⟩) (Nat.lt_succ_self _) (.int .i64 (c : Int))).alloc (.cells #[.int .i64 ((p : Int) / 3)] 3))
                        have HB3 := Lib.hid ((HB2.out.setCell (p := ⟨w.heap.size, p / 3, none⟩) (Nat.le_refl _) (.int .i64 (c : Int))).alloc (by have := HB2.out.size; simp [World.setCell]; omega) (.cells #[.int .i64 ((p : Int) / 3)] 3))
                        clear hr2 hr3 hpush
                        generalize M (p / 3) = mq at *
                        go_wp2_with (at_builtin; refine wpList_append_own _ rfl _ _ 28 rfl (w.heap.size + 1) 3 i0 (.int .i64 0) 1 8 (by kernel_rfl) hi hz0 hz1 hz2 rfl (by decide) _ _ _ rfl HW3.out ⟨y2.heap.size, 0, none⟩ 1 1 [.int .i64 ((p : Int) / 3)] rfl rfl ?c1 ?c2 ?c3 ?c4 ?c5 ?_)
                        case c1 =>
                          intro j u hj
                          match j, hj with
                          | 0, hj =>
                            simp at hj; subst hj
                            have h0 := (RowIs.made (y2.setCell ⟨w.heap.size, p / 3, none⟩ (.int .i64 (c : Int))) 3 [.int .i64 ((p : Int) / 3)]).cell (i := 0) rfl
                            have e0 : (y2.setCell ⟨w.heap.size, p / 3, none⟩ (.int .i64 (c : Int))).heap.size = y2.heap.size := by simp [World.setCell]
                            rw [e0] at h0
                            exact h0
                        case c2 => intro u hu; simp at hu; subst hu; rfl
                        case c3 => unfold maxLen; omega
                        case c4 => omega
                        case c5 => have := HB3.out.size; simp [World.setCell]; omega
                        intro v' y5 hown5 hgrow5 _
                        have HW5 := Lib.hid (show y5.ownsRow (w.heap.size + 1) 3 1 v' (W ++ [p / 3]).length (nv (W ++ [p / 3])) from by
                          rw [nv_snoc, List.length_append]
                          exact hown5)
                        have HR5 := Lib.hid (HR3.out.grown hgrow5 (by simp [Value.ownBlock]; omega))
                        have HB5 := Lib.hid (HB3.out.grown hgrow5 (by have := HB3.out.size; simp [World.setCell]; omega) (by intro k hk; simp [Value.ownBlock] at hk; omega))
                        clear hown5 hgrow5
                        go_wp2
                        go_roundw
                        case rel => exact ⟨m + 1, W ++ [p / 3], upd M (p / 3) c, by omega, by simp; omega, hlen2, by go_num, HW5.out, HR5.out, HIN.out, HAN.out, HXN.out, HD.out, HB5.out⟩
                        case measure => simp [intOf]; omega
                    · have hod : decide (0 ≤ o) = false := by simpa using ho0
                      have HR2 := Lib.hid hr2
                      have HD := Lib.hid (show ∀ l : Nat, l < m + 1 → ∀ j, j < n → 0 ≤ opp T (3 * (x : Int) + l) → (opp T (3 * (x : Int) + l)).toNat / 3 = j → 0 ≤ M j from fun l hl j hj h0 h1 => by
                        by_cases e : l = m
                        · subst e
                          rw [HOe.out] at h0
                          exact absurd h0 ho0
                        · exact hdone0.out l (by omega) j hj h0 h1)
                      clear hr2
                      go_wp2
                      go_roundw
                      case rel => exact ⟨m + 1, W, M, by omega, hkW, hWn, by go_num, HW2.out, HR2.out, HI.out, HA.out, HX.out, HD.out, HB2.out⟩
                      case measure => simp [intOf]; omega
                  · obtain rfl : m = 3 := by omega
                    have HW := Lib.hid hown
                    have HR := Lib.hid hr
                    have HI := Lib.hid hbi
                    have HA := Lib.hid (show ∀ (d x : Nat), d < k + 1 → W[d]? = some x → ∀ j, j < n → Adj T x j → 0 ≤ M j from fun d y hd hy j hj ha => by
                      by_cases e : d = k
                      · subst e
                        obtain rfl := Option.some.inj (hx.symm.trans hy)
                        obtain ⟨l, hl, h0, h1⟩ := ha
                        exact hdone l hl j hj h0 h1
                      · exact hall d y (by omega) hy j hj ha)
                    have HB := Lib.hid hb
                    clear hown hr hbi hall hb hx hdone hcx
                    go_wp2
                    go_roundw
                    case rel => exact ⟨k + 1, W, M, by omega, hWn, by go_num, HW.out, HR.out, HI.out, HA.out, HB.out⟩
                    case measure => simp [intOf]; omega
              · obtain rfl : k = W.length := by omega
                have HS1 := Lib.hid (hbi.stop HO0.out hfn HS.out fun x hx j hj ha => by
                  obtain ⟨d, hd⟩ := List.mem_iff_getElem?.1 hx
                  exact hall d x (List.getElem?_eq_some_iff.1 hd).1 hd j hj ha)
                have HR := Lib.hid hr
                have HB := Lib.hid hb
                have hcf := HO0.out.cle
                clear hown hr hbi hall hb
                go_wp2
                go_roundw
                case rel => exact ⟨f + 1, c + 1, M, by omega, by omega, by go_num, by go_num, HR.out, HS1.out, HB.out⟩
                case measure => simp [intOf]; omega
        · obtain rfl : n = f := by omega
          have HR := Lib.hid hr
          have HB := Lib.hid hb
          have HI := Lib.hid ho.done
          clear hr hb ho
          go_wp2
          go_ret
          exact ⟨w.heap.size, L, rfl, Nat.le_refl _, HR.out, HI.out, HB.out⟩
def nbP (t u : Tr) (i k : Nat) : Bool := tg t i == tg u ((k + 1) % 3) && tg t ((i + 1) % 3) == tg u k
def nbB (t u : Tr) : Bool := (List.range 3).any fun i => (List.range 3).any fun k => nbP t u i k
theorem nbB_no {t u : Tr} (h : ∀ i k, i < 3 → k < 3 → nbP t u i k = false) : nbB t u = false := by
  unfold nbB
  simp only [List.any_eq_false, List.mem_range, Bool.not_eq_true]
  exact fun i hi k hk => h i k hi hk
theorem nbB_yes {t u : Tr} {i k : Nat} (hi : i < 3) (hk : k < 3) (h : nbP t u i k = true) : nbB t u = true := by
  unfold nbB
  simp only [List.any_eq_true, List.mem_range]
  exact ⟨i, hi, k, hk, h⟩
/-- Two triangles of a list are neighbours. -/
def NbA (T : List Tr) (i j : Nat) : Prop := i < T.length ∧ j < T.length ∧ nbB (T! T i) (T! T j) = true
theorem nbB_iff {t u : Tr} : nbB t u = true ↔ ∃ i k, i < 3 ∧ k < 3 ∧ tg t i = tg u ((k + 1) % 3) ∧ tg t ((i + 1) % 3) = tg u k := by
  constructor
  · intro h
    unfold nbB at h
    simp only [List.any_eq_true, List.mem_range, nbP, Bool.and_eq_true, beq_iff_eq] at h
    obtain ⟨i, hi, k, hk, h1, h2⟩ := h
    exact ⟨i, k, hi, hk, h1, h2⟩
  · rintro ⟨i, k, hi, hk, h1, h2⟩
    exact nbB_yes hi hk (by simp [nbP, h1, h2])
theorem nbB_symm {t u : Tr} (h : nbB t u = true) : nbB u t = true := by
  obtain ⟨i, k, hi, hk, h1, h2⟩ := nbB_iff.1 h
  exact nbB_iff.2 ⟨k, i, hk, hi, h2.symm, h1.symm⟩
theorem NbA.symm {T : List Tr} {i j : Nat} (h : NbA T i j) : NbA T j i := ⟨h.2.1, h.1, nbB_symm h.2.2⟩
theorem hasB_tg {t : Tr} {x : Int} (h : hasB t x = true) : ∃ j, tg t j = x := by
  simp only [hasB, Bool.or_eq_true, beq_iff_eq] at h
  rcases h with (h | h) | h
  · exact ⟨0, h⟩
  · exact ⟨1, h⟩
  · exact ⟨2, h⟩
theorem Surf.adj_nb {N : Int} {T : List Tr} (hs : Surf N T) {i j : Nat} (h : Adj T i j) : NbA T i j := by
  obtain ⟨k, hk, h0, e⟩ := h
  rw [opp_tri T i k hk] at h0 e
  obtain ⟨d, e1, hd, he⟩ := facing_some h0
  rw [e1] at e
  have hdj : d / 3 = j := by simpa using e
  rw [edge_of_nat, hdj] at he
  simp only [Prod.mk.injEq] at he
  have hj : j < T.length := by omega
  refine ⟨?_, hj, nbB_iff.2 ⟨(k + 1) % 3, (d % 3 + 1) % 3, by omega, by omega, ?_, ?_⟩⟩
  · by_cases hi : i < T.length
    · exact hi
    · have hT : T! T i = (0, 0, 0) := by simp [T!, List.getD_eq_getElem?_getD, List.getElem?_eq_none (Nat.le_of_not_lt hi)]
      rw [hT] at he
      have hz : ∀ m, tg ((0, 0, 0) : Tr) m = 0 := fun m => by
        match m with
        | 0 => rfl
        | 1 => rfl
        | _ + 2 => rfl
      rw [hz, hz] at he
      have := tg_ne (hs.noloop j hj) (l := (d % 3 + 1) % 3) (j := (d % 3 + 2) % 3) (by omega) (by omega) (he.1.trans he.2.symm)
      omega
  · rw [show ((d % 3 + 1) % 3 + 1) % 3 = (d % 3 + 2) % 3 by omega]
    exact he.2.symm
  · rw [show ((k + 1) % 3 + 1) % 3 = (k + 2) % 3 by omega]
    exact he.1.symm
theorem Surf.nb_adj {N : Int} {T : List Tr} (hs : Surf N T) {i j : Nat} (h : NbA T i j) : Adj T i j := by
  obtain ⟨hi, hj, h⟩ := h
  obtain ⟨p, q, hp, hq, e1, e2⟩ := nbB_iff.1 h
  have hed : edgeAt T ((3 * j + (q + 2) % 3 : Nat) : Int) = (tg (T! T i) (((p + 2) % 3 + 2) % 3), tg (T! T i) (((p + 2) % 3 + 1) % 3)) := by
    rw [edge_of_nat, show (3 * j + (q + 2) % 3) / 3 = j by omega, show ((3 * j + (q + 2) % 3) % 3 + 1) % 3 = q by omega, show ((3 * j + (q + 2) % 3) % 3 + 2) % 3 = (q + 1) % 3 by omega,
      show ((p + 2) % 3 + 2) % 3 = (p + 1) % 3 by omega, show ((p + 2) % 3 + 1) % 3 = p by omega, e1, e2]
  have h0 := facing_of (T := T) (c := 3 * j + (q + 2) % 3) (by omega) hed
  refine ⟨(p + 2) % 3, by omega, ?_, ?_⟩
  · rw [opp_tri T i _ (by omega)]; exact h0
  · rw [opp_tri T i _ (by omega)]
    obtain ⟨d, e3, hd, he⟩ := facing_some h0
    rw [e3, Int.toNat_natCast]
    rw [← hed, edge_of_nat, edge_of_nat] at he
    simp only [Prod.mk.injEq] at he
    have := hs.edge_one (i := d / 3) (i' := (3 * j + (q + 2) % 3) / 3) (p := (d % 3 + 1) % 3) (q := ((3 * j + (q + 2) % 3) % 3 + 1) % 3) (by omega) (by omega) (by omega) (by omega) he.1
      (by rw [show ((d % 3 + 1) % 3 + 1) % 3 = (d % 3 + 2) % 3 by omega, show (((3 * j + (q + 2) % 3) % 3 + 1) % 3 + 1) % 3 = ((3 * j + (q + 2) % 3) % 3 + 2) % 3 by omega]; exact he.2)
    omega
theorem Surf.adj_symm {N : Int} {T : List Tr} (hs : Surf N T) {i j : Nat} (h : Adj T i j) : Adj T j i := hs.nb_adj (hs.adj_nb h).symm
theorem Surf.shells_one {N : Int} {T : List Tr} (hs : Surf N T) {L M : Nat → Int} (hL : IsShells (Adj T) T.length L) (hM : IsShells (Adj T) T.length M) : ∀ i, i < T.length → L i = M i :=
  hL.same hM (fun i j hi hj h => hM.clo i j hi hj h) (fun i j hi hj h => hL.clo i j hi hj h) (fun i j _ h => (hs.adj_nb h).2.1) (fun i j _ h => (hs.adj_nb h).1) (fun i j _ h => (hs.adj_nb h).2.1) (fun i j _ h => (hs.adj_nb h).1)
/-- Triangles at a vertex that have another vertex in common are one, or neighbours. -/
theorem Surf.padj {N : Int} {T : List Tr} (hs : Surf N T) {v : Int} {i k : Nat} (h : PAdj T v i k) : i = k ∨ NbA T i k := by
  obtain ⟨hi, hk, h1, h2, j, hj, hne, h3⟩ := h
  obtain ⟨p, hp, e1⟩ := hasB_iff.1 h1
  obtain ⟨p', hp', e2⟩ := hasB_iff.1 h2
  obtain ⟨j', hj', e3⟩ := hasB_iff.1 h3
  have hpj : p ≠ j := fun e => hne (by rw [← e]; exact e1)
  have hpj' : p' ≠ j' := fun e => hne (by rw [← e3, ← e]; exact e2)
  have hd : j = (p + 1) % 3 ∨ p = (j + 1) % 3 := by omega
  have hd' : j' = (p' + 1) % 3 ∨ p' = (j' + 1) % 3 := by omega
  rcases hd with hd | hd <;> rcases hd' with hd' | hd'
  · exact .inl (hs.edge_one hi hk hp hp' (e1.trans e2.symm) (by rw [← hd, ← hd']; exact e3.symm)).1
  · exact .inr ⟨hi, hk, nbB_iff.2 ⟨p, j', hp, hj', by rw [← hd']; exact e1.trans e2.symm, by rw [← hd]; exact e3.symm⟩⟩
  · exact .inr ⟨hi, hk, nbB_iff.2 ⟨j, p', hj, hp', by rw [← hd']; exact e3.symm, by rw [← hd]; exact e1.trans e2.symm⟩⟩
  · exact .inl (hs.edge_one hi hk hj hj' e3.symm (by rw [← hd, ← hd']; exact e1.trans e2.symm)).1
/-- Triangles with a vertex in common are of one shell. -/
theorem Surf.at_vertex {N : Int} {T : List Tr} (hs : Surf N T) {L : Nat → Int} (hL : IsShells (Adj T) T.length L) {v : Int} {i k : Nat} (hi : i < T.length) (hk : k < T.length) (h1 : hasB (T! T i) v = true) (h2 : hasB (T! T k) v = true) : L i = L k := by
  obtain ⟨j, e⟩ := hasB_tg h1
  have hv := hs.vin i hi j
  rw [e] at hv
  have hc := hs.pin v hv.1 hv.2 i k hi hk h1 h2
  have step : ∀ a b, PAdj T v a b → L a = L b := fun a b h => by
    rcases hs.padj h with rfl | h'
    · rfl
    · exact (hL.clo a b h.1 h.2.1 (hs.nb_adj h')).symm
  have gen : ∀ a b, Conn (PAdj T v) a b → L a = L b := by
    intro a b c
    induction c with
    | refl => rfl
    | step _ s ih => exact ih.trans (step _ _ s)
    | back _ s ih => exact ih.trans (step _ _ s).symm
  exact gen i k hc
/-- One more than the greatest of n numbers; 0: there is none. -/
def cnt (L : Nat → Int) : Nat → Int
  | 0 => 0
  | k + 1 => max (cnt L k) (L k + 1)
theorem cnt_nonneg (L : Nat → Int) : ∀ n, 0 ≤ cnt L n
  | 0 => Int.le_refl _
  | k + 1 => by have := cnt_nonneg L k; unfold cnt; omega
theorem cnt_lt (L : Nat → Int) : ∀ n i, i < n → L i < cnt L n
  | 0, i, h => by omega
  | k + 1, i, h => by
    unfold cnt
    by_cases e : i = k
    · subst e; omega
    · have := cnt_lt L k i (by omega); omega
theorem cnt_has (L : Nat → Int) : ∀ n, 0 < cnt L n → ∃ i, i < n ∧ cnt L n = L i + 1
  | 0, h => by simp [cnt] at h
  | k + 1, h => by
    unfold cnt at h ⊢
    by_cases e : cnt L k ≤ L k + 1
    · exact ⟨k, by omega, by omega⟩
    · obtain ⟨i, hi, e'⟩ := cnt_has L k (by omega)
      exact ⟨i, by omega, by omega⟩
theorem cnt_congr {L M : Nat → Int} : ∀ n, (∀ i, i < n → L i = M i) → cnt L n = cnt M n
  | 0, _ => rfl
  | k + 1, h => by unfold cnt; rw [cnt_congr k fun i hi => h i (by omega), h k (by omega)]
theorem IsShells.le {A : Nat → Nat → Prop} {n : Nat} {L : Nat → Int} (h : IsShells A n L) : ∀ i, i < n → L i ≤ i := by
  intro i
  induction i using Nat.strongRecOn with
  | _ i ih =>
    intro hi
    by_cases e : L i ≤ 0
    · omega
    · obtain ⟨j, hj, ej⟩ := h.rg i hi (L i - 1) (by omega) (by omega)
      have := ih j hj (by omega)
      omega
theorem IsShells.cnt_le {A : Nat → Nat → Prop} {n : Nat} {L : Nat → Int} (h : IsShells A n L) : cnt L n ≤ n := by
  by_cases e : 0 < cnt L n
  · obtain ⟨i, hi, e'⟩ := cnt_has L n e
    have := h.le i hi
    omega
  · omega
set_option maxRecDepth 100000 in
set_option maxHeartbeats 1000000 in
theorem count_any (w : World) (b : Nat) (N : Int) (T : List Tr) (h : Tab w b N T) (hsym : ∀ i j, i < T.length → j < T.length → Adj T i j → Adj T j i) (hopp : ∀ c : Int, 0 ≤ c → c < 3 * T.length → opp T c < 3 * T.length) :
    Calls Tryz.prog 70 #[.pointer (some ⟨b, 0, none⟩)] w fun e w' => ∃ L, e = .returned (.int .i64 (cnt L T.length)) ∧ IsShells (Adj T) T.length L ∧ Below w.heap.size w w' := by
  have HO := Lib.hid (of_any w b N T h hsym hopp)
  have hlen := h.len
  clear h hsym hopp
  obtain ⟨n, hn⟩ : ∃ n, n = T.length := ⟨_, rfl⟩
  rw [← hn] at HO hlen ⊢
  clear hn
  go_enter Tryz.func70, Tryz.ntmps70
  go_wp2_with fail
  refine HO.out.mono ?_
  rintro e w1 ⟨g, L, rfl, hg, hrow, hsh, hb⟩
  have HL := Lib.hid (fun i (hi : i < n) => hsh.le i hi)
  have HL0 := Lib.hid (fun i (hi : i < n) => hsh.nonneg i hi)
  have HSH := Lib.hid hsh
  have HC := Lib.hid (cnt_nonneg L)
  have HR := Lib.hid hrow
  have HB := Lib.hid hb
  clear hsh hrow hb HO
  go_wp2
  go_loopw [9, 3] (fun i v ws => ∃ k : Nat, k ≤ n ∧ i = .int .i64 k ∧ v = .int .i64 (cnt L k) ∧ cnt L k ≤ k ∧ ws = w1) (fun i _ _ => n - (intOf i).toNat)
  case atStart => exact ⟨0, by omega, rfl, rfl, by simp [cnt], rfl⟩
  case round =>
    obtain ⟨k, hk, rfl, rfl, hc, rfl⟩ := hrel
    obtain ⟨W1, rfl⟩ : ∃ W1 : World, W1 = wr := ⟨_, rfl⟩
    by_cases hlt : k < n
    · have c0 := HR.out.cell (iv_get L hlt)
      have h0 := HL.out k hlt
      have h1 := HL0.out k hlt
      have h2 := HC.out k
      have HK := Lib.hid (show cnt L (k + 1) = max (cnt L k) (L k + 1) from rfl)
      generalize L k = l at *
      generalize cnt L k = m at *
      by_cases hm : m ≤ l + 1
      · go_wp2
        go_roundw
        case rel => exact ⟨k + 1, by omega, by go_num, by rw [HK.out], by rw [HK.out]; omega, by trivial⟩
        case measure => simp [intOf]; omega
      · go_wp2
        go_roundw
        case rel => exact ⟨k + 1, by omega, by go_num, by rw [HK.out], by rw [HK.out]; omega, by trivial⟩
        case measure => simp [intOf]; omega
    · obtain rfl : k = n := by omega
      go_wp2
      exact bodyPost_ret (v := .int .i64 (cnt L k)) (by simp [results, Tryz.results70, go_sem]) rfl ⟨L, rfl, HSH.out, HB.out⟩
theorem shells_exist (A : Nat → Nat → Prop) (n : Nat) : ∃ L, IsShells A n L := by
  have hr : ∃ φ : Nat → Nat, Rep A n φ := by
    refine ⟨fun i => Classical.choose (least_of A i), fun i hi => ?_, fun i j hi hj c => ?_⟩
    · obtain ⟨h1, h2⟩ := Classical.choose_spec (least_of A i)
      exact ⟨h1 i h2, h2⟩
    · obtain ⟨h1, h2⟩ := Classical.choose_spec (least_of A i)
      obtain ⟨g1, g2⟩ := Classical.choose_spec (least_of A j)
      have q1 := h1 _ (h2.trans (c.trans g2.symm))
      have q2 := g1 _ (g2.trans (c.symm.trans h2.symm))
      show Classical.choose (least_of A i) = Classical.choose (least_of A j)
      omega
  obtain ⟨φ, hφ⟩ := hr
  have h : ∀ i, i ≤ n → ∃ c M, NInv φ i c M := by
    intro i
    induction i with
    | zero => exact fun _ => ⟨0, fun _ => 0, NInv.start _ _⟩
    | succ i ih =>
      intro hi
      obtain ⟨c, M, h⟩ := ih (by omega)
      by_cases e : φ i = i
      · exact ⟨_, _, h.fresh hφ (by omega) e⟩
      · exact ⟨_, _, (h.same hφ (by omega) e).2⟩
  obtain ⟨c, M, h⟩ := h n (Nat.le_refl _)
  exact ⟨M, h.done hφ⟩
section
variable {N : Int} {T : List Tr} {L : Nat → Int} {m : Nat}
theorem of_L (hs : Surf N T) (hL : IsShells (Adj T) T.length L) (w : World) (p : Nat) (h : Tab w p N T) :
    Calls Tryz.prog 72 #[.pointer (some ⟨p, 0, none⟩)] w fun e w' => ∃ g, e = .returned (.slice (some ⟨g, 0, none⟩) T.length T.length) ∧ w.heap.size ≤ g ∧ RowIs w' g 3 (iv L T.length) ∧ Below w.heap.size w w' :=
  (of_any w p N T h (fun i j _ _ h => hs.adj_symm h) (fun c h0 h1 => opp_lt c h0 h1)).mono fun e w' ⟨g, M, he, hg, hr, hM, hb⟩ => ⟨g, he, hg, by rw [iv_congr (hs.shells_one hL hM)]; exact hr, hb⟩
theorem count_L (hs : Surf N T) (hL : IsShells (Adj T) T.length L) (hm : (m : Int) = cnt L T.length) (w : World) (p : Nat) (h : Tab w p N T) :
    Calls Tryz.prog 70 #[.pointer (some ⟨p, 0, none⟩)] w fun e w' => e = .returned (.int .i64 (m : Int)) ∧ Below w.heap.size w w' :=
  (count_any w p N T h (fun i j _ _ h => hs.adj_symm h) (fun c h0 h1 => opp_lt c h0 h1)).mono fun e w' ⟨M, he, hM, hb⟩ => ⟨by rw [he, hm, cnt_congr _ (hs.shells_one hL hM)], hb⟩
end
end Go.Proofs.YtkjamheoihlekaaGreat

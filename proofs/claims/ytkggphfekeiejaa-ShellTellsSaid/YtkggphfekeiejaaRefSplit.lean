/- gypsumref13.Split: the shells of a surface by the reference. -/
import Derived.Test.YtkggphfekeiejaaRefOf
import Derived.Test.YtkggphfekeiejaaPartRef
import Derived.Test.YtkggphfekeiejaaSplit
import Derived.Deep.RegionHeldLaw
namespace Go.Proofs.Ytkggphfekeiejaa
set_option linter.unusedVariables false
set_option linter.unusedSimpArgs false
open Go.RowKit
theorem info41 : (Try.prog.info? 41).map (fun i => (i.zero, i.size, i.bytes)) = some (some (.agg #[.int .i64 0, .slice none 0 0, .slice none 0 0, .slice none 0 0]), 4, 80) := by kernel_rfl
theorem pc_snoc (f : Nat → Nat → Value) (m : Nat) : pc f (m + 1) = pc f m ++ [f m 0, f m 1, f m 2, f m 3] := by
  apply List.ext_getElem
  · simp [pc]; omega
  · intro i h1 h2
    simp only [pc, List.length_map, List.length_range, List.length_append] at h1 h2
    by_cases h : i < m * 4
    · rw [List.getElem_append_left (by simpa [pc] using h)]
      simp [pc]
    · rw [List.getElem_append_right (by simpa [pc] using h)]
      have h4 : i - m * 4 = 0 ∨ i - m * 4 = 1 ∨ i - m * 4 = 2 ∨ i - m * 4 = 3 := by omega
      have hd : i / 4 = m := by omega
      have hm : i % 4 = i - m * 4 := by omega
      rcases h4 with q | q | q | q <;> simp [pc, hd, hm, q]
theorem pc_congr {f g : Nat → Nat → Value} {m : Nat} (h : ∀ k c, k < m → f k c = g k c) : pc f m = pc g m := by
  refine List.map_congr_left fun i hi => h _ _ ?_
  have := List.mem_range.1 hi
  omega
def psnoc (f : Nat → Nat → Value) (m : Nat) (r : Nat → Value) : Nat → Nat → Value := fun k => if k = m then r else f k
theorem pc_psnoc (f : Nat → Nat → Value) (m : Nat) (r : Nat → Value) : pc (psnoc f m r) (m + 1) = pc f m ++ [r 0, r 1, r 2, r 3] := by
  rw [pc_snoc, pc_congr (g := f) (fun k c hk => by simp [psnoc, show k ≠ m by omega])]
  simp [psnoc]
def r4 (a b c d : Value) : Nat → Value
  | 0 => a
  | 1 => b
  | 2 => c
  | _ => d
/-- A row of a part is appended to, and laid back. -/
theorem back4 {W X w1 : World} {pb c B n : Nat} {row : List Value} {v v' : Value} {t e : TypeId} {sz : Nat} {xs : List Value} (hX : But B pb W X) (hB : B ≤ X.heap.size) (hv : ∀ q, v.ownBlock = some q → B ≤ q)
    (hown : w1.ownsRow B e sz v' n xs) (hgrow : X.grownBy w1 v.ownBlock) (hR : RowIs w1 pb t row) (h1 : pb < B) :
    RowIs (w1.setCell ⟨pb, c, none⟩ v') pb t (row.set c v') ∧ (w1.setCell ⟨pb, c, none⟩ v').ownsRow B e sz v' n xs ∧ But B pb W (w1.setCell ⟨pb, c, none⟩ v') :=
  ⟨hR.set c v', own_keep hown h1 v', (hX.grown hgrow hB fun q hq => .inl (hv q hq)).grown (grown_set _ _ _ _) (by have := hgrow.size; omega) fun q hq => .inr (Option.some.inj hq).symm⟩
theorem owns_but {w w' : World} {base B g : Nat} {e : TypeId} {sz n : Nat} {v : Value} {xs : List Value} (h : w.ownsRow base e sz v n xs) (hb : But B g w w') (hB : w.heap.size ≤ B) (hg : g < base) : w'.ownsRow base e sz v n xs := by
  obtain ⟨h1, h2⟩ := h
  rcases h2 with h2 | ⟨q, cap, cur, hv, hq, hh, r⟩
  · exact ⟨h1, .inl h2⟩
  · exact ⟨h1, .inr ⟨q, cap, cur, hv, hq, (hb.block q (by have := (Array.getElem?_eq_some_iff.1 hh).1; omega) (by omega)).trans hh, r⟩⟩
set_option maxRecDepth 100000 in
set_option maxHeartbeats 8000000 in
theorem rsplit_any (N : Nat) (ao : Option Addr) (cap : Nat) (T : List Tr) (w : World) (hT : TrisAt w ao T) (hl : T.length ≤ 10000) (hN : N ≤ 10000) (hvin : VIn N T) :
    Calls Try.prog 14 #[.agg #[.int .i64 (N : Int), .slice ao T.length cap]] w fun e w' => ∃ (L : Nat → Int) (v : Value) (f : Nat → Nat → Value) (m : Nat), e = .returned v ∧ IsShells (NbA T) T.length L ∧ (m : Int) = cnt L T.length ∧
      w'.ownsRow w.heap.size 41 4 v m (pc f m) ∧ (∀ k, k < m → PartOwn w' w.heap.size (f k) (partOf T L T.length k)) ∧ Below w.heap.size w w' := by
  obtain ⟨i0, hi, hz0, hz1, hz2⟩ := info_parts info3
  obtain ⟨i4, hi4, hx0, hx1, hx2⟩ := info_parts info49
  obtain ⟨i5, hi5, hw0, hw1, hw2⟩ := info_parts info41
  have hb0 : Below w.heap.size w (w.alloc (.cells #[.int .i64 (N : Int), .slice ao T.length cap] 24)) := (Below.refl _ _).alloc (Nat.le_refl _) _
  have HT := Lib.hid (hT.mono (Nat.le_refl _) hb0)
  have HC := Lib.hid (rof_any N ao cap T (w.alloc (.cells #[.int .i64 (N : Int), .slice ao T.length cap] 24)) (hT.mono (Nat.le_refl _) hb0) hl)
  have HVI := Lib.hid hvin
  have HB0 := Lib.hid hb0
  have HX0 := Lib.hid (RowIs.made w 24 [.int .i64 (N : Int), .slice ao T.length cap])
  obtain ⟨n, hn⟩ : ∃ n, n = T.length := ⟨_, rfl⟩
  rw [← hn] at hl HC HB0 HX0 HT ⊢
  have HN := Lib.hid hn
  clear hn hT hb0 hvin
  go_enter Try.func14, Try.ntmps14
  go_wp2_with fail
  refine HC.out.mono ?_
  rintro e w1 ⟨go, L, rfl, hgo, hrow, hsh, hb⟩
  have HSH := Lib.hid hsh
  have HR1 := Lib.hid hrow
  have HB1 := Lib.hid (below_more HB0.out hb HB0.out.size)
  have HX1 := Lib.hid (HX0.out.after hb)
  have HT1 := Lib.hid (HT.out.mono (Nat.le_refl _) hb)
  have HL := Lib.hid (fun i (hi : i < n) => hsh.le i hi)
  have HL0 := Lib.hid (fun i (hi : i < n) => hsh.nonneg i hi)
  have HCN := Lib.hid (cnt_nonneg L)
  clear hsh hrow hb HC HB0 HX0 HT hgo
  go_wp2
  go_loopw [5, 4] (fun i v ws => ∃ k : Nat, k ≤ n ∧ i = .int .i64 k ∧ v = .int .i64 (cnt L k) ∧ cnt L k ≤ k ∧ ws = w1) (fun i _ _ => n - (intOf i).toNat)
  case atStart => exact ⟨0, by omega, rfl, rfl, by simp [cnt], rfl⟩
  case round =>
    obtain ⟨k, hk, rfl, rfl, hc, rfl⟩ := hrel
    obtain ⟨W1, rfl⟩ : ∃ W1 : World, W1 = wr := ⟨_, rfl⟩
    by_cases hlt : k < n
    · have c0 := HR1.out.cell (iv_get L hlt)
      have h0 := HL.out k hlt
      have h1 := HL0.out k hlt
      have h2 := HCN.out k
      have HK := Lib.hid (show cnt L (k + 1) = max (cnt L k) (L k + 1) from rfl)
      generalize L k = l at *
      generalize cnt L k = m at *
      by_cases hm : m ≤ l
      · go_wp2
        go_roundw
        case rel => exact ⟨k + 1, by omega, by go_num, by rw [HK.out, Int.max_eq_right (by omega)], by rw [HK.out]; omega, by trivial⟩
        case measure => simp [intOf]; omega
      · go_wp2
        go_roundw
        case rel => exact ⟨k + 1, by omega, by go_num, by rw [HK.out, Int.max_eq_left (by omega)], by rw [HK.out]; omega, by trivial⟩
        case measure => simp [intOf]; omega
    · obtain rfl : k = n := by omega
      obtain ⟨m, hm⟩ := Int.eq_ofNat_of_zero_le (HCN.out k)
      have hmn : m ≤ k := by omega
      rw [hm]
      have HM := Lib.hid hm
      have hbs : w.heap.size < W1.heap.size := HX1.out.lt
      clear hm hc HL HL0 HCN
      go_wp2
      go_loopw [7, 6] (fun i v ws => ∃ (j : Nat) (f : Nat → Nat → Value), j ≤ m ∧ i = .int .i64 j ∧ ws.ownsRow W1.heap.size 41 4 v j (pc f j) ∧ (∀ q, q < j → PartOwn ws W1.heap.size (f q) (partOf T L k q)) ∧ Below W1.heap.size W1 ws) (fun i _ _ => m - (intOf i).toNat)
      case atStart => exact ⟨0, fun _ _ => undef, by omega, rfl, World.ownsRow_nil _ _ _ _, fun q h => by omega, Below.refl _ _⟩
      case round =>
        obtain ⟨j, f, hj, rfl, hown, hpo, hb⟩ := hrel
        obtain ⟨W2, rfl⟩ : ∃ W2 : World, W2 = wr := ⟨_, rfl⟩
        have HO2 := Lib.hid hown
        have HP2 := Lib.hid hpo
        have HB2 := Lib.hid hb
        have hs2 := hb.size
        clear hown hpo hb
        by_cases hjm : j < m
        · have HXa := Lib.hid (((HX1.out.after HB2.out).alloc (.cells #[.int .i64 0, .slice none 0 0, .slice none 0 0, .slice none 0 0] 41)))
          have xa := HXa.out.cell (i := 0) rfl
          go_wp2_with (at_make; refine wpList_make_full _ rfl _ _ _ rfl (W2.heap.size + 1) 3 i0 (.int .i64 0) 1 (by kernel_rfl) hi hz0 hz1 _ _ _ _ N rfl rfl rfl rfl (by rw [hz2]; omega) (by unfold maxLen; omega) (by simp) ?_)
          intro w3 hown hgrow
          rw [madeCells_iv] at hown
          have hto := RowIs.of_owns hown
          have hb3 : Below (W2.heap.size + 1) (W2.alloc (.cells #[.int .i64 0, .slice none 0 0, .slice none 0 0, .slice none 0 0] 41)) w3 := (Below.refl _ _).grown hgrow (by simp) (by simp)
          obtain ⟨pb, hpb⟩ : ∃ pb, pb = W2.heap.size := ⟨_, rfl⟩
          have HTO := Lib.hid (show RowIs w3 (pb + 1) 3 (iv (toF T L k j 0) N) from by rw [toF_zero, hpb]; simpa using hto)
          have HPR := Lib.hid (show RowIs w3 pb 41 [.int .i64 0, .slice none 0 0, .slice none 0 0, .slice none 0 0] from by
            rw [hpb]; exact (RowIs.made W2 41 [.int .i64 0, .slice none 0 0, .slice none 0 0, .slice none 0 0]).below hb3 (by omega))
          have HB3 := Lib.hid (show Below W2.heap.size W2 w3 from ((Below.refl _ _).alloc (Nat.le_refl _) _).trans (hb3.mono (by omega)))
          have HX3 := Lib.hid ((HX1.out.after HB2.out).after HB3.out)
          rw [← hpb]
          have HPB := Lib.hid hpb
          have hs3 : pb + 1 < w3.heap.size := HTO.out.lt
          clear hown hgrow hto hb3 hpb xa HXa
          go_wp2
          go_loopw [10] (fun i ws => ∃ (v : Nat) (u : Value), v ≤ N ∧ i = .int .i64 v ∧ RowIs ws pb 41 [.int .i64 0, .slice none 0 0, u, .slice none 0 0] ∧ RowIs ws (pb + 1) 3 (iv (toF T L k j v) N) ∧ ws.ownsRow (pb + 2) 3 1 u (refV T L k j v).length ((refV T L k j v).map (Value.int .i64)) ∧ Below W2.heap.size W2 ws) (fun i _ => N - (intOf i).toNat)
          case atStart => exact ⟨0, .slice none 0 0, by omega, rfl, HPR.out, HTO.out, World.ownsRow_nil _ _ _ _, HB3.out⟩
          case round =>
            clear HPR HTO HB3 HX3 hs3
            obtain ⟨v, u, hv, rfl, hpr, hto, hou, hb⟩ := hrel
            obtain ⟨W4, rfl⟩ : ∃ W4 : World, W4 = wr := ⟨_, rfl⟩
            have HPR := Lib.hid hpr
            have HTO := Lib.hid hto
            have HOU := Lib.hid hou
            have HB4 := Lib.hid hb
            have HX4 := Lib.hid ((HX1.out.after HB2.out).after hb)
            have x0 := HX4.out.cell (i := 0) rfl
            have hs4 : pb + 1 < W4.heap.size := hto.lt
            clear hpr hto hou hb
            by_cases hvN : v < N
            · go_wp2
              clear x0
              go_loopw [12, 11] (fun i b ws => ∃ (q : Nat), q ≤ k ∧ i = .int .i64 q ∧ b = .bool (inV T L q j v) ∧ Below W4.heap.size W4 ws) (fun i _ _ => k - (intOf i).toNat)
              case atStart => exact ⟨0, by omega, rfl, by simp [inV], Below.refl _ _⟩
              case round =>
                obtain ⟨q, hq, rfl, rfl, hb⟩ := hrel
                obtain ⟨W5, rfl⟩ : ∃ W5 : World, W5 = wr := ⟨_, rfl⟩
                have HB5 := Lib.hid hb
                have HX5 := Lib.hid (HX4.out.after hb)
                have hs5 := hb.size
                by_cases hqk : q < k
                · have hb15 : Below W1.heap.size W1 W5 := HB2.out.trans ((HB4.out.trans (hb.mono HB4.out.size)).mono hs2)
                  obtain ⟨sb, soff, x, y, z, rfl, ht, g0, g1, g2, hbs, hbs'⟩ := HT1.out.get (Nat.le_refl _) hb15 (i := q) (by have := HN.out; omega)
                  have cg := (HR1.out.below hb15 HR1.out.lt).cell (iv_get L hqk)
                  have x1 := HX5.out.cell (i := 1) rfl
                  have hal : ∀ o (bb oo : Nat) (x : Value), bb < W5.heap.size → W5.cell? ⟨bb, oo, none⟩ = some x → (W5.alloc o).cell? ⟨bb, oo, none⟩ = some x := fun o bb oo x h1 h2 => (((Below.refl _ _).alloc (Nat.le_refl W5.heap.size) o).cell (p := ⟨bb, oo, none⟩) h1).trans h2
                  have hgl : go < W5.heap.size := (HR1.out.below hb15 HR1.out.lt).lt
                  have cg' := fun o => hal o _ _ _ hgl cg
                  have HS := Lib.hid (inV_succ T L q j v)
                  have HBN := Lib.hid (HB5.out.alloc hs5 (.cells #[.int .i64 x, .int .i64 y, .int .i64 z] 49))
                  obtain ⟨β, hβ⟩ : ∃ β, β = inV T L q j v := ⟨_, rfl⟩
                  rw [← hβ] at HS ⊢
                  clear hb hb15 hal hβ
                  cases β
                  · obtain ⟨l, hl9⟩ : ∃ l, l = L q := ⟨_, rfl⟩
                    rw [← hl9] at HS cg cg'
                    clear hl9
                    cases h0 : l == (j : Int)
                    · have HF := Lib.hid (show inV T L (q + 1) j v = false from by rw [HS.out]; simp at h0; simp [h0])
                      clear ht
                      go_wp2
                      go_roundw
                      case rel => exact ⟨q + 1, by omega, by go_num, by rw [HF.out], HBN.out⟩
                      case measure => simp [intOf]; omega
                    · cases hx : x == (v : Int)
                      · cases hy : y == (v : Int)
                        · cases hz : z == (v : Int)
                          · have HF := Lib.hid (show inV T L (q + 1) j v = false from by rw [HS.out, ht.out]; simp [hasB, hx, hy, hz])
                            clear ht
                            go_wp2
                            go_roundw
                            case rel => exact ⟨q + 1, by omega, by go_num, by rw [HF.out], HBN.out⟩
                            case measure => simp [intOf]; omega
                          · have HF := Lib.hid (show inV T L (q + 1) j v = true from by rw [HS.out, ht.out]; simp at h0; simp [h0, hasB, hx, hy, hz])
                            clear ht
                            go_wp2
                            go_roundw
                            case rel => exact ⟨q + 1, by omega, by go_num, by rw [HF.out], HBN.out⟩
                            case measure => simp [intOf]; omega
                        · have HF := Lib.hid (show inV T L (q + 1) j v = true from by rw [HS.out, ht.out]; simp at h0; simp [h0, hasB, hx, hy])
                          clear ht
                          go_wp2
                          go_roundw
                          case rel => exact ⟨q + 1, by omega, by go_num, by rw [HF.out], HBN.out⟩
                          case measure => simp [intOf]; omega
                      · have HF := Lib.hid (show inV T L (q + 1) j v = true from by rw [HS.out, ht.out]; simp at h0; simp [h0, hasB, hx])
                        clear ht
                        go_wp2
                        go_roundw
                        case rel => exact ⟨q + 1, by omega, by go_num, by rw [HF.out], HBN.out⟩
                        case measure => simp [intOf]; omega
                  · have HF := Lib.hid (show inV T L (q + 1) j v = true from by rw [HS.out]; simp)
                    clear ht
                    go_wp2
                    go_roundw
                    case rel => exact ⟨q + 1, by omega, by go_num, by rw [HF.out], HBN.out⟩
                    case measure => simp [intOf]; omega
                · obtain rfl : q = k := by omega
                  have HPR5 := Lib.hid (HPR.out.after hb)
                  have HTO5 := Lib.hid (HTO.out.after hb)
                  have HOU5 := Lib.hid (owns_below HOU.out hb)
                  have HB45 := Lib.hid (show Below W2.heap.size W2 W5 from HB4.out.trans (hb.mono HB4.out.size))
                  have HVY := Lib.hid (fun h => refV_yes (T := T) (L := L) (n := q) (k := j) (m := v) h)
                  have HVN := Lib.hid (fun h => refV_no (T := T) (L := L) (n := q) (k := j) (m := v) h)
                  have HTY := Lib.hid (fun h => toF_yes (T := T) (L := L) (n := q) (k := j) (m := v) h)
                  have HTN := Lib.hid (fun h => toF_no (T := T) (L := L) (n := q) (k := j) (m := v) h)
                  clear hb HPR HTO HOU HB4
                  cases hin : inV T L q j v
                  · have HF1 := Lib.hid (HVN.out hin)
                    have HF2 := Lib.hid (HTN.out hin)
                    clear hin
                    go_wp2
                    go_roundw
                    case rel => exact ⟨v + 1, u, by omega, by go_num, HPR5.out, by rw [← HF2.out]; exact HTO5.out, by rw [HF1.out]; exact HOU5.out, HB45.out⟩
                    case measure => simp [intOf]; omega
                  · have HF1 := Lib.hid (HVY.out hin)
                    have HF2 := Lib.hid (HTY.out hin)
                    obtain ⟨ln, hln⟩ : ∃ ln, ln = (refV T L q j v).length := ⟨_, rfl⟩
                    have hlv : ln ≤ v := by rw [hln]; exact refV_length _ _ _ _ _
                    rw [← hln] at HOU5 HF2
                    have HLN := Lib.hid hln
                    obtain ⟨ao5, cap5, rfl⟩ := owns_slice HOU5.out
                    have p2 := HPR5.out.cell (i := 2) rfl
                    have f2 := HPR5.out.free 2
                    have t1 := HTO5.out.cell (iv_get (toF T L q j v) hvN)
                    have ft := HTO5.out.free v
                    have hr6 := HTO5.out.set v (.int .i64 (ln : Int))
                    rw [iv_set, HF2.out] at hr6
                    have HTO6 := Lib.hid hr6
                    have HPR6 := Lib.hid (HPR5.out.other (p := ⟨pb + 1, v, none⟩) (show pb + 1 ≠ pb by omega) (.int .i64 (ln : Int)))
                    have HOU6 := Lib.hid (own_keep HOU5.out (show pb + 1 < pb + 2 by omega) (i := v) (.int .i64 (ln : Int)))
                    have hpb9 : W2.heap.size ≤ pb := by have := HPB.out; omega
                    have HB6 := Lib.hid (HB45.out.setCell (p := ⟨pb + 1, v, none⟩) (show W2.heap.size ≤ pb + 1 by omega) (.int .i64 (ln : Int)))
                    obtain ⟨tv, htv⟩ : ∃ tv, tv = toF T L q j v v := ⟨_, rfl⟩
                    rw [← htv] at t1
                    have p2' := HPR6.out.cell (i := 2) rfl
                    have hs6 := HTO6.out.lt
                    have HNE1 := Lib.hid (show some pb ≠ (Value.slice ao5 ln cap5).ownBlock from fun q => by have := (HOU6.out.lt pb q.symm).1; omega)
                    have HNE2 := Lib.hid (show some (pb + 1) ≠ (Value.slice ao5 ln cap5).ownBlock from fun q => by have := (HOU6.out.lt (pb + 1) q.symm).1; omega)
                    clear hin hln hr6 htv
                    go_wp2_with (at_builtin; refine wpList_append_new _ rfl _ _ 34 rfl (pb + 2) 3 i0 _ 1 8 (by kernel_rfl) hi hz0 hz1 hz2 rfl (by decide) _ _ _ rfl HOU6.out _ _ _ rfl (by first | rfl | simp) rfl ?_ ?_ ?_ ?_ ?_)
                    · rfl
                    · unfold maxLen; omega
                    · omega
                    · omega
                    · intro v' w7 hown7 hbel hgr
                      obtain ⟨ao7, cap7, rfl⟩ := owns_slice hown7
                      have HPR7 := Lib.hid (RowIs.grown (HPR6.out.alloc _) hgr HNE1.out)
                      have HTO7 := Lib.hid (RowIs.grown (HTO6.out.alloc _) hgr HNE2.out)
                      have f7 := HPR7.out.free 2
                      have p7 := HPR7.out.cell (i := 2) rfl
                      have HPR8 := Lib.hid (HPR7.out.set 2 (.slice ao7 (ln + 1) cap7))
                      have HTO8 := Lib.hid (HTO7.out.other (p := ⟨pb, 2, none⟩) (show pb ≠ pb + 1 by omega) (.slice ao7 (ln + 1) cap7))
                      have HOU8 := Lib.hid (own_keep hown7 (show pb < pb + 2 by omega) (i := 2) (.slice ao7 (ln + 1) cap7))
                      have HB8 := Lib.hid ((hbel W2.heap.size W2 (by omega) HB6.out).setCell (p := ⟨pb, 2, none⟩) hpb9 (.slice ao7 (ln + 1) cap7))
                      clear hown7 hbel hgr p2 p2' t1 ft f2
                      go_wp2
                      go_roundw
                      case rel => exact ⟨v + 1, _, by omega, by go_num, HPR8.out, HTO8.out, by
                        rw [HF1.out, List.length_append, List.map_append, ← HLN.out]
                        exact HOU8.out, HB8.out⟩
                      case measure => simp [intOf]; omega
            · obtain rfl : v = N := by omega
              obtain ⟨lnV, hlnV⟩ : ∃ l, l = (refV T L k j v).length := ⟨_, rfl⟩
              rw [← hlnV] at HOU
              obtain ⟨aoU, cU, rfl⟩ := owns_slice HOU.out
              have HPR9 := HPR
              have HLV := Lib.hid hlnV
              have hlv : lnV ≤ v := by rw [hlnV]; exact refV_length _ _ _ _ _
              clear hlnV
              have hpb9 : W2.heap.size ≤ pb := by have := HPB.out; omega
              go_wp2
              clear x0
              go_loopw [14] (fun a ws => ∃ (i : Nat) (uS uT : Value), i ≤ k ∧ a = .int .i64 i ∧ RowIs ws pb 41 [.int .i64 0, uS, .slice aoU lnV cU, uT] ∧ ws.ownsRow W4.heap.size 49 3 uS (ofShell L i j).length (tcells ((ofShell L i j).map fun a => ranked (vertsOf T (ofShell L k j)) (T! T a))) ∧
                ws.ownsRow W4.heap.size 3 1 uT (ofShell L i j).length (nv (ofShell L i j)) ∧ But W4.heap.size pb W4 ws) (fun a _ => k - (intOf a).toNat)
              case atStart => exact ⟨0, .slice none 0 0, .slice none 0 0, by omega, rfl, HPR.out, World.ownsRow_nil _ _ _ _, World.ownsRow_nil _ _ _ _, But.refl _ _ _⟩
              case round =>
                clear HPR HPR9
                obtain ⟨i, uS, uT, hi9, rfl, hpr, hoS, hoT, hb⟩ := hrel
                obtain ⟨W6, rfl⟩ : ∃ W6 : World, W6 = wr := ⟨_, rfl⟩
                have HPR6 := Lib.hid hpr
                have HOS6 := Lib.hid hoS
                have HOT6 := Lib.hid hoT
                have HB6 := Lib.hid hb
                have hs6 := hb.size
                have HB16 := Lib.hid (show Below W1.heap.size W1 W6 from HB2.out.trans ((HB4.out.trans (hb.below (by omega) hpb9)).mono hs2))
                clear hpr hoS hoT hb
                by_cases hik : i < k
                · have cg := (HR1.out.below HB16.out HR1.out.lt).cell (iv_get L hik)
                  have HSU := Lib.hid (ofShell_succ L i j)
                  obtain ⟨l, hl9⟩ : ∃ l, l = L i := ⟨_, rfl⟩
                  rw [← hl9] at HSU cg
                  have HLI := Lib.hid hl9
                  clear hl9
                  cases h0 : l == (j : Int)
                  · have HF := Lib.hid (show ofShell L (i + 1) j = ofShell L i j from by rw [HSU.out]; simp at h0; simp [h0])
                    go_wp2
                    go_roundw
                    case rel => exact ⟨i + 1, uS, uT, by omega, by go_num, HPR6.out, by rw [HF.out]; exact HOS6.out, by rw [HF.out]; exact HOT6.out, HB6.out⟩
                    case measure => simp [intOf]; omega
                  · have HF := Lib.hid (show ofShell L (i + 1) j = ofShell L i j ++ [i] from by rw [HSU.out]; simp at h0; simp [h0])
                    obtain ⟨sb, soff, x, y, z, rfl, ht, g0, g1, g2, hbs, hbs'⟩ := HT1.out.get (Nat.le_refl _) HB16.out (i := i) (by have := HN.out; omega)
                    have hv0 := HVI.out i (by have := HN.out; omega) 0
                    have hv1 := HVI.out i (by have := HN.out; omega) 1
                    have hv2 := HVI.out i (by have := HN.out; omega) 2
                    rw [ht.out] at hv0 hv1 hv2
                    obtain ⟨vx, rfl⟩ := Int.eq_ofNat_of_zero_le hv0.1
                    obtain ⟨vy, rfl⟩ := Int.eq_ofNat_of_zero_le hv1.1
                    obtain ⟨vz, rfl⟩ := Int.eq_ofNat_of_zero_le hv2.1
                    have bx : vx < v := by have := hv0.2; simp [tg] at this; omega
                    have by9 : vy < v := by have := hv1.2; simp [tg] at this; omega
                    have bz : vz < v := by have := hv2.2; simp [tg] at this; omega
                    have hLj : L i = (j : Int) := by rw [← HLI.out]; simpa using h0
                    have hvk : ∀ i, i < k → ∀ j, 0 ≤ tg (T! T i) j ∧ tg (T! T i) j < v := fun i hi j => HVI.out i (by have := HN.out; omega) j
                    have HRX := Lib.hid (toF_rank (L := L) (n := k) (k := j) hvk bx hik hLj (by rw [ht.out]; simp [hasB]))
                    have HRY := Lib.hid (toF_rank (L := L) (n := k) (k := j) hvk by9 hik hLj (by rw [ht.out]; simp [hasB]))
                    have HRZ := Lib.hid (toF_rank (L := L) (n := k) (k := j) hvk bz hik hLj (by rw [ht.out]; simp [hasB]))
                    obtain ⟨V, hV⟩ : ∃ V, V = vertsOf T (ofShell L k j) := ⟨_, rfl⟩
                    rw [← hV] at HOS6 HRX HRY HRZ ⊢
                    have x1 := ((HX1.out.below HB16.out (by have := HX1.out.lt; omega))).cell (i := 1) rfl
                    have HTO6 := Lib.hid (HB6.out.row HTO.out HTO.out.lt (by omega))
                    have tx := HTO6.out.cell (iv_get (toF T L k j v) bx)
                    have ty := HTO6.out.cell (iv_get (toF T L k j v) by9)
                    have tz := HTO6.out.cell (iv_get (toF T L k j v) bz)
                    rw [HRX.out] at tx
                    rw [HRY.out] at ty
                    rw [HRZ.out] at tz
                    have HTT := Lib.hid (show ((ofShell L i j ++ [i]).map fun a => ranked V (T! T a)) = ((ofShell L i j).map fun a => ranked V (T! T a)) ++ [(rank V (vx : Int), rank V (vy : Int), rank V (vz : Int))] from by
                      rw [List.map_append, List.map_singleton, ht.out]; rfl)
                    obtain ⟨rx, hrx⟩ : ∃ r, r = rank V (vx : Int) := ⟨_, rfl⟩
                    obtain ⟨ry, hry⟩ : ∃ r, r = rank V (vy : Int) := ⟨_, rfl⟩
                    obtain ⟨rz, hrz⟩ : ∃ r, r = rank V (vz : Int) := ⟨_, rfl⟩
                    rw [← hrx] at tx HTT
                    rw [← hry] at ty HTT
                    rw [← hrz] at tz HTT
                    have HV := Lib.hid hV
                    clear hrx hry hrz HRX HRY HRZ hv0 hv1 hv2 hvk hLj hV HLI ht hbs
                    obtain ⟨S0, hS0⟩ : ∃ S, S = (ofShell L i j).map fun a => ranked V (T! T a) := ⟨_, rfl⟩
                    obtain ⟨cn, hcn⟩ : ∃ cn, cn = (ofShell L i j).length := ⟨_, rfl⟩
                    have hcl : cn ≤ i := by rw [hcn]; exact ofShell_length L i j
                    rw [← hS0] at HOS6 HTT
                    rw [← hcn] at HOS6 HOT6
                    have HCN := Lib.hid hcn
                    clear hS0 hcn
                    have hsT := HTO6.out.lt
                    have hal : ∀ o (bb oo : Nat) (x : Value), bb < W6.heap.size → W6.cell? ⟨bb, oo, none⟩ = some x → (W6.alloc o).cell? ⟨bb, oo, none⟩ = some x := fun o bb oo x h1 h2 => (((Below.refl _ _).alloc (Nat.le_refl W6.heap.size) o).cell (p := ⟨bb, oo, none⟩) h1).trans h2
                    go_upto_region 31 with fail
                    obtain ⟨W7, hW7⟩ : ∃ W7, W7 = W6.alloc (.cells #[.int .i64 (vx : Int), .int .i64 (vy : Int), .int .i64 (vz : Int)] 49) := ⟨_, rfl⟩
                    rw [← hW7]
                    have hb67 : Below W6.heap.size W6 W7 := by rw [hW7]; exact (Below.refl _ _).alloc (Nat.le_refl _) _
                    have HTB := Lib.hid (show RowIs W7 W6.heap.size 49 [.int .i64 (vx : Int), .int .i64 (vy : Int), .int .i64 (vz : Int)] from by rw [hW7]; exact RowIs.made _ _ _)
                    obtain ⟨tb, htb⟩ : ∃ tb, tb = W6.heap.size := ⟨_, rfl⟩
                    rw [← htb] at HTB ⊢
                    have HNT := Lib.hid (show some tb ≠ uS.ownBlock from fun q => by have := (HOS6.out.lt tb q.symm).2; omega)
                    have htp : pb + 1 < tb := by omega
                    have HPR7 := Lib.hid (HPR6.out.after hb67)
                    have HTO7 := Lib.hid (HTO6.out.after hb67)
                    have HOS7 := Lib.hid (owns_below HOS6.out hb67)
                    have HOT7 := Lib.hid (owns_below HOT6.out hb67)
                    have HB7 := Lib.hid (HB6.out.more hb67 hs6)
                    have hs7 := HB7.out.size
                    have hsT7 := HTO7.out.lt
                    have tx7 := (hb67.cell (p := ⟨pb + 1, vx, none⟩) hsT).trans tx
                    have ty7 := (hb67.cell (p := ⟨pb + 1, vy, none⟩) hsT).trans ty
                    have tz7 := (hb67.cell (p := ⟨pb + 1, vz, none⟩) hsT).trans tz
                    have b0 := HTB.out.cell (i := 0) rfl
                    have b1 := HTB.out.cell (i := 1) rfl
                    have b2 := HTB.out.cell (i := 2) rfl
                    have d1 := HPR7.out.cell (i := 1) rfl
                    have d1' : ∀ o, (W7.alloc o).cell? ⟨pb, 1, none⟩ = some uS := fun o => (((Below.refl _ _).alloc (Nat.le_refl W7.heap.size) o).cell (p := ⟨pb, 1, none⟩) (show pb < W7.heap.size by omega)).trans d1
                    have z1 := HPR7.out.free 1
                    have HNE := Lib.hid (show some pb ≠ uS.ownBlock from fun q => by have := (HOS7.out.lt pb q.symm).1; omega)
                    clear hW7 hb67 htb tx ty tz g0 g1 g2 x1 hal cg
                    have hgo : ∀ o (bb oo : Nat) (x : Value), bb < W7.heap.size → W7.cell? ⟨bb, oo, none⟩ = some x → (W7.alloc o).cell? ⟨bb, oo, none⟩ = some x := fun o bb oo x h1 h2 => (((Below.refl _ _).alloc (Nat.le_refl W7.heap.size) o).cell (p := ⟨bb, oo, none⟩) h1).trans h2
                    have htb7 := HTB.out.lt
                    have b0' := hgo (.cells #[.int .i64 rx, .int .i64 ry, .int .i64 rz] 49) _ _ _ htb7 b0
                    have b1' := hgo (.cells #[.int .i64 rx, .int .i64 ry, .int .i64 rz] 49) _ _ _ htb7 b1
                    have b2' := hgo (.cells #[.int .i64 rx, .int .i64 ry, .int .i64 rz] 49) _ _ _ htb7 b2
                    have tx' := hgo (.cells #[.int .i64 rx, .int .i64 ry, .int .i64 rz] 49) _ _ _ hsT7 tx7
                    have ty' := hgo (.cells #[.int .i64 rx, .int .i64 ry, .int .i64 rz] 49) _ _ _ hsT7 ty7
                    have tz' := hgo (.cells #[.int .i64 rx, .int .i64 ry, .int .i64 rz] 49) _ _ _ hsT7 tz7
                    have HN1 := Lib.hid (show some (pb + 1) ≠ uS.ownBlock from fun q => by have := (HOS7.out.lt (pb + 1) q.symm).1; have := HTO.out.lt; omega)
                    clear hgo
                    refine wp_region_held_drew (S := (fun w' => w'.cell? ⟨tb, 0, none⟩ = some (.int .i64 (vx : Int)) ∧ w'.cell? ⟨tb, 1, none⟩ = some (.int .i64 (vy : Int)) ∧ w'.cell? ⟨tb, 2, none⟩ = some (.int .i64 (vz : Int)) ∧ w'.cell? ⟨pb + 1, vx, none⟩ = some (.int .i64 rx) ∧ w'.cell? ⟨pb + 1, vy, none⟩ = some (.int .i64 ry) ∧ w'.cell? ⟨pb + 1, vz, none⟩ = some (.int .i64 rz))) (by kernel_rfl) ?_ (fun hHeld0 => ?_)
                    · ((try dsimp only); first | exact ⟨b0, b1, b2, tx7, ty7, tz7⟩ | exact ⟨b0', b1', b2', tx', ty', tz'⟩ | exact ⟨e0, e1, e2, ex, ey, ez⟩ | exact ⟨e0', e1', e2', ex', ey', ez'⟩)
                    refine wpAnyH_take (i := 0) (v := ?_) rfl (by kernel_rfl) (by kernel_rfl) (by kernel_rfl) (fun _ _ _ h => h) (Or.inl ⟨by rfl, ?_⟩) (by assumption) ?_
                    rotate_left
                    · (intro w hSw; (try dsimp only at hSw); go_simp; try with_reducible rfl)
                    try simp only [List.getElem_toArray, List.getElem_cons_succ, List.getElem_cons_zero, Act.put, List.setIfInBounds_toArray, List.set_cons_zero, List.set_cons_succ]
                    refine wpAnyH_take (i := 1) (v := ?_) rfl (by kernel_rfl) (by kernel_rfl) (by kernel_rfl) (fun _ _ _ h => h) (Or.inl ⟨by rfl, ?_⟩) (by assumption) ?_
                    rotate_left
                    · (intro w hSw; (try dsimp only at hSw); go_simp; try with_reducible rfl)
                    try simp only [List.getElem_toArray, List.getElem_cons_succ, List.getElem_cons_zero, Act.put, List.setIfInBounds_toArray, List.set_cons_zero, List.set_cons_succ]
                    refine wpAnyH_take (i := 3) (v := ?_) rfl (by kernel_rfl) (by kernel_rfl) (by kernel_rfl) (fun _ _ _ h => h) (Or.inl ⟨by rfl, ?_⟩) (by assumption) ?_
                    rotate_left
                    · (intro w hSw; (try dsimp only at hSw); go_simp; try with_reducible rfl)
                    try simp only [List.getElem_toArray, List.getElem_cons_succ, List.getElem_cons_zero, Act.put, List.setIfInBounds_toArray, List.set_cons_zero, List.set_cons_succ]
                    refine wpAnyH_take (i := 4) (v := ?_) rfl (by kernel_rfl) (by kernel_rfl) (by kernel_rfl) (fun _ _ _ h => h) (Or.inl ⟨by rfl, ?_⟩) (by assumption) ?_
                    rotate_left
                    · (intro w hSw; (try dsimp only at hSw); go_simp; try with_reducible rfl)
                    try simp only [List.getElem_toArray, List.getElem_cons_succ, List.getElem_cons_zero, Act.put, List.setIfInBounds_toArray, List.set_cons_zero, List.set_cons_succ]
                    refine wpAnyH_take (i := 5) (v := ?_) rfl (by kernel_rfl) (by kernel_rfl) (by kernel_rfl) (fun _ _ _ h => h) (Or.inl ⟨by rfl, ?_⟩) (by assumption) ?_
                    rotate_left
                    · (intro w hSw; (try dsimp only at hSw); go_simp; try with_reducible rfl)
                    try simp only [List.getElem_toArray, List.getElem_cons_succ, List.getElem_cons_zero, Act.put, List.setIfInBounds_toArray, List.set_cons_zero, List.set_cons_succ]
                    refine wpAnyH_take (i := 6) (v := ?_) rfl (by kernel_rfl) (by kernel_rfl) (by kernel_rfl) (fun _ _ _ h => h) (Or.inl ⟨by rfl, ?_⟩) (by assumption) ?_
                    rotate_left
                    · (intro w hSw; (try dsimp only at hSw); go_simp; try with_reducible rfl)
                    try simp only [List.getElem_toArray, List.getElem_cons_succ, List.getElem_cons_zero, Act.put, List.setIfInBounds_toArray, List.set_cons_zero, List.set_cons_succ]
                    refine wpAnyH_take (i := 7) (v := ?_) rfl (by kernel_rfl) (by kernel_rfl) (by kernel_rfl) (fun _ _ _ h => h) (Or.inl ⟨by rfl, ?_⟩) (by assumption) ?_
                    rotate_left
                    · (intro w hSw; (try dsimp only at hSw); go_simp; try with_reducible rfl)
                    try simp only [List.getElem_toArray, List.getElem_cons_succ, List.getElem_cons_zero, Act.put, List.setIfInBounds_toArray, List.set_cons_zero, List.set_cons_succ]
                    refine wpAnyH_take (i := 8) (v := ?_) rfl (by kernel_rfl) (by kernel_rfl) (by kernel_rfl) (fun _ _ _ h => h) (Or.inl ⟨by rfl, ?_⟩) (by assumption) ?_
                    rotate_left
                    · (intro w hSw; (try dsimp only at hSw); go_simp; try with_reducible rfl)
                    try simp only [List.getElem_toArray, List.getElem_cons_succ, List.getElem_cons_zero, Act.put, List.setIfInBounds_toArray, List.set_cons_zero, List.set_cons_succ]
                    refine wpAnyH_take (i := 9) (v := ?_) rfl (by kernel_rfl) (by kernel_rfl) (by kernel_rfl) (fun _ _ _ h => h) (Or.inl ⟨by rfl, ?_⟩) (by assumption) ?_
                    rotate_left
                    · (intro w hSw; (try dsimp only at hSw); go_simp; try with_reducible rfl)
                    try simp only [List.getElem_toArray, List.getElem_cons_succ, List.getElem_cons_zero, Act.put, List.setIfInBounds_toArray, List.set_cons_zero, List.set_cons_succ]
                    refine wpAnyH_take (i := 10) (v := ?_) rfl (by kernel_rfl) (by kernel_rfl) (by kernel_rfl) (fun _ _ _ h => h) (Or.inl ⟨by rfl, ?_⟩) (by assumption) ?_
                    rotate_left
                    · (intro w hSw; (try dsimp only at hSw); go_simp; try with_reducible rfl)
                    try simp only [List.getElem_toArray, List.getElem_cons_succ, List.getElem_cons_zero, Act.put, List.setIfInBounds_toArray, List.set_cons_zero, List.set_cons_succ]
                    refine wpAnyH_take (i := 11) (v := ?_) rfl (by kernel_rfl) (by kernel_rfl) (by kernel_rfl) (fun _ _ _ h => h) (Or.inl ⟨by rfl, ?_⟩) (by assumption) ?_
                    rotate_left
                    · (intro w hSw; (try dsimp only at hSw); go_simp; try with_reducible rfl)
                    try simp only [List.getElem_toArray, List.getElem_cons_succ, List.getElem_cons_zero, Act.put, List.setIfInBounds_toArray, List.set_cons_zero, List.set_cons_succ]
                    refine wpAnyH_take (i := 12) (v := ?_) rfl (by kernel_rfl) (by kernel_rfl) (by kernel_rfl) (fun _ _ _ h => h) (Or.inl ⟨by rfl, ?_⟩) (by assumption) ?_
                    rotate_left
                    · (intro w hSw; (try dsimp only at hSw); go_simp; try with_reducible rfl)
                    try simp only [List.getElem_toArray, List.getElem_cons_succ, List.getElem_cons_zero, Act.put, List.setIfInBounds_toArray, List.set_cons_zero, List.set_cons_succ]
                    refine wpAnyH_take (i := 13) (v := ?_) rfl (by kernel_rfl) (by kernel_rfl) (by kernel_rfl) (fun _ _ _ h => h) (Or.inl ⟨by rfl, ?_⟩) (by assumption) ?_
                    rotate_left
                    · (intro w hSw; (try dsimp only at hSw); go_simp; try with_reducible rfl)
                    try simp only [List.getElem_toArray, List.getElem_cons_succ, List.getElem_cons_zero, Act.put, List.setIfInBounds_toArray, List.set_cons_zero, List.set_cons_succ]
                    refine wpAnyH_take (i := 14) (v := ?_) rfl (by kernel_rfl) (by kernel_rfl) (by kernel_rfl) (fun _ _ _ h => h) (Or.inl ⟨by rfl, ?_⟩) (by assumption) ?_
                    rotate_left
                    · (intro w hSw; (try dsimp only at hSw); go_simp; try with_reducible rfl)
                    try simp only [List.getElem_toArray, List.getElem_cons_succ, List.getElem_cons_zero, Act.put, List.setIfInBounds_toArray, List.set_cons_zero, List.set_cons_succ]
                    refine wpAnyH_take (i := 15) (v := ?_) rfl (by kernel_rfl) (by kernel_rfl) (by kernel_rfl) (fun _ _ _ h => h) (Or.inl ⟨by rfl, ?_⟩) (by assumption) ?_
                    rotate_left
                    · (intro w hSw; (try dsimp only at hSw); go_simp; try with_reducible rfl)
                    try simp only [List.getElem_toArray, List.getElem_cons_succ, List.getElem_cons_zero, Act.put, List.setIfInBounds_toArray, List.set_cons_zero, List.set_cons_succ]
                    refine wpAnyH_take (i := 16) (v := ?_) rfl (by kernel_rfl) (by kernel_rfl) (by kernel_rfl) (fun _ _ _ h => h) (Or.inl ⟨by rfl, ?_⟩) (by assumption) ?_
                    rotate_left
                    · (intro w hSw; (try dsimp only at hSw); go_simp; try with_reducible rfl)
                    try simp only [List.getElem_toArray, List.getElem_cons_succ, List.getElem_cons_zero, Act.put, List.setIfInBounds_toArray, List.set_cons_zero, List.set_cons_succ]
                    refine wpAnyH_take (i := 17) (v := ?_) rfl (by kernel_rfl) (by kernel_rfl) (by kernel_rfl) (fun _ _ _ h => h) (Or.inl ⟨by rfl, ?_⟩) (by assumption) ?_
                    rotate_left
                    · (intro w hSw; (try dsimp only at hSw); go_simp; try with_reducible rfl)
                    try simp only [List.getElem_toArray, List.getElem_cons_succ, List.getElem_cons_zero, Act.put, List.setIfInBounds_toArray, List.set_cons_zero, List.set_cons_succ]
                    refine wpAnyH_take (i := 18) (v := ?_) rfl (by kernel_rfl) (by kernel_rfl) (by kernel_rfl) (fun _ _ _ h => h) (Or.inl ⟨by rfl, ?_⟩) (by assumption) ?_
                    rotate_left
                    · (intro w hSw; (try dsimp only at hSw); go_simp; try with_reducible rfl)
                    try simp only [List.getElem_toArray, List.getElem_cons_succ, List.getElem_cons_zero, Act.put, List.setIfInBounds_toArray, List.set_cons_zero, List.set_cons_succ]
                    refine wpAnyH_ready (rs := [2, 19]) (by kernel_rfl) (by simp) ?_
                    refine AllReadyH.cons rfl (fun K hK => ?_) (AllReadyH.cons rfl (fun K hK => ?_) AllReadyH.nil)
                    · skip
                      go_simp
                      refine hK.out _ _ ?_ (fun hHeld1 => ?_)
                      · ((try dsimp only); first | exact ⟨b0, b1, b2, tx7, ty7, tz7⟩ | exact ⟨b0', b1', b2', tx', ty', tz'⟩ | exact ⟨e0, e1, e2, ex, ey, ez⟩ | exact ⟨e0', e1', e2', ex', ey', ez'⟩)
                      clear hK K hHeld0
                      refine wpAnyH_ready (rs := [19]) (by kernel_rfl) (by simp) ?_
                      refine AllReadyH.cons rfl (fun K hK => ?_) AllReadyH.nil
                      go_simp
                      refine hK.out _ _ ?_ (fun hHeld2 => ?_)
                      · ((try dsimp only); first | exact ⟨b0, b1, b2, tx7, ty7, tz7⟩ | exact ⟨b0', b1', b2', tx', ty', tz'⟩ | exact ⟨e0, e1, e2, ex, ey, ez⟩ | exact ⟨e0', e1', e2', ex', ey', ez'⟩)
                      clear hK K hHeld1
                      refine wpAnyH_ready (rs := [20]) (by kernel_rfl) (by simp) ?_
                      refine AllReadyH.cons rfl (fun K hK => ?_) AllReadyH.nil
                      ((refine step_append_lies _ (by rfl) _ _ _ (by rfl) W4.heap.size 49 i4 (.agg #[.int .i64 0, .int .i64 0, .int .i64 0]) 3 24 (by kernel_rfl) hi4 hx0 hx1 hx2 rfl (by decide) uS cn (tcells S0) (by rfl) (HOS7.out.alloc _) ⟨W7.heap.size, 0, none⟩ 1 1 [.int .i64 rx, .int .i64 ry, .int .i64 rz] (by rfl) rfl (World.news_of_block (heap_alloc_new W7 _)) (by intro u hu; simp at hu; rcases hu with rfl | rfl | rfl <;> rfl) (by omega) (by unfold maxLen; omega) (by omega) (by simp; omega) (W7.heap.size + 1) (by simp) ?_; intro g cap2 w8 hown hgrow hat hlt2; have HR8 := Lib.hid (show RowIs w8 pb 41 [.int .i64 0, uS, .slice aoU lnV cU, uT] from RowIs.grown (by first | exact HPR7.out.alloc _ | exact RowIs.drew1 (HPR7.out.alloc _)) hgrow HNE.out); have d3 := HR8.out.cell (i := 1) rfl; have d4 := HR8.out.free 1; have e0 := (hgrow.cell_far ⟨tb, 0, none⟩ (by simp; omega) HNT.out).trans (by exact b0'); have e1 := (hgrow.cell_far ⟨tb, 1, none⟩ (by simp; omega) HNT.out).trans (by exact b1'); have e2 := (hgrow.cell_far ⟨tb, 2, none⟩ (by simp; omega) HNT.out).trans (by exact b2'); have ex := (hgrow.cell_far ⟨pb + 1, vx, none⟩ (by simp; omega) HN1.out).trans (by exact tx'); have ey := (hgrow.cell_far ⟨pb + 1, vy, none⟩ (by simp; omega) HN1.out).trans (by exact ty'); have ez := (hgrow.cell_far ⟨pb + 1, vz, none⟩ (by simp; omega) HN1.out).trans (by exact tz'); have hq8 := hgrow.size; simp at hq8; have hst := grown_set w8 pb 1 (.slice (some ⟨g, 0, none⟩) (cn + 1) cap2); have e0' := (hst.cell_far ⟨tb, 0, none⟩ (by simp; omega) (by simp; omega)).trans e0; have e1' := (hst.cell_far ⟨tb, 1, none⟩ (by simp; omega) (by simp; omega)).trans e1; have e2' := (hst.cell_far ⟨tb, 2, none⟩ (by simp; omega) (by simp; omega)).trans e2; have ex' := (hst.cell_far ⟨pb + 1, vx, none⟩ (by simp; omega) (by simp)).trans ex; have ey' := (hst.cell_far ⟨pb + 1, vy, none⟩ (by simp; omega) (by simp)).trans ey; have ez' := (hst.cell_far ⟨pb + 1, vz, none⟩ (by simp; omega) (by simp)).trans ez; clear hst hq8))
                      refine hK.out _ _ ?_ (fun hHeld3 => ?_)
                      · ((try dsimp only); first | exact ⟨b0, b1, b2, tx7, ty7, tz7⟩ | exact ⟨b0', b1', b2', tx', ty', tz'⟩ | exact ⟨e0, e1, e2, ex, ey, ez⟩ | exact ⟨e0', e1', e2', ex', ey', ez'⟩)
                      clear hK K hHeld2
                      refine wpAnyH_take (i := 21) (v := ?_) rfl (by kernel_rfl) (by kernel_rfl) (by kernel_rfl) (fun _ _ _ h => h) (Or.inl ⟨by rfl, ?_⟩) (by assumption) ?_
                      rotate_left
                      · (intro w hSw; (try dsimp only at hSw); go_simp; try with_reducible rfl)
                      try simp only [List.getElem_toArray, List.getElem_cons_succ, List.getElem_cons_zero, Act.put, List.setIfInBounds_toArray, List.set_cons_zero, List.set_cons_succ]
                      refine wpAnyH_take (i := 22) (v := ?_) rfl (by kernel_rfl) (by kernel_rfl) (by kernel_rfl) (fun _ _ _ h => h) (Or.inl ⟨by rfl, ?_⟩) (by assumption) ?_
                      rotate_left
                      · (intro w hSw; (try dsimp only at hSw); go_simp; try with_reducible rfl)
                      try simp only [List.getElem_toArray, List.getElem_cons_succ, List.getElem_cons_zero, Act.put, List.setIfInBounds_toArray, List.set_cons_zero, List.set_cons_succ]
                      refine wpAnyH_ready (rs := [23]) (by kernel_rfl) (by simp) ?_
                      refine AllReadyH.cons rfl (fun K hK => ?_) AllReadyH.nil
                      go_simp
                      refine hK.out _ _ ?_ (fun hHeld4 => ?_)
                      · ((try dsimp only); first | exact ⟨b0, b1, b2, tx7, ty7, tz7⟩ | exact ⟨b0', b1', b2', tx', ty', tz'⟩ | exact ⟨e0, e1, e2, ex, ey, ez⟩ | exact ⟨e0', e1', e2', ex', ey', ez'⟩)
                      clear hK K hHeld3
                      refine wpAnyH_done (by kernel_rfl) ?_ _
                      clear hHeld4
                      go_upto_region 32 with fail
                      obtain ⟨r1, r2, r3⟩ := back4 (X := _) (c := 1) (by first | exact HB7.out.more ((Below.refl _ _).alloc (Nat.le_refl _) _) hs7 | exact HB7.out.more (((Below.refl _ _).alloc (Nat.le_refl _) _).drew) hs7) (by simp; omega) (fun q hq => (HOS7.out.lt q hq).1) hown hgrow HR8.out (show pb < W4.heap.size by omega)
                      have HOT9 := Lib.hid (own_keep (show w8.ownsRow W4.heap.size 3 1 uT cn (nv (ofShell L i j)) from by first | exact owns_kept (HOT7.out.alloc _) (HOS7.out.alloc _) (by decide) hgrow | exact owns_kept (owns_below (HOT7.out.alloc _) (Below.refl _ _).drew) (owns_below (HOS7.out.alloc _) (Below.refl _ _).drew) (by decide) hgrow) (show pb < W4.heap.size by omega) (i := 1) (.slice (some ⟨g, 0, none⟩) (cn + 1) cap2))
                      obtain ⟨w9, hw9⟩ : ∃ w9, w9 = w8.setCell ⟨pb, 1, none⟩ (.slice (some ⟨g, 0, none⟩) (cn + 1) cap2) := ⟨_, rfl⟩
                      rw [← hw9] at r1 r2 r3 HOT9 ⊢
                      have HR9 := Lib.hid r1
                      have HOS9 := Lib.hid r2
                      have HB9 := Lib.hid r3
                      have hs9 := r3.size
                      have c3 := r1.cell (i := 3) rfl
                      have HNE3 := Lib.hid (show some pb ≠ uT.ownBlock from fun q => by have := (HOT9.out.lt pb q.symm).1; omega)
                      clear r1 r2 r3 hw9 hown hgrow hat hlt2 d3 d4 e0 e1 e2 ex ey ez e0' e1' e2' ex' ey' ez'
                      go_wp2_with (at_builtin; refine wpList_append_new _ rfl _ _ 34 rfl W4.heap.size 3 i0 _ 1 8 (by kernel_rfl) hi hz0 hz1 hz2 rfl (by decide) _ _ _ rfl HOT9.out _ _ _ rfl (by first | rfl | simp) rfl ?_ ?_ ?_ ?_ ?_)
                      · rfl
                      · unfold maxLen; omega
                      · omega
                      · exact hs9
                      · intro v' w10 hown hbel hgr
                        obtain ⟨ao10, cap10, rfl⟩ := owns_slice hown
                        have hr10 := RowIs.grown (HR9.out.alloc _) hgr HNE3.out
                        have c10 := hr10.cell (i := 3) rfl
                        have f10 := hr10.free 3
                        obtain ⟨r1, r2, r3⟩ := back4 (X := _) (c := 3) (HB9.out.more ((Below.refl _ _).alloc (Nat.le_refl _) _) hs9) (by simp; omega) (fun q hq => (HOT9.out.lt q hq).1) hown hgr hr10 (show pb < W4.heap.size by omega)
                        have HOSA := Lib.hid (own_keep (owns_kept (HOS9.out.alloc _) (HOT9.out.alloc _) (by decide) hgr) (show pb < W4.heap.size by omega) (i := 3) (.slice ao10 (cn + 1) cap10))
                        have HRA := Lib.hid r1
                        have HOTA := Lib.hid r2
                        have HBA := Lib.hid r3
                        clear r1 r2 r3 hown hbel hgr hr10 c3
                        go_wp2
                        go_roundw
                        case rel => exact ⟨i + 1, _, _, by omega, by go_num, HRA.out, by
                          rw [HF.out, HTT.out, tcells_snoc, List.length_append, ← HCN.out]
                          exact HOSA.out, by
                          rw [HF.out, nv_snoc, List.length_append, ← HCN.out]
                          exact HOTA.out, HBA.out⟩
                        case measure => simp [intOf]; omega
                    · skip
                      go_simp
                      refine hK.out _ _ ?_ (fun hHeld5 => ?_)
                      · ((try dsimp only); first | exact ⟨b0, b1, b2, tx7, ty7, tz7⟩ | exact ⟨b0', b1', b2', tx', ty', tz'⟩ | exact ⟨e0, e1, e2, ex, ey, ez⟩ | exact ⟨e0', e1', e2', ex', ey', ez'⟩)
                      clear hK K hHeld0
                      refine wpAnyH_ready (rs := [2]) (by kernel_rfl) (by simp) ?_
                      refine AllReadyH.cons rfl (fun K hK => ?_) AllReadyH.nil
                      go_simp
                      refine hK.out _ _ ?_ (fun hHeld6 => ?_)
                      · ((try dsimp only); first | exact ⟨b0, b1, b2, tx7, ty7, tz7⟩ | exact ⟨b0', b1', b2', tx', ty', tz'⟩ | exact ⟨e0, e1, e2, ex, ey, ez⟩ | exact ⟨e0', e1', e2', ex', ey', ez'⟩)
                      clear hK K hHeld5
                      refine wpAnyH_ready (rs := [20]) (by kernel_rfl) (by simp) ?_
                      refine AllReadyH.cons rfl (fun K hK => ?_) AllReadyH.nil
                      ((refine step_append_lies _ (by rfl) _ _ _ (by rfl) W4.heap.size 49 i4 (.agg #[.int .i64 0, .int .i64 0, .int .i64 0]) 3 24 (by kernel_rfl) hi4 hx0 hx1 hx2 rfl (by decide) uS cn (tcells S0) (by rfl) (HOS7.out.alloc _) ⟨W7.heap.size, 0, none⟩ 1 1 [.int .i64 rx, .int .i64 ry, .int .i64 rz] (by rfl) rfl (World.news_of_block (heap_alloc_new W7 _)) (by intro u hu; simp at hu; rcases hu with rfl | rfl | rfl <;> rfl) (by omega) (by unfold maxLen; omega) (by omega) (by simp; omega) (W7.heap.size + 1) (by simp) ?_; intro g cap2 w8 hown hgrow hat hlt2; have HR8 := Lib.hid (show RowIs w8 pb 41 [.int .i64 0, uS, .slice aoU lnV cU, uT] from RowIs.grown (by first | exact HPR7.out.alloc _ | exact RowIs.drew1 (HPR7.out.alloc _)) hgrow HNE.out); have d3 := HR8.out.cell (i := 1) rfl; have d4 := HR8.out.free 1; have e0 := (hgrow.cell_far ⟨tb, 0, none⟩ (by simp; omega) HNT.out).trans (by exact b0'); have e1 := (hgrow.cell_far ⟨tb, 1, none⟩ (by simp; omega) HNT.out).trans (by exact b1'); have e2 := (hgrow.cell_far ⟨tb, 2, none⟩ (by simp; omega) HNT.out).trans (by exact b2'); have ex := (hgrow.cell_far ⟨pb + 1, vx, none⟩ (by simp; omega) HN1.out).trans (by exact tx'); have ey := (hgrow.cell_far ⟨pb + 1, vy, none⟩ (by simp; omega) HN1.out).trans (by exact ty'); have ez := (hgrow.cell_far ⟨pb + 1, vz, none⟩ (by simp; omega) HN1.out).trans (by exact tz'); have hq8 := hgrow.size; simp at hq8; have hst := grown_set w8 pb 1 (.slice (some ⟨g, 0, none⟩) (cn + 1) cap2); have e0' := (hst.cell_far ⟨tb, 0, none⟩ (by simp; omega) (by simp; omega)).trans e0; have e1' := (hst.cell_far ⟨tb, 1, none⟩ (by simp; omega) (by simp; omega)).trans e1; have e2' := (hst.cell_far ⟨tb, 2, none⟩ (by simp; omega) (by simp; omega)).trans e2; have ex' := (hst.cell_far ⟨pb + 1, vx, none⟩ (by simp; omega) (by simp)).trans ex; have ey' := (hst.cell_far ⟨pb + 1, vy, none⟩ (by simp; omega) (by simp)).trans ey; have ez' := (hst.cell_far ⟨pb + 1, vz, none⟩ (by simp; omega) (by simp)).trans ez; clear hst hq8))
                      refine hK.out _ _ ?_ (fun hHeld7 => ?_)
                      · ((try dsimp only); first | exact ⟨b0, b1, b2, tx7, ty7, tz7⟩ | exact ⟨b0', b1', b2', tx', ty', tz'⟩ | exact ⟨e0, e1, e2, ex, ey, ez⟩ | exact ⟨e0', e1', e2', ex', ey', ez'⟩)
                      clear hK K hHeld6
                      refine wpAnyH_take (i := 21) (v := ?_) rfl (by kernel_rfl) (by kernel_rfl) (by kernel_rfl) (fun _ _ _ h => h) (Or.inl ⟨by rfl, ?_⟩) (by assumption) ?_
                      rotate_left
                      · (intro w hSw; (try dsimp only at hSw); go_simp; try with_reducible rfl)
                      try simp only [List.getElem_toArray, List.getElem_cons_succ, List.getElem_cons_zero, Act.put, List.setIfInBounds_toArray, List.set_cons_zero, List.set_cons_succ]
                      refine wpAnyH_take (i := 22) (v := ?_) rfl (by kernel_rfl) (by kernel_rfl) (by kernel_rfl) (fun _ _ _ h => h) (Or.inl ⟨by rfl, ?_⟩) (by assumption) ?_
                      rotate_left
                      · (intro w hSw; (try dsimp only at hSw); go_simp; try with_reducible rfl)
                      try simp only [List.getElem_toArray, List.getElem_cons_succ, List.getElem_cons_zero, Act.put, List.setIfInBounds_toArray, List.set_cons_zero, List.set_cons_succ]
                      refine wpAnyH_ready (rs := [23]) (by kernel_rfl) (by simp) ?_
                      refine AllReadyH.cons rfl (fun K hK => ?_) AllReadyH.nil
                      go_simp
                      refine hK.out _ _ ?_ (fun hHeld8 => ?_)
                      · ((try dsimp only); first | exact ⟨b0, b1, b2, tx7, ty7, tz7⟩ | exact ⟨b0', b1', b2', tx', ty', tz'⟩ | exact ⟨e0, e1, e2, ex, ey, ez⟩ | exact ⟨e0', e1', e2', ex', ey', ez'⟩)
                      clear hK K hHeld7
                      refine wpAnyH_done (by kernel_rfl) ?_ _
                      clear hHeld8
                      go_upto_region 32 with fail
                      obtain ⟨r1, r2, r3⟩ := back4 (X := _) (c := 1) (by first | exact HB7.out.more ((Below.refl _ _).alloc (Nat.le_refl _) _) hs7 | exact HB7.out.more (((Below.refl _ _).alloc (Nat.le_refl _) _).drew) hs7) (by simp; omega) (fun q hq => (HOS7.out.lt q hq).1) hown hgrow HR8.out (show pb < W4.heap.size by omega)
                      have HOT9 := Lib.hid (own_keep (show w8.ownsRow W4.heap.size 3 1 uT cn (nv (ofShell L i j)) from by first | exact owns_kept (HOT7.out.alloc _) (HOS7.out.alloc _) (by decide) hgrow | exact owns_kept (owns_below (HOT7.out.alloc _) (Below.refl _ _).drew) (owns_below (HOS7.out.alloc _) (Below.refl _ _).drew) (by decide) hgrow) (show pb < W4.heap.size by omega) (i := 1) (.slice (some ⟨g, 0, none⟩) (cn + 1) cap2))
                      obtain ⟨w9, hw9⟩ : ∃ w9, w9 = w8.setCell ⟨pb, 1, none⟩ (.slice (some ⟨g, 0, none⟩) (cn + 1) cap2) := ⟨_, rfl⟩
                      rw [← hw9] at r1 r2 r3 HOT9 ⊢
                      have HR9 := Lib.hid r1
                      have HOS9 := Lib.hid r2
                      have HB9 := Lib.hid r3
                      have hs9 := r3.size
                      have c3 := r1.cell (i := 3) rfl
                      have HNE3 := Lib.hid (show some pb ≠ uT.ownBlock from fun q => by have := (HOT9.out.lt pb q.symm).1; omega)
                      clear r1 r2 r3 hw9 hown hgrow hat hlt2 d3 d4 e0 e1 e2 ex ey ez e0' e1' e2' ex' ey' ez'
                      go_wp2_with (at_builtin; refine wpList_append_new _ rfl _ _ 34 rfl W4.heap.size 3 i0 _ 1 8 (by kernel_rfl) hi hz0 hz1 hz2 rfl (by decide) _ _ _ rfl HOT9.out _ _ _ rfl (by first | rfl | simp) rfl ?_ ?_ ?_ ?_ ?_)
                      · rfl
                      · unfold maxLen; omega
                      · omega
                      · exact hs9
                      · intro v' w10 hown hbel hgr
                        obtain ⟨ao10, cap10, rfl⟩ := owns_slice hown
                        have hr10 := RowIs.grown (HR9.out.alloc _) hgr HNE3.out
                        have c10 := hr10.cell (i := 3) rfl
                        have f10 := hr10.free 3
                        obtain ⟨r1, r2, r3⟩ := back4 (X := _) (c := 3) (HB9.out.more ((Below.refl _ _).alloc (Nat.le_refl _) _) hs9) (by simp; omega) (fun q hq => (HOT9.out.lt q hq).1) hown hgr hr10 (show pb < W4.heap.size by omega)
                        have HOSA := Lib.hid (own_keep (owns_kept (HOS9.out.alloc _) (HOT9.out.alloc _) (by decide) hgr) (show pb < W4.heap.size by omega) (i := 3) (.slice ao10 (cn + 1) cap10))
                        have HRA := Lib.hid r1
                        have HOTA := Lib.hid r2
                        have HBA := Lib.hid r3
                        clear r1 r2 r3 hown hbel hgr hr10 c3
                        go_wp2
                        go_roundw
                        case rel => exact ⟨i + 1, _, _, by omega, by go_num, HRA.out, by
                          rw [HF.out, HTT.out, tcells_snoc, List.length_append, ← HCN.out]
                          exact HOSA.out, by
                          rw [HF.out, nv_snoc, List.length_append, ← HCN.out]
                          exact HOTA.out, HBA.out⟩
                        case measure => simp [intOf]; omega
                · obtain rfl : i = k := by omega
                  obtain ⟨en, hen⟩ : ∃ en, en = (ofShell L i j).length := ⟨_, rfl⟩
                  rw [← hen] at HOS6 HOT6
                  obtain ⟨aoS, cS, rfl⟩ := owns_slice HOS6.out
                  obtain ⟨aoT, cT, rfl⟩ := owns_slice HOT6.out
                  have hb26 : Below W2.heap.size W2 W6 := HB4.out.trans (HB6.out.below HB4.out.size hpb9)
                  have hbW := HB16.out.size
                  have hOo := owns_below HO2.out hb26
                  have hPP : PartOwn W6 W1.heap.size (r4 (.int .i64 (lnV : Int)) (.slice aoS en cS) (.slice aoU lnV cU) (.slice aoT en cT)) (partOf T L i j) := by
                    have hvv : refV T L i j v = vertsOf T (ofShell L i j) := refV_verts fun a ha b => HVI.out a (by have := HN.out; omega) b
                    have hu := owns_base (owns_but HOU.out HB6.out (Nat.le_refl _) (by omega)) (base' := W1.heap.size) (by omega)
                    have hS := owns_base HOS6.out (base' := W1.heap.size) (by have := HB4.out.size; omega)
                    have hT := owns_base HOT6.out (base' := W1.heap.size) (by have := HB4.out.size; omega)
                    have hl9 := HLV.out
                    rw [hvv] at hu hl9
                    refine ⟨?_, ?_, ?_, ?_⟩
                    · show Value.int .i64 (lnV : Int) = .int .i64 ((vertsOf T (ofShell L i j)).length : Int)
                      rw [hl9]
                    · have e : (partOf T L i j).S.length = en := by simp [partOf, hen]
                      rw [e]; exact hS
                    · show W6.ownsRow W1.heap.size 3 1 (.slice aoU lnV cU) (vertsOf T (ofShell L i j)).length _
                      rw [← hl9]; exact hu
                    · have e : (partOf T L i j).T.length = en := by simp [partOf, hen]
                      have e2 : (partOf T L i j).T.map (Value.int .i64) = nv (ofShell L i j) := ei_cells _
                      rw [e, e2]; exact hT
                  have hrow8 := HPR6.out.set 0 (.int .i64 (lnV : Int))
                  have hrw : W6.ownsRow 0 41 4 (.slice (some ⟨pb, 0, none⟩) 1 1) 1 [.int .i64 0, .slice aoS en cS, .slice aoU lnV cU, .slice aoT en cT] := HPR6.out.owns (by omega) rfl (by decide)
                  have hgs := grown_set W6 pb 0 (.int .i64 (lnV : Int))
                  have HPP8 := Lib.hid (hPP.kept hrw (by decide) (by decide) hgs)
                  have HPQ8 := Lib.hid (fun q (hq : q < j) => (((HP2.out q hq).more hb26).kept hrw (by decide) (by decide) hgs))
                  have HOo8 := Lib.hid (hOo.kept hgs (by
                    cases hk : Value.ownBlock _ with
                    | none => exact .inl rfl
                    | some q =>
                      right
                      have := (HO2.out.lt q hk).2
                      intro e; cases e; have := HPB.out; omega))
                  have HB8 := Lib.hid ((HB2.out.trans (hb26.mono hs2)).setCell (p := ⟨pb, 0, none⟩) (show W1.heap.size ≤ pb by omega) (.int .i64 (lnV : Int)))
                  have c2 := HPR6.out.cell (i := 2) rfl
                  have f0 := HPR6.out.free 0
                  have c0 := HPR6.out.cell (i := 0) rfl
                  have q0 : (W6.setCell ⟨pb, 0, none⟩ (.int .i64 (lnV : Int))).cell? ⟨pb, 0, none⟩ = some (.int .i64 (lnV : Int)) := hrow8.cell (i := 0) rfl
                  have q1 : (W6.setCell ⟨pb, 0, none⟩ (.int .i64 (lnV : Int))).cell? ⟨pb, 1, none⟩ = some (.slice aoS en cS) := hrow8.cell (i := 1) rfl
                  have q2 : (W6.setCell ⟨pb, 0, none⟩ (.int .i64 (lnV : Int))).cell? ⟨pb, 2, none⟩ = some (.slice aoU lnV cU) := hrow8.cell (i := 2) rfl
                  have q3 : (W6.setCell ⟨pb, 0, none⟩ (.int .i64 (lnV : Int))).cell? ⟨pb, 3, none⟩ = some (.slice aoT en cT) := hrow8.cell (i := 3) rfl
                  have hs8 := HB8.out.size
                  clear hb26 hOo hPP hrow8 hrw hgs hen
                  go_wp2_with (at_builtin; refine wpList_append_new _ rfl _ _ 31 rfl W1.heap.size 41 i5 _ 4 80 (by kernel_rfl) hi5 hw0 hw1 hw2 rfl (by decide) _ _ _ rfl HOo8.out _ _ _ rfl (by first | rfl | simp) rfl ?_ ?_ ?_ ?_ ?_)
                  · exact ⟨rfl, rfl, rfl, rfl⟩
                  · unfold maxLen; omega
                  · omega
                  · exact hs8
                  · intro v' w9 hown9 hbel hgr
                    have HPP9 := Lib.hid ((HPP8.out.more ((Below.refl _ _).alloc (Nat.le_refl _) _)).kept (HOo8.out.alloc _) (by decide) (by decide) hgr)
                    have HPQ9 := Lib.hid (fun q (hq : q < j) => ((HPQ8.out q hq).more ((Below.refl _ _).alloc (Nat.le_refl _) _)).kept (HOo8.out.alloc _) (by decide) (by decide) hgr)
                    have HOo9 := Lib.hid (show w9.ownsRow W1.heap.size 41 4 v' (j + 1) (pc (psnoc f j (r4 (.int .i64 (lnV : Int)) (.slice aoS en cS) (.slice aoU lnV cU) (.slice aoT en cT))) (j + 1)) from by
                      rw [pc_psnoc]; exact hown9)
                    have HB9 := Lib.hid (hbel W1.heap.size W1 (Nat.le_refl _) HB8.out)
                    clear hown9 hbel hgr q0 q1 q2 q3 c0 c2 f0
                    go_wp2
                    go_roundw
                    case rel => exact ⟨j + 1, _, by omega, by go_num, HOo9.out, fun q hq => by
                      by_cases e : q = j
                      · subst e; simp only [psnoc, if_pos]; exact HPP9.out
                      · simp only [psnoc, if_neg e]; exact HPQ9.out q (by omega), HB9.out⟩
                    case measure => simp [intOf]; omega
        · obtain rfl : j = m := by omega
          have HF := Lib.hid (show Below w.heap.size w W2 from HB1.out.trans (HB2.out.mono HB1.out.size))
          have HP3 := Lib.hid (fun q (hq : q < j) => (HP2.out q hq).low (base' := w.heap.size) (by omega))
          have HO3 := Lib.hid (owns_base HO2.out (base' := w.heap.size) (by omega))
          go_wp2
          exact bodyPost_ret (v := _) (by simp [results, Try.results14, go_sem]) rfl ⟨L, _, f, j, rfl, HSH.out, HM.out.symm, HO3.out, HP3.out, HF.out⟩
end Go.Proofs.Ytkggphfekeiejaa

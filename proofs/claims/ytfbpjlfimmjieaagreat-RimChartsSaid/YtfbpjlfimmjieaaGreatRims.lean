/- rim.rims: the vertices with triangles of more than one bay. rim.rims: the walk. (Printed by wip/gen_rims.py.) -/
import Derived.Test.YtfbpjlfimmjieaaGreatRimTab
import Derived.Test.YtfbpjlfimmjieaaGreatFaceLaw
import Derived.StillTailTactics
import Derived.RegionTactic
namespace Go.Proofs.YtfbpjlfimmjieaaGreat
set_option linter.unusedVariables false
set_option linter.unusedSimpArgs false
open Go.RowKit
/-- The bay of a corner's triangle. -/
def cbay (bays : List Int) (c : Nat) : Int := I! bays (c / 3)
def manyB (T : List Tr) (bays : List Int) (v : Int) : Bool :=
  (List.range (3 * T.length)).any fun c => (List.range (3 * T.length)).any fun d => vt T c == v && vt T d == v && cbay bays c != cbay bays d
theorem manyB_iff {T : List Tr} {bays : List Int} {v : Int} : manyB T bays v = true ↔ ∃ c d, c < 3 * T.length ∧ d < 3 * T.length ∧ vt T (c : Nat) = v ∧ vt T (d : Nat) = v ∧ cbay bays c ≠ cbay bays d := by
  unfold manyB
  simp only [List.any_eq_true, List.mem_range, Bool.and_eq_true, beq_iff_eq, bne_iff_ne]
  constructor
  · rintro ⟨c, hc, d, hd, ⟨a, b⟩, e⟩
    exact ⟨c, d, hc, hd, a, b, e⟩
  · rintro ⟨c, d, hc, hd, a, b, e⟩
    exact ⟨c, hc, d, hd, ⟨a, b⟩, e⟩
/-- The rim vertices below n. -/
def rimL (T : List Tr) (bays : List Int) (n : Nat) : List Nat := (List.range n).filter fun v => manyB T bays v
theorem rimL_succ (T : List Tr) (bays : List Int) (k : Nat) : rimL T bays (k + 1) = if manyB T bays k then rimL T bays k ++ [k] else rimL T bays k := by
  unfold rimL
  rw [List.range_succ, List.filter_append]
  cases h : manyB T bays k <;> simp [h]
theorem rimL_le (T : List Tr) (bays : List Int) (k : Nat) : (rimL T bays k).length ≤ k := by
  have := List.length_filter_le (fun v : Nat => manyB T bays v) (List.range k)
  simp [rimL] at *; omega
/-- The first m corners have been looked at. -/
structure RimInv (T : List Tr) (bays : List Int) (m : Nat) (F : Nat → Int) (M : Nat → Bool) : Prop where
  fst : ∀ v : Nat, F v = -1 ∧ (∀ c, c < m → vt T (c : Nat) ≠ v) ∨ 0 ≤ F v ∧ ∃ c, c < m ∧ vt T (c : Nat) = v ∧ cbay bays c = F v
  more : ∀ v : Nat, M v = true ↔ ∃ c d, c < m ∧ d < m ∧ vt T (c : Nat) = v ∧ vt T (d : Nat) = v ∧ cbay bays c ≠ cbay bays d
theorem RimInv.start (T : List Tr) (bays : List Int) : RimInv T bays 0 (fun _ => -1) (fun _ => false) :=
  ⟨fun v => .inl ⟨rfl, fun c h => by omega⟩, fun v => ⟨fun h => (by cases h), fun ⟨c, d, h, _⟩ => by omega⟩⟩
theorem RimInv.step {T : List Tr} {bays : List Int} {m : Nat} {F F' : Nat → Int} {M : Nat → Bool} (h : RimInv T bays m F M) {x : Nat} (hx : vt T (m : Nat) = x) (hb : 0 ≤ cbay bays m)
    (hF : F' = if F x < 0 then upd F x (cbay bays m) else F) : RimInv T bays (m + 1) F' (updB M x (M x || decide (F' x ≠ cbay bays m))) := by
  have old : ∀ v : Nat, v ≠ x → F' v = F v := fun v hv => by
    rw [hF]
    split
    · simp [upd, hv]
    · rfl
  have fx : 0 ≤ F' x ∧ ∃ c, c < m + 1 ∧ vt T (c : Nat) = x ∧ cbay bays c = F' x := by
    rw [hF]
    split
    · rename_i hn
      have e : upd F x (cbay bays m) x = cbay bays m := by simp [upd]
      rw [e]
      exact ⟨hb, m, by omega, hx, rfl⟩
    · rename_i hn
      rcases h.fst x with ⟨a, _⟩ | ⟨a, c, hc, e1, e2⟩
      · omega
      · exact ⟨a, c, by omega, e1, e2⟩
  refine ⟨fun v => ?_, fun v => ?_⟩
  · by_cases e : v = x
    · subst e; exact .inr fx
    · rw [old v e]
      rcases h.fst v with ⟨a, b⟩ | ⟨a, c, hc, e1, e2⟩
      · refine .inl ⟨a, fun c hc q => ?_⟩
        by_cases ec : c = m
        · subst ec; rw [hx] at q; exact e (by omega)
        · exact b c (by omega) q
      · exact .inr ⟨a, c, by omega, e1, e2⟩
  · by_cases e : v = x
    · subst e
      have e1 : updB M v (M v || decide (F' v ≠ cbay bays m)) v = (M v || decide (F' v ≠ cbay bays m)) := by simp [updB]
      rw [e1]
      simp only [Bool.or_eq_true, decide_eq_true_eq]
      obtain ⟨-, c0, hc0, q1, q2⟩ := fx
      constructor
      · rintro (hm | hm)
        · obtain ⟨c, d, hc, hd, r⟩ := (h.more v).1 hm
          exact ⟨c, d, by omega, by omega, r⟩
        · exact ⟨c0, m, hc0, by omega, q1, hx, by rw [q2]; exact hm⟩
      · rintro ⟨c, d, hc, hd, r1, r2, r3⟩
        by_cases hm : M v = true
        · exact .inl hm
        · refine .inr fun q => ?_
          have all : ∀ c, c < m + 1 → vt T (c : Nat) = v → cbay bays c = F' v := fun c hc r => by
            by_cases ec : c = m
            · rw [ec]; exact q.symm
            · by_cases en : c0 = m
              · -- the first one is m itself: then none was there ahead of it, or the old first one has another bay
                by_cases eb : cbay bays c = cbay bays m
                · rw [eb]; exact q.symm
                · rcases h.fst v with ⟨_, b⟩ | ⟨a, c1, hc1, p1, p2⟩
                  · exact absurd r (b c (by omega))
                  · have hF' : F' v = F v := by rw [hF, if_neg (by omega)]
                    by_cases e5 : cbay bays c = cbay bays c1
                    · rw [e5, p2, hF']
                    · exact absurd ((h.more v).2 ⟨c, c1, by omega, hc1, r, p1, e5⟩) hm
              · by_cases e5 : cbay bays c = cbay bays c0
                · rw [e5]; exact q2
                · exact absurd ((h.more v).2 ⟨c, c0, by omega, by omega, r, q1, e5⟩) hm
          exact r3 (by rw [all c hc r1, all d hd r2])
    · have e1 : updB M x (M x || decide (F' x ≠ cbay bays m)) v = M v := by simp [updB, e]
      rw [e1, h.more v]
      constructor
      · rintro ⟨c, d, hc, hd, r⟩
        exact ⟨c, d, by omega, by omega, r⟩
      · rintro ⟨c, d, hc, hd, r1, r2, r3⟩
        have hcm : c ≠ m := fun q => by subst q; rw [hx] at r1; exact e (by omega)
        have hdm : d ≠ m := fun q => by subst q; rw [hx] at r2; exact e (by omega)
        exact ⟨c, d, by omega, by omega, r1, r2, r3⟩
theorem RimInv.done {T : List Tr} {bays : List Int} {F : Nat → Int} {M : Nat → Bool} (h : RimInv T bays (3 * T.length) F M) (v : Nat) : M v = manyB T bays v := by
  have h1 := h.more v
  have h2 := manyB_iff (T := T) (bays := bays) (v := (v : Int))
  cases a : M v <;> cases b : manyB T bays v
  · rfl
  · exact absurd (h1.2 (h2.1 b)) (by rw [a]; simp)
  · exact absurd (h2.2 (h1.1 a)) (by rw [b]; simp)
  · rfl
set_option maxRecDepth 100000 in
set_option maxHeartbeats 8000000 in
theorem rims_ok (n : Nat) (ao : Option Addr) (cap : Nat) (T : List Tr) (bo : Option Addr) (bcap : Nat) (bays : List Int) (w : World) (hT : TrisAt w ao T) (hB : IntsAt w bo bays) (hs : Surf n T) (hok : BaysOK T.length bays) :
    Calls Tryz.prog 80 #[.agg #[.int .i64 (n : Int), .slice ao T.length cap], .slice bo bays.length bcap] w fun e w' => ∃ v, e = .returned v ∧ w'.ownsRow w.heap.size 3 1 v (rimL T bays n).length (nv (rimL T bays n)) ∧ Below w.heap.size w w' := by
  obtain ⟨W0, hW0⟩ : ∃ W0, W0 = w.alloc (.cells #[.int .i64 (n : Int), .slice ao T.length cap] 24) := ⟨_, rfl⟩
  have hb0 : Below w.heap.size w W0 := by rw [hW0]; exact (Below.refl _ _).alloc (Nat.le_refl _) _
  have hr0 : RowIs W0 w.heap.size 24 [.int .i64 (n : Int), .slice ao T.length cap] := by rw [hW0]; exact RowIs.made w 24 [.int .i64 (n : Int), .slice ao T.length cap]
  have hs0 : W0.heap.size = w.heap.size + 1 := by rw [hW0]; simp
  obtain ⟨i0, hi, hz0, hz1, hz2⟩ := info_parts info3
  have HT := Lib.hid (hT.mono (Nat.le_refl _) hb0)
  have HBY := Lib.hid (hB.mono (Nat.le_refl _) hb0)
  obtain ⟨len, hlen⟩ : ∃ n, n = T.length := ⟨_, rfl⟩
  rw [hok.1]
  have hl : len ≤ 8192 := by rw [hlen]; exact hs.t1
  have hn : n ≤ 4096 := by have := hs.n1; omega
  have HBB := Lib.hid hok
  have HS := Lib.hid hs
  have HS0 := Lib.hid hs0
  rw [← hlen] at hW0 hr0 ⊢
  have HL := Lib.hid hlen
  have HW0 := Lib.hid hW0
  have HB0 := Lib.hid hb0
  have HR0 := Lib.hid hr0
  clear hT hB hb0 hok hs hlen hW0 hs0 hr0
  go_enter Tryz.func80, Tryz.ntmps80
  go_upto_region 1 with fail
  rw [← HW0.out]
  have c0 := HR0.out.cell (i := 0) rfl
  go_wp2_with (at_make; refine wpList_make_full _ rfl _ _ _ rfl (w.heap.size + 1) 3 i0 (.int .i64 0) 1 (by kernel_rfl) hi hz0 hz1 _ _ _ _ n rfl rfl rfl rfl (by rw [hz2]; omega) (by unfold maxLen; omega) (Nat.le_of_eq HS0.out.symm) ?_)
  intro w1 hown hgrow
  rw [madeCells_iv] at hown
  have hrow := RowIs.of_owns (by rw [HS0.out] at hown; exact hown)
  have hb1 : Below (w.heap.size + 1) W0 w1 := (Below.refl _ _).grown hgrow (Nat.le_of_eq HS0.out.symm) (by simp)
  rw [HS0.out]
  clear hown hgrow c0
  go_wp2
  go_loopw [20] (fun i wr => ∃ k : Nat, k ≤ n ∧ i = .int .i64 k ∧ RowIs wr (w.heap.size + 1) 3 (iv (fun j => if j < k then -1 else 0) n) ∧ Below (w.heap.size + 1) W0 wr) (fun i _ => n - (intOf i).toNat)
  case atStart => exact ⟨0, Nat.zero_le _, rfl, by simpa using hrow, hb1⟩
  case round =>
    obtain ⟨k, hk, rfl, hr, hb⟩ := hrel
    clear hb1 hrow
    by_cases hlt : k < n
    · have hc := hr.cell (iv_get _ hlt)
      have hf := hr.free k
      have hb' : Below (w.heap.size + 1) W0 (wr.setCell ⟨w.heap.size + 1, k, none⟩ (.int .i64 (-1))) := hb.setCell (Nat.le_refl _) _
      have hr' := hr.set k (.int .i64 (-1))
      rw [iv_set, iv_congr (h := fun j => if j < k + 1 then -1 else 0) (fun i _ => by unfold upd; by_cases e : i = k <;> simp [e]; by_cases q : i < k <;> simp [q] <;> omega)] at hr'
      have HR := Lib.hid hr'
      have HB := Lib.hid hb'
      clear hr' hb' hr hb
      go_wp2
      go_roundw
      case rel => exact ⟨k + 1, by omega, by go_num, HR.out, HB.out⟩
      case measure => simp [intOf]; omega
    · obtain rfl : n = k := by omega
      rw [iv_congr (h := fun _ => -1) (fun i hi => by simp [hi])] at hr
      obtain ⟨W2, rfl⟩ : ∃ W2 : World, W2 = wr := ⟨_, rfl⟩
      clear hz0 hz1 hz2 hi i0
      obtain ⟨i0, hi, hz0, hz1, hz2⟩ := info_parts info4
      have hg1 : w.heap.size + 1 < W2.heap.size := hr.lt
      have HBX := Lib.hid hb
      have hr0' := HR0.out.below hb (by omega)
      have c0 := hr0'.cell (i := 0) rfl
      have c1 := hr0'.cell (i := 1) rfl
      have HR := Lib.hid hr
      clear hr0' hr hb hlt
      go_wp2_with (at_make; refine wpList_make_full _ rfl _ _ _ rfl W2.heap.size 4 i0 (.bool false) 1 (by kernel_rfl) hi hz0 hz1 _ _ _ _ n rfl rfl rfl rfl (by rw [hz2]; omega) (by unfold maxLen; omega) (Nat.le_refl _) ?_)
      intro w3 hown3 hgr3
      rw [madeCells_bv] at hown3
      have hrow3 := RowIs.of_owns hown3
      have hb23 : Below W2.heap.size W2 w3 := (Below.refl _ _).grown hgr3 (Nat.le_refl _) (by simp)
      have HR1 := Lib.hid (HR.out.below hb23 HR.out.lt)
      have HR2 := Lib.hid hrow3
      have hb3 := below_more HBX.out hb23 (by omega)
      have HB3 := Lib.hid hb3
      have c1 := (HR0.out.below hb3 (by omega)).cell (i := 1) rfl
      clear hown3 hgr3 hrow3 hb23 hb3 c0
      go_wp2
      clear c1
      go_loopw [33] (fun i ws => ∃ (i' : Nat) (F : Nat → Int) (M : Nat → Bool), i' ≤ len ∧ i = .int .i64 i' ∧ RowIs ws (w.heap.size + 1) 3 (iv F n) ∧ RowIs ws W2.heap.size 4 (bv M n) ∧ RimInv T bays (3 * i') F M ∧ Below (w.heap.size + 1) W0 ws) (fun i _ => len - (intOf i).toNat)
      case atStart => exact ⟨0, _, _, by omega, rfl, HR1.out, HR2.out, RimInv.start T bays, HB3.out⟩
      case round =>
        clear HR1 HR2 HB3
        obtain ⟨i, F, M, hil, rfl, hr1, hr2, hinv, hb⟩ := hrel
        by_cases hlt : i < len
        · obtain ⟨b, off, x0, y0, z0, hE, ht, g0, g1, g2, hbs, -⟩ := HT.out.get (Nat.le_of_eq HS0.out) hb (i := i) (by have := HL.out; omega)
          subst hE
          obtain ⟨bb, boff, q, hE2, hq, hqc, hbbs, -⟩ := HBY.out.get (Nat.le_refl _) (Below.refl _ _) (i := i) (by have := HBB.out.1; have := HL.out; omega)
          subst hE2
          have hbc := Lib.hid hqc
          have hq0 := Lib.hid (show 0 ≤ q from by
            have hm : I! bays i ∈ bays := by
              have hl : i < bays.length := by have := HBB.out.1; have := HL.out; omega
              unfold I!
              rw [List.getD_eq_getElem?_getD, List.getElem?_eq_getElem hl]
              exact List.getElem_mem hl
            have := (HBB.out.2 _ hm).1
            rw [hq.out] at this
            exact this)
          have HR1 := Lib.hid (hr1.alloc (.cells #[.int .i64 x0, .int .i64 y0, .int .i64 z0] 49))
          have HR2 := Lib.hid (hr2.alloc (.cells #[.int .i64 x0, .int .i64 y0, .int .i64 z0] 49))
          have HB := Lib.hid (hb.alloc (by have := hr1.lt; omega) (.cells #[.int .i64 x0, .int .i64 y0, .int .i64 z0] 49))
          have HINV := Lib.hid hinv
          rw [HS0.out] at hbbs
          clear hr1 hr2 hb hinv hqc hbs
          go_wp2
          clear g0 g1 g2
          go_loopw [39] (fun c ws => ∃ (j : Nat) (F : Nat → Int) (M : Nat → Bool), j ≤ 3 ∧ c = .int .i64 j ∧ RowIs ws (w.heap.size + 1) 3 (iv F n) ∧ RowIs ws W2.heap.size 4 (bv M n) ∧ RimInv T bays (3 * i + j) F M ∧ Below (w.heap.size + 1) W0 ws) (fun c _ => 3 - (intOf c).toNat)
          case atStart => exact ⟨0, F, M, by omega, rfl, HR1.out, HR2.out, HINV.out, HB.out⟩
          case round =>
            clear HR1 HR2 HB HINV
            obtain ⟨j, F, M, hj, rfl, hr1, hr2, hinv, hb⟩ := hrel
            by_cases hj3 : j < 3
            · have hix := index_tri x0 y0 z0 j hj3
              have hin := HS.out.vin i (by have := HL.out; omega) j
              rw [ht.out] at hin
              have hvt : vt T ((3 * i + j : Nat) : Int) = tg (x0, y0, z0) j := by
                rw [← ht.out, show ((3 * i + j : Nat) : Int) = 3 * (i : Int) + (j : Nat) by omega]
                exact vt_tri T i j hj3
              obtain ⟨xi, hxi⟩ : ∃ xi, xi = tg (x0, y0, z0) j := ⟨_, rfl⟩
              rw [← hxi] at hix hin hvt
              clear hxi
              obtain ⟨x, rfl⟩ := Int.eq_ofNat_of_zero_le hin.1
              have hxn : x < n := by omega
              have HVT := Lib.hid hvt
              have HINV := Lib.hid hinv
              have hq3 := Lib.hid (show cbay bays (3 * i + j) = q from by
                unfold cbay
                rw [show (3 * i + j) / 3 = i by omega]
                exact hq.out)
              have hcx := hr1.cell (iv_get F hxn)
              have hcm := hr2.cell (bv_get M hxn)
              have hfx := hr1.free x
              have hcq := (hb.cell (p := ⟨bb, boff + i, none⟩) (show bb < _ by omega)).trans hbc.out
              obtain ⟨y, hy⟩ : ∃ y, Hid (F x = y) := ⟨_, rfl⟩
              rw [hy.out] at hcx
              have HY := hy
              obtain ⟨mv, hmv⟩ : ∃ m, Hid (M x = m) := ⟨_, rfl⟩
              have HM := hmv
              clear hin hvt hinv hy hmv
              by_cases hy0 : y < 0
              · cases mv
                · have d0 : decide (y < 0) = true := by simpa using hy0
                  have HI := Lib.hid (show RimInv T bays (3 * i + j + 1) (upd F x q) (updB M x (M x || decide (upd F x q x ≠ q))) from by
                    have := HINV.out.step (x := x) HVT.out (by rw [hq3.out]; exact hq0.out) (F' := upd F x q) (by rw [hq3.out, HY.out, if_pos hy0])
                    rw [hq3.out] at this
                    exact this)
                  have eM : updB M x (M x || decide (upd F x q x ≠ q)) = updB M x false := by rw [HM.out]; simp [upd]
                  rw [eM] at HI
                  clear hy0 eM
                  have HR1 := Lib.hid (show RowIs (wr.setCell ⟨w.heap.size + 1, x, none⟩ (.int .i64 q)) (w.heap.size + 1) 3 (iv (upd F x q) n) from by
                    have := hr1.set x (.int .i64 q)
                    rw [iv_set] at this
                    exact this)
                  have hr2' : RowIs (wr.setCell ⟨w.heap.size + 1, x, none⟩ (.int .i64 q)) W2.heap.size 4 (bv M n) := hr2.other (by show w.heap.size + 1 ≠ _; omega) _
                  have hbb : Below (w.heap.size + 1) W0 (wr.setCell ⟨w.heap.size + 1, x, none⟩ (.int .i64 q)) := hb.setCell (Nat.le_refl _) _
                  have hsz4 : (wr.setCell ⟨w.heap.size + 1, x, none⟩ (.int .i64 q)).heap.size = wr.heap.size := by simp [World.setCell]
                  have k2 := hr2'.cell (bv_get M hxn)
                  rw [HM.out] at k2
                  have k1 := HR1.out.cell (iv_get (upd F x q) hxn)
                  rw [show upd F x q x = q from by simp [upd]] at k1
                  have kf := hr2'.free x
                  have kq := (hbb.cell (p := ⟨bb, boff + i, none⟩) (show bb < _ by omega)).trans hbc.out
                  have f1 := hr1.free x
                  go_upto_region 16 with fail
                  obtain ⟨W6, hW6⟩ : ∃ W6, W6 = wr.setCell ⟨w.heap.size + 1, x, none⟩ (.int .i64 q) := ⟨_, rfl⟩
                  rw [← hW6] at HR1 hr2' hbb k2 k1 kf kq hsz4
                  rw [← hW6]
                  clear hW6 hr1 hr2 hb hcx hcm f1 hcq
                  have HR2 := Lib.hid (show RowIs (W6.setCell ⟨W2.heap.size, x, none⟩ (.bool false)).drew W2.heap.size 4 (bv (updB M x false) n) ∧ RowIs (W6.setCell ⟨W2.heap.size, x, none⟩ (.bool false)).drew (w.heap.size + 1) 3 (iv (upd F x q) n) ∧ Below (w.heap.size + 1) W0 (W6.setCell ⟨W2.heap.size, x, none⟩ (.bool false)).drew from by
                    refine ⟨RowIs.drew1 ?_, RowIs.drew1 (HR1.out.other (by show W2.heap.size ≠ _; omega) _), (hbb.setCell (by show _ ≤ W2.heap.size; omega) _).drew⟩
                    have := hr2'.set x (.bool false)
                    rw [bv_set] at this
                    exact this)
                  clear hr2' hbb
                  go_still_tail 18, (by kernel_rfl)
                  go_wp2
                  go_roundw
                  case rel => exact ⟨j + 1, (upd F x q), _, by omega, by go_num, HR2.out.2.1, HR2.out.1, HI.out, HR2.out.2.2⟩
                  case measure => simp [intOf]; omega
                · have d0 : decide (y < 0) = true := by simpa using hy0
                  have HI := Lib.hid (show RimInv T bays (3 * i + j + 1) (upd F x q) (updB M x (M x || decide (upd F x q x ≠ q))) from by
                    have := HINV.out.step (x := x) HVT.out (by rw [hq3.out]; exact hq0.out) (F' := upd F x q) (by rw [hq3.out, HY.out, if_pos hy0])
                    rw [hq3.out] at this
                    exact this)
                  have eM : updB M x (M x || decide (upd F x q x ≠ q)) = updB M x true := by rw [HM.out]; simp [upd]
                  rw [eM] at HI
                  clear hy0 eM
                  have HR1 := Lib.hid (show RowIs (wr.setCell ⟨w.heap.size + 1, x, none⟩ (.int .i64 q)) (w.heap.size + 1) 3 (iv (upd F x q) n) from by
                    have := hr1.set x (.int .i64 q)
                    rw [iv_set] at this
                    exact this)
                  have hr2' : RowIs (wr.setCell ⟨w.heap.size + 1, x, none⟩ (.int .i64 q)) W2.heap.size 4 (bv M n) := hr2.other (by show w.heap.size + 1 ≠ _; omega) _
                  have hbb : Below (w.heap.size + 1) W0 (wr.setCell ⟨w.heap.size + 1, x, none⟩ (.int .i64 q)) := hb.setCell (Nat.le_refl _) _
                  have hsz4 : (wr.setCell ⟨w.heap.size + 1, x, none⟩ (.int .i64 q)).heap.size = wr.heap.size := by simp [World.setCell]
                  have k2 := hr2'.cell (bv_get M hxn)
                  rw [HM.out] at k2
                  have k1 := HR1.out.cell (iv_get (upd F x q) hxn)
                  rw [show upd F x q x = q from by simp [upd]] at k1
                  have kf := hr2'.free x
                  have kq := (hbb.cell (p := ⟨bb, boff + i, none⟩) (show bb < _ by omega)).trans hbc.out
                  have f1 := hr1.free x
                  go_upto_region 16 with fail
                  obtain ⟨W6, hW6⟩ : ∃ W6, W6 = wr.setCell ⟨w.heap.size + 1, x, none⟩ (.int .i64 q) := ⟨_, rfl⟩
                  rw [← hW6] at HR1 hr2' hbb k2 k1 kf kq hsz4
                  rw [← hW6]
                  clear hW6 hr1 hr2 hb hcx hcm f1 hcq
                  have HR2 := Lib.hid (show RowIs (W6.setCell ⟨W2.heap.size, x, none⟩ (.bool true)).drew W2.heap.size 4 (bv (updB M x true) n) ∧ RowIs (W6.setCell ⟨W2.heap.size, x, none⟩ (.bool true)).drew (w.heap.size + 1) 3 (iv (upd F x q) n) ∧ Below (w.heap.size + 1) W0 (W6.setCell ⟨W2.heap.size, x, none⟩ (.bool true)).drew from by
                    refine ⟨RowIs.drew1 ?_, RowIs.drew1 (HR1.out.other (by show W2.heap.size ≠ _; omega) _), (hbb.setCell (by show _ ≤ W2.heap.size; omega) _).drew⟩
                    have := hr2'.set x (.bool true)
                    rw [bv_set] at this
                    exact this)
                  clear hr2' hbb
                  go_region
                  go_wp2
                  go_roundw
                  case rel => exact ⟨j + 1, (upd F x q), _, by omega, by go_num, HR2.out.2.1, HR2.out.1, HI.out, HR2.out.2.2⟩
                  case measure => simp [intOf]; omega
              · cases mv
                · by_cases hyq : y = q
                  · have d0 : decide (y < 0) = false := by simpa using hy0
                    have HI := Lib.hid (show RimInv T bays (3 * i + j + 1) F (updB M x (M x || decide (F x ≠ q))) from by
                      have := HINV.out.step (x := x) HVT.out (by rw [hq3.out]; exact hq0.out) (F' := F) (by rw [HY.out, if_neg hy0])
                      rw [hq3.out] at this
                      exact this)
                    have eM : updB M x (M x || decide (F x ≠ q)) = updB M x false := by rw [HM.out, HY.out, hyq]; simp
                    rw [eM] at HI
                    have dn : (y != q) = false := by simp [hyq]
                    clear hy0 eM hyq
                    have HR1 := Lib.hid hr1
                    have hr2' := hr2
                    have hbb := hb
                    have kf := hr2.free x
                    rw [HM.out] at hcm
                    go_upto_region 16 with fail
                    obtain ⟨W6, hW6⟩ : ∃ W6, W6 = wr := ⟨_, rfl⟩
                    rw [← hW6] at HR1 hr2' hbb kf hcm hcx hcq
                    rw [← hW6]
                    clear hW6 hr1 hr2 hb
                    have HR2 := Lib.hid (show RowIs (W6.setCell ⟨W2.heap.size, x, none⟩ (.bool false)).drew W2.heap.size 4 (bv (updB M x false) n) ∧ RowIs (W6.setCell ⟨W2.heap.size, x, none⟩ (.bool false)).drew (w.heap.size + 1) 3 (iv F n) ∧ Below (w.heap.size + 1) W0 (W6.setCell ⟨W2.heap.size, x, none⟩ (.bool false)).drew from by
                      refine ⟨RowIs.drew1 ?_, RowIs.drew1 (HR1.out.other (by show W2.heap.size ≠ _; omega) _), (hbb.setCell (by show _ ≤ W2.heap.size; omega) _).drew⟩
                      have := hr2'.set x (.bool false)
                      rw [bv_set] at this
                      exact this)
                    clear hr2' hbb
                    go_still_tail 18, (by kernel_rfl)
                    go_wp2
                    go_roundw
                    case rel => exact ⟨j + 1, F, _, by omega, by go_num, HR2.out.2.1, HR2.out.1, HI.out, HR2.out.2.2⟩
                    case measure => simp [intOf]; omega
                  · have d0 : decide (y < 0) = false := by simpa using hy0
                    have HI := Lib.hid (show RimInv T bays (3 * i + j + 1) F (updB M x (M x || decide (F x ≠ q))) from by
                      have := HINV.out.step (x := x) HVT.out (by rw [hq3.out]; exact hq0.out) (F' := F) (by rw [HY.out, if_neg hy0])
                      rw [hq3.out] at this
                      exact this)
                    have eM : updB M x (M x || decide (F x ≠ q)) = updB M x true := by rw [HM.out, HY.out]; simp [hyq]
                    rw [eM] at HI
                    have dn : (y != q) = true := by simpa using hyq
                    clear hy0 eM hyq
                    have HR1 := Lib.hid hr1
                    have hr2' := hr2
                    have hbb := hb
                    have kf := hr2.free x
                    rw [HM.out] at hcm
                    go_upto_region 16 with fail
                    obtain ⟨W6, hW6⟩ : ∃ W6, W6 = wr := ⟨_, rfl⟩
                    rw [← hW6] at HR1 hr2' hbb kf hcm hcx hcq
                    rw [← hW6]
                    clear hW6 hr1 hr2 hb
                    have HR2 := Lib.hid (show RowIs (W6.setCell ⟨W2.heap.size, x, none⟩ (.bool true)).drew W2.heap.size 4 (bv (updB M x true) n) ∧ RowIs (W6.setCell ⟨W2.heap.size, x, none⟩ (.bool true)).drew (w.heap.size + 1) 3 (iv F n) ∧ Below (w.heap.size + 1) W0 (W6.setCell ⟨W2.heap.size, x, none⟩ (.bool true)).drew from by
                      refine ⟨RowIs.drew1 ?_, RowIs.drew1 (HR1.out.other (by show W2.heap.size ≠ _; omega) _), (hbb.setCell (by show _ ≤ W2.heap.size; omega) _).drew⟩
                      have := hr2'.set x (.bool true)
                      rw [bv_set] at this
                      exact this)
                    clear hr2' hbb
                    go_still_tail 18, (by kernel_rfl)
                    go_wp2
                    go_roundw
                    case rel => exact ⟨j + 1, F, _, by omega, by go_num, HR2.out.2.1, HR2.out.1, HI.out, HR2.out.2.2⟩
                    case measure => simp [intOf]; omega
                · have d0 : decide (y < 0) = false := by simpa using hy0
                  have HI := Lib.hid (show RimInv T bays (3 * i + j + 1) F (updB M x (M x || decide (F x ≠ q))) from by
                    have := HINV.out.step (x := x) HVT.out (by rw [hq3.out]; exact hq0.out) (F' := F) (by rw [HY.out, if_neg hy0])
                    rw [hq3.out] at this
                    exact this)
                  have eM : updB M x (M x || decide (F x ≠ q)) = updB M x true := by rw [HM.out]; simp
                  rw [eM] at HI
                  clear hy0 eM
                  have HR1 := Lib.hid hr1
                  have hr2' := hr2
                  have hbb := hb
                  have kf := hr2.free x
                  rw [HM.out] at hcm
                  go_upto_region 16 with fail
                  obtain ⟨W6, hW6⟩ : ∃ W6, W6 = wr := ⟨_, rfl⟩
                  rw [← hW6] at HR1 hr2' hbb kf hcm hcx hcq
                  rw [← hW6]
                  clear hW6 hr1 hr2 hb
                  have HR2 := Lib.hid (show RowIs (W6.setCell ⟨W2.heap.size, x, none⟩ (.bool true)).drew W2.heap.size 4 (bv (updB M x true) n) ∧ RowIs (W6.setCell ⟨W2.heap.size, x, none⟩ (.bool true)).drew (w.heap.size + 1) 3 (iv F n) ∧ Below (w.heap.size + 1) W0 (W6.setCell ⟨W2.heap.size, x, none⟩ (.bool true)).drew from by
                    refine ⟨RowIs.drew1 ?_, RowIs.drew1 (HR1.out.other (by show W2.heap.size ≠ _; omega) _), (hbb.setCell (by show _ ≤ W2.heap.size; omega) _).drew⟩
                    have := hr2'.set x (.bool true)
                    rw [bv_set] at this
                    exact this)
                  clear hr2' hbb
                  go_region
                  go_wp2
                  go_roundw
                  case rel => exact ⟨j + 1, F, _, by omega, by go_num, HR2.out.2.1, HR2.out.1, HI.out, HR2.out.2.2⟩
                  case measure => simp [intOf]; omega
            · obtain rfl : j = 3 := by omega
              have HR1 := Lib.hid hr1
              have HR2 := Lib.hid hr2
              have HB := Lib.hid hb
              have HINV := Lib.hid (show RimInv T bays (3 * (i + 1)) F M from hinv)
              clear hr1 hr2 hb hinv
              go_wp2
              go_roundw
              case rel => exact ⟨i + 1, F, M, by omega, by go_num, HR1.out, HR2.out, HINV.out, HB.out⟩
              case measure => simp [intOf]; omega
        · obtain rfl : i = len := by omega
          have HM := Lib.hid (show ∀ v : Nat, M v = manyB T bays v from fun v => by
            rw [HL.out] at hinv
            exact hinv.done v)
          have HR2 := Lib.hid hr2
          have HB := Lib.hid (show Below w.heap.size w wr from HB0.out.trans (hb.mono (by omega)))
          obtain ⟨W4, rfl⟩ : ∃ W4 : World, W4 = wr := ⟨_, rfl⟩
          have hsz4 : w.heap.size ≤ W4.heap.size := HB.out.size
          clear hr1 hr2 hb hinv hz0 hz1 hz2 hi i0
          obtain ⟨i0, hi, hz0, hz1, hz2⟩ := info_parts info3
          go_wp2
          go_loopw [76, 12] (fun c u ws => ∃ k : Nat, k ≤ n ∧ c = .int .i64 k ∧ ws.ownsRow W4.heap.size 3 1 u (rimL T bays k).length (nv (rimL T bays k)) ∧ Below W4.heap.size W4 ws) (fun c _ _ => n - (intOf c).toNat)
          case atStart => exact ⟨0, by omega, rfl, by exact World.ownsRow_nil _ _ _ _, Below.refl _ _⟩
          case round =>
            obtain ⟨k, hk, rfl, hown, hb⟩ := hrel
            have hle := rimL_le T bays k
            by_cases hkn : k < n
            · have hck := (HR2.out.below hb HR2.out.lt).cell (bv_get M hkn)
              rw [HM.out k] at hck
              have HE := Lib.hid (rimL_succ T bays k)
              have HW := Lib.hid hown
              have HB5 := Lib.hid hb
              have hs5 := hb.size
              obtain ⟨mk, hmk⟩ : ∃ m, manyB T bays (k : Nat) = m := ⟨_, rfl⟩
              rw [hmk] at hck HE
              clear hown hb hmk
              cases mk
              · go_wp2
                go_roundw
                case rel => exact ⟨k + 1, by omega, by go_num, by rw [HE.out]; exact HW.out, HB5.out⟩
                case measure => simp [intOf]; omega
              · go_wp2_with (at_builtin; refine wpList_append_new _ rfl _ _ 25 rfl W4.heap.size 3 i0 _ 1 8 (by kernel_rfl) hi hz0 hz1 hz2 rfl (by decide) _ _ _ rfl HW.out _ _ _ rfl (by first | rfl | simp) rfl ?_ ?_ ?_ ?_ ?_)
                all_goals first | rfl | omega | (unfold maxLen; omega) | skip
                · intro v' w5 hown5 hbel hgr
                  have HW5 := Lib.hid hown5
                  have HB6 := Lib.hid (hbel W4.heap.size _ (Nat.le_refl _) HB5.out)
                  clear hown5 hbel hgr
                  go_wp2
                  go_roundw
                  case rel => exact ⟨k + 1, by omega, by go_num, by
                    rw [HE.out]
                    simp only [if_true, nv_snoc, List.length_append]
                    exact HW5.out, HB6.out⟩
                  case measure => simp [intOf]; omega
            · obtain rfl : n = k := by omega
              obtain ⟨a1, c1, rfl⟩ := owns_slice hown
              have HW := Lib.hid hown
              have HB5 := Lib.hid (below_more HB.out hb hsz4)
              clear hown hb
              go_wp2
              go_ret
              exact ⟨_, rfl, owns_base HW.out hsz4, HB5.out⟩
end Go.Proofs.YtfbpjlfimmjieaaGreat

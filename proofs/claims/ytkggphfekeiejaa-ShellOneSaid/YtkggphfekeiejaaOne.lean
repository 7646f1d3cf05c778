/- gypsumlaw13.ShellOne: the walk. -/
import Derived.Test.YtkggphfekeiejaaShellC
import Derived.Test.YtkggphfekeiejaaAwake
import Derived.Deep.RegionHeld3
namespace Go.Proofs.Ytkggphfekeiejaa
set_option linter.unusedVariables false
set_option linter.unusedSimpArgs false
open Go.RowKit
theorem next_step {A : Nat → Nat → Prop} {n : Nat} {L : Nat → Int} (h : IsShells A n L) {i : Nat} (hi : i < n) : 0 ≤ L i ∧ L i ≤ cnt L i ∧ (L i = cnt L i → cnt L (i + 1) = cnt L i + 1) ∧ (L i ≠ cnt L i → cnt L (i + 1) = cnt L i) := by
  have h0 := h.nonneg i hi
  have h1 : L i ≤ cnt L i := by
    by_cases e : L i = 0
    · rw [e]; exact cnt_nonneg L i
    · obtain ⟨j, hj, e'⟩ := h.rg i hi (L i - 1) (by omega) (by omega)
      have := cnt_lt L i j hj
      omega
  refine ⟨h0, h1, fun e => ?_, fun e => ?_⟩
  · show max (cnt L i) (L i + 1) = _
    omega
  · show max (cnt L i) (L i + 1) = _
    omega
theorem countP_range_lt (N x : Nat) (h : x ≤ N) : ((List.range N).map fun (v : Nat) => (v : Int)).countP (· < (x : Int)) = x := by
  induction N with
  | zero => simp; omega
  | succ N ih =>
    rw [List.range_succ, List.map_append, List.countP_append]
    by_cases e : x = N + 1
    · subst e
      have : ((List.range N).map fun (v : Nat) => (v : Int)).countP (· < ((N + 1 : Nat) : Int)) = N := by
        rw [List.countP_eq_length.2]
        · simp
        · intro y hy
          simp at hy
          obtain ⟨v, hv, rfl⟩ := hy
          simp; omega
      rw [this]
      simp
      omega
    · rw [ih (by omega)]
      simp [show ¬ N < x by omega]
/-- A surface of one shell is its own part. -/
theorem one_part {N : Int} {T : List Tr} (hs : Surf N T) {L : Nat → Int} (hL : IsShells (Adj T) T.length L) (h1 : cnt L T.length = 1) : (partOf T L T.length 0).N = N ∧ (partOf T L T.length 0).S = T := by
  obtain ⟨M, rfl⟩ := Int.eq_ofNat_of_zero_le hs.n0
  have hz : ∀ i, i < T.length → L i = 0 := fun i hi => by
    have q1 := hL.nonneg i hi
    have q2 := cnt_lt L T.length i hi
    omega
  have hE : ofShell L T.length 0 = List.range T.length := by
    unfold ofShell
    refine List.filter_eq_self.2 fun i hi => ?_
    rw [hz i (List.mem_range.1 hi)]
    simp
  have hV : vertsOf T (ofShell L T.length 0) = (List.range M).map fun (v : Nat) => (v : Int) := by
    rw [← refV_verts (N := M) fun i hi j => hs.vin i hi j]
    unfold refV
    congr 1
    refine List.filter_eq_self.2 fun v hv => ?_
    obtain ⟨i, hi, hh⟩ := hs.used (v : Int) (by omega) (by have := List.mem_range.1 hv; omega)
    simp only [inV, List.any_eq_true, List.mem_range, Bool.and_eq_true, decide_eq_true_eq]
    exact ⟨i, hi, by rw [hz i hi]; rfl, hh⟩
  have hr : ∀ i, i < T.length → ∀ j, rank ((List.range M).map fun (v : Nat) => (v : Int)) (tg (T! T i) j) = tg (T! T i) j := fun i hi j => by
    obtain ⟨h0, h1⟩ := hs.vin i hi j
    obtain ⟨x, hx⟩ := Int.eq_ofNat_of_zero_le h0
    rw [hx]
    unfold rank
    rw [countP_range_lt M x (by omega)]
  constructor
  · show ((vertsOf T (ofShell L T.length 0)).length : Int) = M
    rw [hV]; simp
  · show (ofShell L T.length 0).map (fun i => ranked (vertsOf T (ofShell L T.length 0)) (T! T i)) = T
    rw [hV, hE]
    apply List.ext_getElem
    · simp
    · intro i h1 h2
      simp only [List.getElem_map, List.getElem_range]
      have e : T! T i = T[i] := by simp [T!, List.getD_eq_getElem?_getD, List.getElem?_eq_getElem h2]
      have r0 := hr i h2 0
      have r1 := hr i h2 1
      have r2 := hr i h2 2
      show ranked _ (T! T i) = T[i]
      rw [← e]
      exact Prod.ext r0 (Prod.ext r1 r2)
set_option maxRecDepth 100000 in
set_option maxHeartbeats 1500000 in
theorem one_any (N : Int) (ao : Option Addr) (cap : Nat) (T : List Tr) (w : World) (hT : TrisAt w ao T) (hm : T.length ≤ 9223372036854775807) :
    Calls Try.prog 6 #[.agg #[.int .i64 N, .slice ao T.length cap]] w fun e w' => e = .returned (.bool true) ∧ Below w.heap.size w w' := by
  have hb0 : Below w.heap.size w (w.alloc (.cells #[.int .i64 N, .slice ao T.length cap] 24)) := (Below.refl _ _).alloc (Nat.le_refl _) _
  have HF := Lib.hid (fits_any N ao cap T _ (hT.mono (Nat.le_refl _) hb0) hm)
  have HT := Lib.hid hT
  have HB0 := Lib.hid hb0
  have HX := Lib.hid (RowIs.made w 24 [.int .i64 N, .slice ao T.length cap])
  obtain ⟨n, hn⟩ : ∃ n, n = T.length := ⟨_, rfl⟩
  rw [← hn] at HF HB0 HX ⊢
  have HN := Lib.hid hn
  clear hn hT hb0 hm
  go_enter Try.func6, Try.ntmps6
  go_wp2_with fail
  refine HF.out.mono ?_
  intro e w1 hpost
  rcases hpost with ⟨p, rfl, hp, htab, hs, h30, h90, hb⟩ | ⟨rfl, hb⟩
  case inr =>
    have HB1 := Lib.hid (below_more HB0.out hb HB0.out.size)
    clear hb
    go_wp2_with fail
    refine (awake_ok _).mono ?_
    rintro e w2 ⟨rfl, hb2⟩
    have HB2 := Lib.hid (below_more HB1.out hb2 HB1.out.size)
    clear hb2
    go_wp2_with fail
    refine (awake_ok _).mono ?_
    rintro e w3 ⟨rfl, hb3⟩
    have HB3 := Lib.hid (below_more HB2.out hb3 HB2.out.size)
    clear hb3
    go_wp2
    exact bodyPost_ret (v := .bool true) (by simp [results, Try.results6, go_sem]) rfl ⟨rfl, HB3.out⟩
  case inl =>
    have HB1 := Lib.hid (below_more HB0.out hb HB0.out.size)
    have HX1 := Lib.hid (HX.out.after hb)
    have HTB1 := Lib.hid htab
    have HS := Lib.hid hs
    have hn30 : n ≤ 30 := by have := HN.out; omega
    clear hb htab hs HX HB0 HF h30 hp
    go_wp2_with fail
    refine (awake_ok _).mono ?_
    rintro e w2 ⟨rfl, hb2⟩
    have HB2 := Lib.hid (below_more HB1.out hb2 HB1.out.size)
    have HX2 := Lib.hid (HX1.out.after hb2)
    have HTB2 := Lib.hid (HTB1.out.mono (Nat.le_refl _) hb2)
    have HT2 := Lib.hid (HT.out.mono (Nat.le_refl _) HB2.out)
    obtain ⟨L, hL⟩ := shells_exist (Adj T) T.length
    obtain ⟨m, hm⟩ := Int.eq_ofNat_of_zero_le (cnt_nonneg L T.length)
    have hmn : m ≤ 30 := by have := hL.cnt_le; have := HN.out; omega
    have HL := Lib.hid hL
    have HM := Lib.hid hm.symm
    clear hb2 hL hm HB1 HX1 HTB1
    go_wp2_with fail
    refine (of_L HS.out HL.out w2 p HTB2.out).mono ?_
    rintro e w3 ⟨g, rfl, hg, hr3, hb3⟩
    rw [← HN.out] at hr3 ⊢
    have HR3 := Lib.hid hr3
    have HB3 := Lib.hid (below_more HB2.out hb3 HB2.out.size)
    have HX3 := Lib.hid (HX2.out.after hb3)
    have HTB3 := Lib.hid (HTB2.out.mono (Nat.le_refl _) hb3)
    have HT3 := Lib.hid (HT2.out.mono (Nat.le_refl _) hb3)
    have HST := Lib.hid (fun i (hi : i < n) => next_step HL.out (i := i) (by have := HN.out; omega))
    clear hr3 hb3 hg HX2 HTB2 HT2 HT HB2
    go_wp2
    go_loopw [24, 5] (fun i v ws => ∃ k : Nat, k ≤ n ∧ i = .int .i64 k ∧ v = .int .i64 (cnt L k) ∧ cnt L k ≤ k ∧ ws = w3) (fun i _ _ => n - (intOf i).toNat)
    case atStart => exact ⟨0, by omega, rfl, by simp [cnt], by simp [cnt], rfl⟩
    case round =>
      obtain ⟨k, hk, rfl, rfl, hc, rfl⟩ := hrel
      obtain ⟨W3, rfl⟩ : ∃ W3 : World, W3 = wr := ⟨_, rfl⟩
      by_cases hlt : k < n
      · have c0 := HR3.out.cell (iv_get L hlt)
        obtain ⟨q0, q1, q2, q3⟩ := HST.out k hlt
        have q4 : 0 ≤ cnt L k := cnt_nonneg L k
        by_cases he : L k = cnt L k
        · have HE := Lib.hid (q2 he)
          rw [he] at c0 q0
          obtain ⟨l, hl⟩ : ∃ l, l = cnt L k := ⟨_, rfl⟩
          rw [← hl] at c0 q0 hc HE ⊢
          clear hl q1 q2 q3 q4 he
          go_wp2
          go_roundw
          case rel => exact ⟨k + 1, by omega, by go_num, by rw [HE.out], by rw [HE.out]; omega, by trivial⟩
          case measure => simp [intOf]; omega
        · have HE := Lib.hid (q3 he)
          obtain ⟨l, hl⟩ : ∃ l, l = L k := ⟨_, rfl⟩
          obtain ⟨x, hx⟩ : ∃ x, x = cnt L k := ⟨_, rfl⟩
          rw [← hl] at c0 q0 q1 he
          rw [← hx] at q1 hc HE q4 he ⊢
          have hb1 : (l == x) = false := by simpa using he
          have hd1 : decide (l > x) = false := by simp; omega
          have hd2 : decide (l < 0) = false := by simp; omega
          clear hl hx q2 q3 he
          go_wp2
          go_roundw
          case rel => exact ⟨k + 1, by omega, by go_num, by rw [HE.out], by rw [HE.out]; omega, by trivial⟩
          case measure => simp [intOf]; omega
      · obtain rfl : k = n := by omega
        have hcm : cnt L k = (m : Int) := by rw [HN.out]; exact HM.out.symm
        rw [hcm]
        have HCM := Lib.hid hcm
        clear hcm hc HST HR3
        go_wp2_with fail
        refine (split_L HS.out HL.out HM.out W3 p HTB3.out).mono ?_
        rintro e w4 ⟨a, c, rfl, hp4, hb4⟩
        have HP4 := Lib.hid hp4
        have HB4 := Lib.hid (below_more HB3.out hb4 HB3.out.size)
        have HX4 := Lib.hid (HX3.out.after hb4)
        have HT4 := Lib.hid (HT3.out.mono (Nat.le_refl _) hb4)
        clear hp4 hb4
        by_cases hm1 : m = 1
        · subst hm1
          obtain ⟨b, e5, hbl, hk5⟩ := HP4.out (by omega)
          subst e5
          obtain ⟨hPN, hPS⟩ := one_part HS.out HL.out (by rw [← HN.out]; exact HCM.out)
          obtain ⟨aoS, cS, aoV, cV, aoT, cT, c0, c1, -, -, hS, -, -⟩ := hk5 0 (by omega)
          rw [hPN] at c0
          rw [hPS, ← HN.out] at c1
          rw [hPS] at hS
          rw [Nat.zero_mul] at c0
          replace c1 : w4.cell? ⟨b, 1, none⟩ = some (.slice aoS k cS) := by simpa using c1
          obtain ⟨xb, hxb⟩ : ∃ xb, xb = w.heap.size := ⟨_, rfl⟩
          rw [← hxb]
          rw [← hxb] at HX4
          have x0 := HX4.out.cell (i := 0) rfl
          have x1 := HX4.out.cell (i := 1) rfl
          have hxl := HX4.out.lt
          have HK := Lib.hid (show ∀ w', Hid (Below w4.heap.size w4 w') → w'.cell? ⟨b, 0, none⟩ = some (.int .i64 N) ∧ w'.cell? ⟨b, 1, none⟩ = some (.slice aoS k cS) ∧ w'.cell? ⟨xb, 0, none⟩ = some (.int .i64 N) ∧ w'.cell? ⟨xb, 1, none⟩ = some (.slice ao k cap) from fun w' hb =>
            ⟨(hb.out.cell (p := ⟨b, _, none⟩) hbl).trans c0, (hb.out.cell (p := ⟨b, _, none⟩) hbl).trans c1, (hb.out.cell (p := ⟨xb, _, none⟩) hxl).trans x0, (hb.out.cell (p := ⟨xb, _, none⟩) hxl).trans x1⟩)
          have HSM := Lib.hid (show ∀ w', Hid (Below w4.heap.size w4 w') → Calls Try.prog 19 #[.agg #[.int .i64 N, .slice aoS k cS], .agg #[.int .i64 N, .slice ao k cap]] w' fun e w'' => e = .returned (.bool true) ∧ Hid (Below w4.heap.size w4 w'') from fun w' hb => by
            have := same_any N N aoS ao cS cap T T w' (by have := HN.out; omega) (hS.mono (Nat.le_refl _) hb.out) (HT4.out.mono (Nat.le_refl _) hb.out)
            rw [← HN.out] at this
            exact this.mono fun e w'' ⟨h1, h2⟩ => ⟨by rw [h1]; simp, below_more hb.out h2 hb.out.size⟩)
          have HD4 := Lib.hid (show Below w4.heap.size w4 w4.drew from ⟨rfl, rfl, rfl, Nat.le_refl _, fun _ _ => rfl⟩)
          clear hk5 hPN hPS c0 c1 x0 x1 hxb hS hbl hxl
          go_upto_region 14 with fail
          go_region_held3 (fun w' => w'.cell? ⟨b, 0, none⟩ = some (.int .i64 N) ∧ w'.cell? ⟨b, 1, none⟩ = some (.slice aoS k cS) ∧ w'.cell? ⟨xb, 0, none⟩ = some (.int .i64 N) ∧ w'.cell? ⟨xb, 1, none⟩ = some (.slice ao k cap)) (exact HK.out _ (by assumption))
            (first | (go_at_call 19; (with_reducible refine (HSM.out _ (by assumption)).mono ?_); rintro e wA ⟨rfl, hhA⟩))
          all_goals
            go_wp2
            exact bodyPost_ret (v := .bool true) (by simp [results, Try.results6, go_sem]) rfl ⟨rfl, below_more HB4.out hhA.out HB4.out.size⟩
        · have hb1 : ((m : Int) != 1) = true := by simp; omega
          have hb2 : (m != 1) = true := by simp; omega
          clear hm1
          go_upto_region 14 with fail
          go_quiet (fail)
          go_wp2
          exact bodyPost_ret (v := .bool true) (by simp [results, Try.results6, go_sem]) rfl ⟨rfl, HB4.out.trans ⟨rfl, rfl, rfl, Nat.le_refl _, fun _ _ => rfl⟩⟩
end Go.Proofs.Ytkggphfekeiejaa

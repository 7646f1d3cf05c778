/- gypsumlaw13.ShellParts: the walk. -/
import Derived.Test.YtkggphfekeiejaaKeep
import Derived.Test.YtkggphfekeiejaaSub
import Derived.Test.YtkggphfekeiejaaAwake
namespace Go.Proofs.Ytkggphfekeiejaa
set_option linter.unusedVariables false
set_option linter.unusedSimpArgs false
open Go.RowKit
theorem part_sizes' {N : Int} {T : List Tr} (hs : Surf N T) (L : Nat → Int) (k : Nat) : (partOf T L T.length k).V.length ≤ 100000 := by
  have h1 := sorted_len (verts_sorted T (ofShell L T.length k)) hs.n0 fun x hx => by
    obtain ⟨e, he, hh⟩ := verts_mem.1 hx
    obtain ⟨j, ej⟩ := hasB_tg hh
    rw [← ej]
    exact hs.vin e (mem_ofShell.1 he).1 j
  have h2 := hs.n1
  show (vertsOf T (ofShell L T.length k)).length ≤ 100000
  omega
set_option maxRecDepth 100000 in
set_option maxHeartbeats 1500000 in
theorem parts_any (N : Int) (ao : Option Addr) (cap : Nat) (T : List Tr) (w : World) (hT : TrisAt w ao T) (hm : T.length ≤ 9223372036854775807) :
    Calls Try.prog 4 #[.agg #[.int .i64 N, .slice ao T.length cap]] w fun e w' => e = .returned (.bool true) ∧ Below w.heap.size w w' := by
  have hb0 : Below w.heap.size w (w.alloc (.cells #[.int .i64 N, .slice ao T.length cap] 24)) := (Below.refl _ _).alloc (Nat.le_refl _) _
  have HF := Lib.hid (fits_any N ao cap T _ (hT.mono (Nat.le_refl _) hb0) hm)
  have HT := Lib.hid hT
  have HB0 := Lib.hid hb0
  have HX := Lib.hid (RowIs.made w 24 [.int .i64 N, .slice ao T.length cap])
  obtain ⟨n, hn⟩ : ∃ n, n = T.length := ⟨_, rfl⟩
  rw [← hn] at HF HB0 HX ⊢
  have HN := Lib.hid hn
  clear hn hT hb0 hm
  go_enter Try.func4, Try.ntmps4
  go_wp2_with fail
  refine HF.out.mono ?_
  intro e w1 hpost
  rcases hpost with ⟨p, rfl, hp, htab, hs, h30, h90, hb⟩ | ⟨rfl, hb⟩
  case inr =>
    have HB1 := Lib.hid (below_more HB0.out hb HB0.out.size)
    clear hb
    go_wp2_with fail
    refine (awake_ok _).mono ?_
    rintro e w2 ⟨rfl, hb2⟩
    have HB2 := Lib.hid (below_more HB1.out hb2 HB1.out.size)
    clear hb2
    go_wp2_with fail
    refine (awake_ok _).mono ?_
    rintro e w3 ⟨rfl, hb3⟩
    have HB3 := Lib.hid (below_more HB2.out hb3 HB2.out.size)
    clear hb3
    go_wp2
    exact bodyPost_ret (v := .bool true) (by simp [results, Try.results4, go_sem]) rfl ⟨rfl, HB3.out⟩
  case inl =>
    have HB1 := Lib.hid (below_more HB0.out hb HB0.out.size)
    have HX1 := Lib.hid (HX.out.after hb)
    have HTB1 := Lib.hid htab
    have HS := Lib.hid hs
    have hn30 : n ≤ 30 := by have := HN.out; omega
    clear hb htab hs HX HB0 HF h30 hp
    go_wp2_with fail
    refine (awake_ok _).mono ?_
    rintro e w2 ⟨rfl, hb2⟩
    have HB2 := Lib.hid (below_more HB1.out hb2 HB1.out.size)
    have HX2 := Lib.hid (HX1.out.after hb2)
    have HTB2 := Lib.hid (HTB1.out.mono (Nat.le_refl _) hb2)
    have HT2 := Lib.hid (HT.out.mono (Nat.le_refl _) HB2.out)
    obtain ⟨L, hL⟩ := shells_exist (Adj T) T.length
    obtain ⟨m, hm⟩ := Int.eq_ofNat_of_zero_le (cnt_nonneg L T.length)
    have hmn : m ≤ 30 := by have := hL.cnt_le; have := HN.out; omega
    have HL := Lib.hid hL
    have HM := Lib.hid hm.symm
    clear hb2 hL hm HB1 HX1 HTB1
    have hmm := @run_makeMap Try.prog
    have hqn : ∀ w, (binOp .neq 45 (.agg #[.int .i64 0, .int .i64 0, .int .i64 0]) (.agg #[.int .i64 0, .int .i64 0, .int .i64 0])).run Try.prog w = .ok (.bool false) w := fun _ => by kernel_rfl
    go_wp2_with fail
    obtain ⟨mv, hmv⟩ : ∃ b, b = w2.heap.size := ⟨_, rfl⟩
    obtain ⟨W3, hW3⟩ : ∃ W3, W3 = (w2.alloc (.map #[] 0)).alloc (.map #[] 0) := ⟨_, rfl⟩
    rw [← hW3]
    have hb3 : Below w2.heap.size w2 W3 := by rw [hW3]; exact ((Below.refl _ _).alloc (Nat.le_refl _) _).alloc (by simp) _
    have HMV3 := Lib.hid (show MapIs intFam W3 mv 0 (seenC []) from by
      rw [seenC_nil, hW3, hmv]
      exact (MapIs.made (F := intFam) w2).below (Nat.le_refl _) ((Below.refl _ _).alloc (Nat.le_refl _) _))
    have HMT3 := Lib.hid (show MapIs intFam W3 (mv + 1) 0 (seenC []) from by
      rw [seenC_nil, hW3, hmv]
      simpa using MapIs.made (F := intFam) (w2.alloc (.map #[] 0)))
    have HB3 := Lib.hid (below_more HB2.out hb3 HB2.out.size)
    have HX3 := Lib.hid (HX2.out.after hb3)
    have HTB3 := Lib.hid (HTB2.out.mono (Nat.le_refl _) hb3)
    have HT3 := Lib.hid (HT2.out.mono (Nat.le_refl _) hb3)
    have hs2 : w.heap.size < w2.heap.size := HX2.out.lt
    have hs3 : mv + 2 = W3.heap.size := by rw [hW3, hmv]; simp
    rw [← hmv] at hs2 ⊢
    have hw0 : w.heap.size ≤ mv := by omega
    have HTBM := Lib.hid (show ∀ w', Below mv w2 w' → Tab w' p N T from fun w' h => HTB2.out.mono (by rw [hmv]; exact Nat.le_refl _) h)
    have HTM := Lib.hid (show ∀ w', Below mv w2 w' → TrisAt w' ao T from fun w' h => HT2.out.mono (by rw [hmv]; exact Nat.le_refl _) h)
    have HXM := Lib.hid (show ∀ w', Below mv w2 w' → RowIs w' w.heap.size 24 [.int .i64 N, .slice ao n cap] from fun w' h => HX2.out.below h hs2)
    have HBM := Lib.hid (show ∀ w', Below mv w2 w' → Below w.heap.size w w' from fun w' h => HB2.out.trans (h.mono hw0))
    have HB23 := Lib.hid (show Below mv w2 W3 from by rw [hmv]; exact hb3)
    clear hW3 hb3 HB2 HX2 HTB2 HT2 HT hmv HX3 HT3 HB3
    refine (split_L HS.out HL.out HM.out W3 p HTB3.out).mono ?_
    rintro e w4 ⟨a, c, rfl, hp4, hb4⟩
    have HP4 := Lib.hid hp4
    have HMV4 := Lib.hid (HMV3.out.below (Nat.le_refl _) hb4)
    have HMT4 := Lib.hid (HMT3.out.below (Nat.le_refl _) hb4)
    have HB4 := Lib.hid (HB23.out.trans (hb4.mono (by omega)))
    have hmt4 : mv + 1 < w4.heap.size := HMT4.out.lt
    have HG := Lib.hid (show ∀ b i v, w4.cell? ⟨b, i, none⟩ = some v → b ≠ mv ∧ b ≠ mv + 1 from fun b i v hc => ⟨cell_map HMV4.out hc, cell_map HMT4.out hc⟩)
    obtain ⟨PP, hPP⟩ : ∃ PP, PP = partOf T L T.length := ⟨_, rfl⟩
    rw [← HN.out] at hPP
    rw [HN.out] at hPP
    rw [← hPP] at HP4
    have HPP := Lib.hid hPP
    clear hp4 hb4 HMV3 HMT3 HTB3 HB23 hs3 hPP
    go_wp2
    go_loopw [33] (fun i ws => ∃ k : Nat, k ≤ m ∧ i = .int .i64 k ∧ MapIs intFam ws mv (allV PP k).length (seenC (allV PP k)) ∧ MapIs intFam ws (mv + 1) (allT PP k).length (seenC (allT PP k)) ∧ Keep w4.heap.size mv (mv + 1) w4 ws) (fun i _ => m - (intOf i).toNat)
    case atStart => exact ⟨0, by omega, rfl, HMV4.out, HMT4.out, Keep.refl _ _ _ _⟩
    case round =>
      clear HMV4 HMT4
      obtain ⟨k, hk, rfl, hmv, hmt, hke⟩ := hrel
      obtain ⟨W5, rfl⟩ : ∃ W5 : World, W5 = wr := ⟨_, rfl⟩
      have HMV := Lib.hid hmv
      have HMT := Lib.hid hmt
      have HKE := Lib.hid hke
      have hks := hke.size
      have HB5 := Lib.hid (HB4.out.trans (hke.below (by omega) (Nat.le_refl _) (Nat.le_succ _)))
      by_cases hlt : k < m
      · obtain ⟨pb, rfl, hpl, hparts⟩ := HP4.out (by omega)
        have hpa := (hparts k hlt).keep hke (Nat.le_refl _) hpl HG.out
        obtain ⟨aoS, cS, aoV, cV, aoT, cT, c0, c1, c2, c3, hS, hV, hT⟩ := hpa
        obtain ⟨M, hM⟩ := shells_exist (Adj (PP k).S) (PP k).S.length
        have HSP := Lib.hid (show Surf (PP k).N (PP k).S from by rw [HPP.out]; exact part_surf HS.out HL.out k)
        have hM1 : ((1 : Nat) : Int) = cnt M (PP k).S.length := by
          have := part_one HS.out HL.out HM.out hlt (M := M) (by rw [HPP.out] at hM; exact hM)
          rw [HPP.out]
          exact this.symm
        have HMM := Lib.hid hM
        have HM1 := Lib.hid hM1
        have hST : (PP k).S.length = (PP k).T.length := by rw [HPP.out]; simp [partOf]
        have hNV : (PP k).N = ((PP k).V.length : Nat) := by rw [HPP.out]; rfl
        have HMAP := Lib.hid (show ∀ i, i < (PP k).T.length → ∃ e : Nat, I! (PP k).T i = (e : Int) ∧ e < T.length ∧ L e = (k : Int) ∧ ∀ j, 0 ≤ tg (T! (PP k).S i) j ∧ tg (T! (PP k).S i) j < ((PP k).V.length : Int) ∧ I! (PP k).V (tg (T! (PP k).S i) j).toNat = tg (T! T e) j from fun i hi => by
          have hi' : i < (ofShell L T.length k).length := by rw [HPP.out] at hi; simpa [partOf] using hi
          have hmem := mem_ofShell.1 (List.getElem_mem hi')
          refine ⟨(ofShell L T.length k)[i], by rw [HPP.out]; exact part_T k i hi', hmem.1, hmem.2, fun j => ?_⟩
          rw [HPP.out]
          have hg : (ofShell L T.length k)[i]? = some (ofShell L T.length k)[i] := List.getElem?_eq_getElem hi'
          have e1 : T! (partOf T L T.length k).S i = ranked (vertsOf T (ofShell L T.length k)) (T! T (ofShell L T.length k)[i]) := subS_get T hg
          rw [e1, tg_ranked]
          exact ⟨rank_nonneg _ _, (rank_at (verts_sorted T _) (verts_tg hg j)).1, (rank_at (verts_sorted T _) (verts_tg hg j)).2⟩)
        have HSRT := Lib.hid (show ∀ i j, i < j → j < (PP k).V.length → I! (PP k).V i < I! (PP k).V j from fun i j hij hj => by
          have hp := verts_sorted T (ofShell L T.length k)
          have hj' : j < (vertsOf T (ofShell L T.length k)).length := by rw [HPP.out] at hj; exact hj
          have := List.pairwise_iff_getElem.1 hp i j (by omega) hj' hij
          rw [HPP.out]
          show I! (vertsOf T (ofShell L T.length k)) i < I! (vertsOf T (ofShell L T.length k)) j
          simpa [I!, List.getD_eq_getElem?_getD, List.getElem?_eq_getElem hj', List.getElem?_eq_getElem (show i < (vertsOf T (ofShell L T.length k)).length by omega)] using this)
        have HVM := Lib.hid (show ∀ q, q < (PP k).V.length → 0 ≤ I! (PP k).V q ∧ I! (PP k).V q < N ∧ I! (PP k).V q ∉ pre (fun k => (PP k).V) k q from fun q hq => by
          have h1 := (allV_mem HS.out HL.out HM.out (I! (PP k).V q)).1 (by rw [← HPP.out]; exact gather_mem.2 ⟨k, hlt, mem_I.2 ⟨q, hq, rfl⟩⟩)
          refine ⟨h1.1, h1.2, nodup_fresh ?_⟩
          rw [← pre_succ (fun k => (PP k).V) hq]
          have h2 := allV_nodup (m := m) HS.out HL.out
          rw [← HPP.out] at h2
          exact h2.sublist (pre_sub hlt))
        have HTMm := Lib.hid (show ∀ q, q < (PP k).T.length → I! (PP k).T q ∉ pre (fun k => (PP k).T) k q from fun q hq => by
          refine nodup_fresh ?_
          rw [← pre_succ (fun k => (PP k).T) hq]
          have h2 := allT_nodup (T := T) (L := L) (m := m)
          rw [← HPP.out] at h2
          exact h2.sublist (pre_sub hlt))
        have hl1 : (PP k).V.length ≤ 100000 := by
          have := part_sizes' HS.out L k
          rw [HPP.out]; exact this
        have hl2 : (PP k).T.length ≤ 100000 := by
          have := ofShell_length L T.length k
          rw [HPP.out]; simp [partOf]; have := HN.out; omega
        obtain ⟨lT, hlT⟩ : ∃ l, l = (PP k).T.length := ⟨_, rfl⟩
        obtain ⟨lV, hlV⟩ : ∃ l, l = (PP k).V.length := ⟨_, rfl⟩
        rw [hST, ← hlT] at c1
        rw [hNV, ← hlV] at c0
        rw [← hlV] at c2 hl1
        rw [← hlT] at c3 hl2
        have HLT := Lib.hid hlT
        have HLV := Lib.hid hlV
        have HLS := Lib.hid (show (PP k).S.length = lT from by rw [hST, ← hlT])
        rw [hNV, ← hlV] at HSP
        have HVI := Lib.hid hV
        have HTI := Lib.hid hT
        have HSI := Lib.hid hS
        clear hmv hmt hke hparts hM hM1 hST hNV hlT hlV hV hT hS
        go_wp2_with fail
        obtain ⟨bx, hbx⟩ : ∃ b, b = W5.heap.size := ⟨_, rfl⟩
        obtain ⟨W6, hW6⟩ : ∃ W6, W6 = W5.alloc (.cells #[.int .i64 (lV : Int), .slice aoS lT cS, .slice aoV lV cV, .slice aoT lT cT] 40) := ⟨_, rfl⟩
        have hb6 : Below W5.heap.size W5 W6 := by rw [hW6]; exact (Below.refl _ _).alloc (Nat.le_refl _) _
        have HBX6 := Lib.hid (show RowIs W6 bx 40 [.int .i64 (lV : Int), .slice aoS lT cS, .slice aoV lV cV, .slice aoT lT cT] from by rw [hW6, hbx]; exact RowIs.made W5 40 [.int .i64 (lV : Int), .slice aoS lT cS, .slice aoV lV cV, .slice aoT lT cT])
        have HNW := Lib.hid (new_ok (lV : Int) aoS cS (PP k).S W6 (HSI.out.mono (Nat.le_refl _) hb6) HSP.out)
        rw [HLS.out] at HNW
        have HB6 := Lib.hid hb6
        rw [← hW6, ← hbx]
        have hbg : mv + 1 < bx := by omega
        clear hW6 hb6 hbx c0 c1 c2 c3
        refine HNW.out.mono ?_
        rintro e w7 ⟨p7, rfl, -, htab7, hb7⟩
        have hb8 : Below w7.heap.size w7 (w7.alloc (.cells #[.int .i64 0, .int .i64 0, .int .i64 0] 45)) := (Below.refl _ _).alloc (Nat.le_refl _) _
        have HTAB8 := Lib.hid (htab7.mono (Nat.le_refl _) hb8)
        have HB8 := Lib.hid (below_more (below_more HB6.out hb7 HB6.out.size) hb8 (by have := HB6.out.size; have := hb7.size; omega))
        have HBX8 := Lib.hid ((HBX6.out.after hb7).after hb8)
        clear htab7 hb7 hb8 HNW HBX6 HB6
        have y0 := HBX8.out.cell (i := 0) rfl
        go_wp2_with fail
        refine (count_L HSP.out HMM.out HM1.out _ p7 HTAB8.out).mono ?_
        rintro e w9 ⟨rfl, hb9⟩
        have HB9 := Lib.hid (below_more HB8.out hb9 HB8.out.size)
        have HBX9 := Lib.hid (HBX8.out.after hb9)
        have y0' := HBX9.out.cell (i := 0) rfl
        have y1 := HBX9.out.cell (i := 1) rfl
        have y2 := HBX9.out.cell (i := 2) rfl
        have y3 := HBX9.out.cell (i := 3) rfl
        have HMV9 := Lib.hid (HMV.out.below (Nat.le_refl _) HB9.out)
        have HMT9 := Lib.hid (HMT.out.below (Nat.le_refl _) HB9.out)
        have HVI9 := Lib.hid (HVI.out.mono (Nat.le_refl _) HB9.out)
        have HTI9 := Lib.hid (HTI.out.mono (Nat.le_refl _) HB9.out)
        have HSI9 := Lib.hid (HSI.out.mono (Nat.le_refl _) HB9.out)
        have HBW9 := Lib.hid (HB5.out.trans (HB9.out.mono (by omega)))
        clear hb9 HTAB8 HB8 HBX8 HSP HMM HM1 HSI HTI HVI HMV HMT y0
        go_wp2
        clear y0' y1 y2 y3
        go_loopw [74] (fun i ws => ∃ q : Nat, q ≤ lV ∧ i = .int .i64 q ∧ MapIs intFam ws mv (pre (fun k => (PP k).V) k q).length (seenC (pre (fun k => (PP k).V) k q)) ∧ But w9.heap.size mv w9 ws) (fun i _ => lV - (intOf i).toNat)
        case atStart => exact ⟨0, by omega, rfl, by rw [pre_zero]; exact HMV9.out, But.refl _ _ _⟩
        case round =>
          obtain ⟨q, hq, rfl, hmv, hbt⟩ := hrel
          obtain ⟨W10, rfl⟩ : ∃ W10 : World, W10 = wr := ⟨_, rfl⟩
          have hbm : Below mv w2 W10 := HBW9.out.trans (hbt.below (by have := HBX9.out.lt; omega) (Nat.le_refl _))
          by_cases hql : q < lV
          · obtain ⟨vb, vo, v, rfl, hv, g0, -, hvl⟩ := HVI9.out.get (Nat.le_refl _) (Below.refl _ _) (i := q) (by rw [← HLV.out]; exact hql)
            have hvne : vb ≠ mv := cell_map HMV9.out g0
            replace g0 := (hbt.cell hvl hvne).trans g0
            obtain ⟨hv0, hv1, hvf⟩ := HVM.out q (by rw [← HLV.out]; exact hql)
            have HPS := Lib.hid (pre_succ (fun k => (PP k).V) (k := k) (i := q) (by show q < (PP k).V.length; rw [← HLV.out]; exact hql))
            have hiv : I! (PP k).V q = v := hv.out
            simp only [hiv] at hv0 hv1 hvf HPS
            have hx := HXM.out _ hbm
            have x0 := hx.cell (i := 0) rfl
            have y2 := (hbt.row HBX9.out HBX9.out.lt (by omega)).cell (i := 2) rfl
            have h64 : I64 v := ⟨by omega, by have := HS.out.n1; omega⟩
            have hlk := hmv.look 43 4 (by kernel_rfl) zero_bool v h64 false
            have hcn : seenC (pre (fun k => (PP k).V) k q) v = none := by unfold seenC; rw [if_neg hvf]
            rw [hcn] at hlk
            simp only [intFam, Bool.false_eq_true, if_false, Option.getD_none] at hlk
            obtain ⟨w11, hst, hm11, hg11⟩ := hmv.store 43 4 (by kernel_rfl) v h64 (.bool true)
            rw [hcn, seenC_push] at hm11
            simp only [intFam, Option.isSome_none, Bool.false_eq_true, if_false] at hst hm11
            have HM11 := Lib.hid (show MapIs intFam w11 mv (pre (fun k => (PP k).V) k (q + 1)).length (seenC (pre (fun k => (PP k).V) k (q + 1))) from by rw [HPS.out, List.length_append]; exact hm11)
            have HBT11 := Lib.hid (hbt.grown hg11 hbt.size fun q' hq' => .inr (Option.some.inj hq').symm)
            have hd0 : decide (v < 0) = false := by simp; omega
            have hd1 : decide (v ≥ N) = false := by simp; omega
            have HBTQ := Lib.hid hbt
            clear hmv hbt hbm hv hvf hx hcn hm11 hg11 HPS
            by_cases hq0 : q = 0
            · have hd2 : decide ((q : Int) > 0) = false := by simp; omega
              have hd4 : decide (0 < q) = false := by simp; omega
              clear hiv hq0
              go_wp2
              go_roundw
              case rel => exact ⟨q + 1, by omega, by go_num, HM11.out, HBT11.out⟩
              case measure => simp [intOf]; omega
            · obtain ⟨r, hr⟩ : ∃ r, r = q - 1 := ⟨_, rfl⟩
              have hrl : r < lV := by omega
              have hd2 : decide ((q : Int) > 0) = true := by simp; omega
              have hd4 : decide (0 < q) = true := by simp; omega
              have hs1 : (q : Int) - 1 = (r : Int) := by omega
              obtain ⟨vb', vo', v', e', hv', g0', -, -⟩ := HVI9.out.get (Nat.le_refl _) (Below.refl _ _) (i := r) (by rw [← HLV.out]; exact hrl)
              cases e'
              replace g0' := (HBTQ.out.cell hvl hvne).trans g0'
              have hlt' := HSRT.out r q (by omega) (by rw [← HLV.out]; exact hql)
              rw [hiv, hv'.out] at hlt'
              have hd3 : decide (v ≤ v') = false := by simp; omega
              clear hiv hq0 hr hlt' hv'
              go_wp2
              go_roundw
              case rel => exact ⟨q + 1, by omega, by go_num, HM11.out, HBT11.out⟩
              case measure => simp [intOf]; omega
          · obtain rfl : q = lV := by omega
            have HMV10 := Lib.hid (show MapIs intFam W10 mv (allV PP (k + 1)).length (seenC (allV PP (k + 1))) from by
              have e : allV PP (k + 1) = pre (fun k => (PP k).V) k q := by
                rw [HLV.out]; exact (pre_full (fun k => (PP k).V) k).symm
              rw [e]; exact hmv)
            have HBT10 := Lib.hid hbt
            have hs10 := hbt.size
            have hbxl : bx < w9.heap.size := HBX9.out.lt
            have y2 := (hbt.row HBX9.out hbxl (by omega)).cell (i := 3) rfl
            have HMT10 := Lib.hid (HMT9.out.same (hbt.block _ (by omega) (by omega)))
            have HG9 := Lib.hid (show ∀ b i v, w9.cell? ⟨b, i, none⟩ = some v → b ≠ mv ∧ b ≠ mv + 1 from fun b i v hc => ⟨cell_map HMV9.out hc, cell_map HMT9.out hc⟩)
            have hs9 : mv + 1 < w9.heap.size := HMT9.out.lt
            clear hmv hbt hbm HMV9 HMT9
            go_wp2
            clear y2
            go_loopw [112] (fun i ws => ∃ t : Nat, t ≤ lT ∧ i = .int .i64 t ∧ MapIs intFam ws (mv + 1) (pre (fun k => (PP k).T) k t).length (seenC (pre (fun k => (PP k).T) k t)) ∧ But W10.heap.size (mv + 1) W10 ws) (fun i _ => lT - (intOf i).toNat)
            case atStart => exact ⟨0, by omega, rfl, by rw [pre_zero]; exact HMT10.out, But.refl _ _ _⟩
            case round =>
              clear HMT10
              obtain ⟨t, ht, rfl, hmt, hbt⟩ := hrel
              obtain ⟨W11, rfl⟩ : ∃ W11 : World, W11 = wr := ⟨_, rfl⟩
              have hK11 : Keep w9.heap.size mv (mv + 1) w9 W11 := ((Keep.refl _ _ _ _).butl HBT10.out (Nat.le_refl _)).butr hbt (by omega)
              have hbm : Below mv w2 W11 := HBW9.out.trans (hK11.below (by omega) (Nat.le_refl _) (Nat.le_succ _))
              by_cases htl : t < lT
              · obtain ⟨e, he, heT, heL, hej⟩ := HMAP.out t (by rw [← HLT.out]; exact htl)
                obtain ⟨tb, tof, x, rfl, hx, g0, -, htbl⟩ := HTI9.out.get (Nat.le_refl _) (Below.refl _ _) (i := t) (by rw [← HLT.out]; exact htl)
                obtain rfl : x = (e : Int) := hx.out.symm.trans he
                have hne := HG9.out _ _ _ g0
                replace g0 := (hK11.cell htbl hne.1 hne.2).trans g0
                have hfr := HTMm.out t (by rw [← HLT.out]; exact htl)
                rw [he] at hfr
                have HPS := Lib.hid (pre_succ (fun k => (PP k).T) (k := k) (i := t) (by show t < (PP k).T.length; rw [← HLT.out]; exact htl))
                simp only [he] at HPS
                have hen : e < n := by have := HN.out; omega
                have hxr := HXM.out _ hbm
                have x1 := hxr.cell (i := 1) rfl
                have HTB11 := Lib.hid (HTBM.out _ hbm)
                have h64 : I64 (e : Int) := ⟨by omega, by omega⟩
                have hlk := hmt.look 43 4 (by kernel_rfl) zero_bool (e : Int) h64 false
                have hcn : seenC (pre (fun k => (PP k).T) k t) (e : Int) = none := by unfold seenC; rw [if_neg hfr]
                rw [hcn] at hlk
                simp only [intFam, Bool.false_eq_true, if_false, Option.getD_none] at hlk
                have HCN := Lib.hid hcn
                have HMT11 := Lib.hid hmt
                have HBT11 := Lib.hid hbt
                have HK11 := Lib.hid hK11
                have HEJ := Lib.hid hej
                have HEL := Lib.hid heL
                have hd0 : decide ((e : Int) < 0) = false := by simp
                have hd1 : decide ((e : Int) ≥ (n : Int)) = false := by simp; omega
                have hd5 : decide (n ≤ e) = false := by simpa using hen
                clear hmt hbt hK11 hbm hx he hfr hxr hcn hej heL hne heT
                go_wp2_with fail
                refine (of_L HS.out HL.out W11 p HTB11.out).mono ?_
                rintro e' w12 ⟨go, rfl, hgo, hro, hb12⟩
                rw [← HN.out] at hro ⊢
                have hoc := hro.cell (iv_get L hen)
                rw [HEL.out] at hoc
                have hmt12 := HMT11.out.below (Nat.le_refl _) hb12
                obtain ⟨w13, hst, hm13, hg13⟩ := hmt12.store 43 4 (by kernel_rfl) (e : Int) h64 (.bool true)
                rw [HCN.out, seenC_push] at hm13
                simp only [intFam, Option.isSome_none, Bool.false_eq_true, if_false] at hst hm13
                have HM13 := Lib.hid (show MapIs intFam w13 (mv + 1) (pre (fun k => (PP k).T) k (t + 1)).length (seenC (pre (fun k => (PP k).T) k (t + 1))) from by rw [HPS.out, List.length_append]; exact hm13)
                have hs11 := HBT11.out.size
                have hb1213 : But W11.heap.size (mv + 1) W11 w13 := ((But.refl _ _ _).more hb12 (Nat.le_refl _)).grown hg13 hb12.size fun q' hq' => .inr (Option.some.inj hq').symm
                have HBT13 := Lib.hid (HBT11.out.trans (hb1213.mono hs11))
                have HK13 := Lib.hid (HK11.out.butr hb1213 (by have := HK11.out.size; omega))
                clear hro hmt12 hm13 hg13 hb12 hb1213 HTB11 HMT11 HBT11 HK11 HCN HPS
                go_wp2
                clear hst hlk hoc g0 x1
                go_loopw [142] (fun i ws => ∃ j : Nat, j ≤ 3 ∧ i = .int .i64 j ∧ Below w13.heap.size w13 ws) (fun i _ => 3 - (intOf i).toNat)
                case atStart => exact ⟨0, by omega, rfl, Below.refl _ _⟩
                case round =>
                  obtain ⟨j, hj, rfl, hb⟩ := hrel
                  obtain ⟨W14, rfl⟩ : ∃ W14 : World, W14 = wr := ⟨_, rfl⟩
                  have HB14 := Lib.hid hb
                  by_cases hj3 : j < 3
                  · have hK := HK13.out.more hb (by have := HK13.out.size; omega)
                    have hbm := HBW9.out.trans (hK.below (B' := mv) (by omega) (Nat.le_refl _) (Nat.le_succ _))
                    obtain ⟨j0, j1, j2⟩ := HEJ.out j
                    obtain ⟨r, hr⟩ := Int.eq_ofNat_of_zero_le j0
                    have hrl : r < q := by have := HLV.out; omega
                    obtain ⟨sb, so, rfl, sc, -⟩ := (HSI9.out.keep hK (Nat.le_refl _) HG9.out).at (i := t) (j := j) (by rw [HLS.out]; exact htl) hj3
                    rw [hr] at sc j2
                    obtain ⟨ob, oo, rfl, oc, -⟩ := (HTM.out _ hbm).at (i := e) (j := j) (by rw [← HN.out]; exact hen) hj3
                    obtain ⟨vb, vo, v, rfl, hv, vc, -, -⟩ := (HVI9.out.keep hK (Nat.le_refl _) HG9.out).get (Nat.le_refl _) (Below.refl _ _) (i := r) (by rw [← HLV.out]; exact hrl)
                    rw [Int.toNat_natCast, hv.out] at j2
                    rw [← j2] at oc
                    have hbxl : bx < w9.heap.size := HBX9.out.lt
                    have hbr : RowIs W14 bx 40 _ := (hK.block bx hbxl (by omega) (by omega)).trans HBX9.out
                    have y1 := hbr.cell (i := 1) rfl
                    have y2 := hbr.cell (i := 2) rfl
                    have x1 := (HXM.out _ hbm).cell (i := 1) rfl
                    clear hK hbm j0 j1 j2 hr hv hbr hb
                    go_upto_region 27 with fail
                    go_quiet (fail)
                    go_wp2
                    go_roundw
                    case rel => exact ⟨j + 1, by omega, by go_num, HB14.out.trans ⟨rfl, rfl, rfl, Nat.le_refl _, fun _ _ => rfl⟩⟩
                    case measure => simp [intOf]; omega
                  · obtain rfl : j = 3 := by omega
                    have HM14 := Lib.hid (HM13.out.below (Nat.le_refl _) hb)
                    have HBT14 := Lib.hid (HBT13.out.more hb (by have := HBT13.out.size; omega))
                    clear hb
                    go_wp2
                    go_roundw
                    case rel => exact ⟨t + 1, by omega, by go_num, HM14.out, HBT14.out⟩
                    case measure => simp [intOf]; omega
              · obtain rfl : t = lT := by omega
                have HMV11 := Lib.hid (HMV10.out.same (hbt.block _ (by omega) (by omega)))
                have HMT11 := Lib.hid (show MapIs intFam W11 (mv + 1) (allT PP (k + 1)).length (seenC (allT PP (k + 1))) from by
                  have e : allT PP (k + 1) = pre (fun k => (PP k).T) k t := by
                    rw [HLT.out]; exact (pre_full (fun k => (PP k).T) k).symm
                  rw [e]; exact hmt)
                have HK4 := Lib.hid (((HKE.out.more HB9.out (by omega)).butl HBT10.out (by have := HB9.out.size; omega)).butr hbt (by have := HB9.out.size; omega))
                clear hmt hbt hK11 hbm
                go_wp2
                go_roundw
                case rel => exact ⟨k + 1, by omega, by go_num, HMV11.out, HMT11.out, HK4.out⟩
                case measure => simp [intOf]; omega
      · obtain rfl : k = m := by omega
        have hcv : (((allV PP k).length : Nat) : Int) = N := by
          obtain ⟨Mn, hMn⟩ := Int.eq_ofNat_of_zero_le HS.out.n0
          have h1 := allV_nodup (m := k) HS.out HL.out
          have h2 := allV_mem HS.out HL.out HM.out
          rw [HPP.out]
          rw [hMn] at h2 ⊢
          rw [range_length h1 h2]
        have hct : (((allT PP k).length : Nat) : Int) = (n : Int) := by
          have h1 := allT_nodup (T := T) (L := L) (m := k)
          have h2 := allT_mem HL.out HM.out
          rw [HPP.out, HN.out, range_length h1 h2]
        have hlv := hm_len hmv
        have hlt' := hm_len hmt
        rw [hcv] at hlv
        rw [hct] at hlt'
        have hbm := HB4.out.trans (hke.below (B' := mv) (by omega) (Nat.le_refl _) (Nat.le_succ _))
        have hxr := HXM.out _ hbm
        have x0 := hxr.cell (i := 0) rfl
        have x1 := hxr.cell (i := 1) rfl
        have HBF := Lib.hid (HBM.out _ hbm)
        clear hmv hmt hke hcv hct hbm hxr
        go_wp2
        exact bodyPost_ret (v := .bool true) (by simp [results, Try.results4, go_sem]) rfl ⟨rfl, HBF.out⟩
end Go.Proofs.Ytkggphfekeiejaa

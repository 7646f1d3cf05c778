/- gypsumref15.After: the vertex behind one on its border loop. gypsumref32.Disc of a surface: its edges and its border loops, counted. A surface of one shell is a disc by its Euler number just if genus.Whole tells so. Plain. -/
import Derived.Test.YtfbpjlfimmjieaaGreatRef15
import Derived.Test.YtfbpjlfimmjieaaGreatFanPerm
import Derived.BigQuiet
import Derived.Test.YtfbpjlfimmjieaaGreatDartLaw
namespace Go.Proofs.YtfbpjlfimmjieaaGreat
set_option linter.unusedVariables false
set_option linter.unusedSimpArgs false
open Go.RowKit
/-- The vertex behind v, or -1. -/
def aftB (T : List Tr) (v : Int) : Int := (nextB (bordE T (3 * T.length)) v).getD (-1)
theorem aftB_hit {N : Int} {T : List Tr} (hs : Surf N T) {c : Nat} (hc : c < 3 * T.length) (ho : opp T (c : Nat) < 0) : aftB T (vt T (pvn c : Nat)) = vt T (nxn c : Nat) := by
  unfold aftB
  rw [nextB_of hs.oneIn.ends (a := vt T (nxn c : Nat))]
  · rfl
  · have : edgeAt T (c : Int) = (vt T (nxn c : Nat), vt T (pvn c : Nat)) := edgeAt_nat T c
    rw [← this]
    unfold bordE
    exact List.mem_map.2 ⟨c, List.mem_filter.2 ⟨List.mem_range.2 hc, by simpa using ho⟩, rfl⟩
theorem aftB_miss {T : List Tr} {v : Int} (h : ∀ c : Nat, c < 3 * T.length → opp T (c : Nat) < 0 → vt T (pvn c : Nat) ≠ v) : aftB T v = -1 := by
  unfold aftB
  rw [nextB_none.2]
  · rfl
  · intro hm
    obtain ⟨e, he, hv⟩ := List.mem_map.1 hm
    obtain ⟨c, hc, ho, rfl⟩ := bordE_mem he
    rw [edgeAt_nat] at hv
    exact h c hc ho hv
set_option maxRecDepth 100000 in
set_option maxHeartbeats 1500000 in
theorem after15 (N : Int) (ao : Option Addr) (cap : Nat) (T : List Tr) (v : Int) (w : World) (hT : TrisAt w ao T) (hs : Surf N T) :
    Calls Tryz.prog 64 #[.agg #[.int .i64 N, .slice ao T.length cap], .int .i64 v] w fun e w' => e = .returned (.int .i64 (aftB T v)) ∧ Below w.heap.size w w' := by
  obtain ⟨W0, hW0⟩ : ∃ W0, W0 = w.alloc (.cells #[.int .i64 N, .slice ao T.length cap] 24) := ⟨_, rfl⟩
  have hb0 : Below w.heap.size w W0 := by rw [hW0]; exact (Below.refl _ _).alloc (Nat.le_refl _) _
  have hr0 : RowIs W0 w.heap.size 24 [.int .i64 N, .slice ao T.length cap] := by rw [hW0]; exact RowIs.made w 24 [.int .i64 N, .slice ao T.length cap]
  have hl : T.length ≤ 10000 := by have := hs.t1; omega
  have HT := Lib.hid (hT.mono (Nat.le_refl _) hb0)
  have HS := Lib.hid hs
  have HV := Lib.hid (fun (X : World) (c : Nat) (h : TrisAt X ao T) (hc : c < 3 * T.length) => v15 N ao cap T c X h hl hc)
  have HOP := Lib.hid (fun (X : World) (c : Nat) (h : TrisAt X ao T) (hc : c < 3 * T.length) => opp15 N ao cap T c X h hs hc)
  obtain ⟨xb, hxb⟩ : ∃ x, x = w.heap.size := ⟨_, rfl⟩
  obtain ⟨len, hlen⟩ : ∃ n, n = T.length := ⟨_, rfl⟩
  obtain ⟨l3, hl3⟩ : ∃ x, x = 3 * len := ⟨_, rfl⟩
  obtain ⟨av, hav⟩ : ∃ x, x = aftB T v := ⟨_, rfl⟩
  rw [← hav]
  rw [← hlen] at hl hW0 hr0 ⊢
  simp only [← hlen] at HV HOP
  rw [← hxb] at hr0
  have h3 : (3 : Int) * (len : Int) = (l3 : Int) := by omega
  have hl3' : l3 ≤ 30000 := by omega
  have HL := Lib.hid hlen
  have HL3 := Lib.hid hl3
  have HB0 := Lib.hid hb0
  have HR0 := Lib.hid hr0
  have HW0 := Lib.hid hW0
  have HXB := Lib.hid hxb
  have HAV := Lib.hid hav
  clear hT hb0 hr0 hlen hl3 hW0 hxb hs hav
  go_enter Tryz.func64, Tryz.ntmps64
  go_upto_region 1 with fail
  rw [← HW0.out, ← HXB.out]
  go_wp2
  go_loopw [5] (fun i ws => ∃ c : Nat, c ≤ l3 ∧ i = .int .i64 c ∧ (∀ d : Nat, d < c → opp T (d : Nat) < 0 → vt T (pvn d : Nat) ≠ v) ∧ Below W0.heap.size W0 ws) (fun i _ => l3 - (intOf i).toNat)
  case atStart => exact ⟨0, by omega, rfl, fun d h => by omega, Below.refl _ _⟩
  case round =>
  obtain ⟨c, hc, rfl, hno, hb⟩ := hrel
  obtain ⟨X, rfl⟩ : ∃ X : World, X = wr := ⟨_, rfl⟩
  have hbox := HR0.out.after hb
  have c0 := hbox.cell (i := 0) rfl
  have c1 := hbox.cell (i := 1) rfl
  have HNO := Lib.hid hno
  have HB := Lib.hid hb
  by_cases hlt : c < l3
  case neg =>
    obtain rfl : l3 = c := by omega
    have HF := Lib.hid (show av = -1 from by rw [HAV.out]; exact aftB_miss fun d hd => HNO.out d (by have := HL3.out; have := HL.out; omega))
    have HBF := Lib.hid (below_more HB0.out hb HB0.out.size)
    clear hno hb hbox
    go_wp2
    go_ret
    exact ⟨by rw [HF.out]; rfl, HBF.out⟩
  case pos =>
  have hcT : c < 3 * T.length := by have := HL3.out; have := HL.out; omega
  obtain ⟨p, hp⟩ : ∃ p, p = vt T (nxn c : Nat) := ⟨_, rfl⟩
  obtain ⟨q, hq⟩ : ∃ q, q = vt T (pvn c : Nat) := ⟨_, rfl⟩
  obtain ⟨o, ho⟩ : ∃ o, o = opp T (c : Nat) := ⟨_, rfl⟩
  have HQ := Lib.hid (show q = vt T (pvn c : Nat) ∧ o = opp T (c : Nat) ∧ p = vt T (nxn c : Nat) from ⟨hq, ho, hp⟩)
  have HK := Lib.hid (show ∀ w', Hid (Below X.heap.size X w') → w'.cell? ⟨xb, 0, none⟩ = some (.int .i64 N) ∧ w'.cell? ⟨xb, 1, none⟩ = some (.slice ao len cap) from fun w' h => ⟨(hbox.after h.out).cell (i := 0) rfl, (hbox.after h.out).cell (i := 1) rfl⟩)
  have HN := Lib.hid (show ∀ w', Calls Tryz.prog 55 #[.int .i64 (c : Int)] w' fun e w'' => e = .returned (.int .i64 (nxn c : Nat)) ∧ w' = w'' from fun w' => next15 c w' (by omega))
  have HP := Lib.hid (show ∀ w', Calls Tryz.prog 56 #[.int .i64 (c : Int)] w' fun e w'' => e = .returned (.int .i64 (pvn c : Nat)) ∧ w' = w'' from fun w' => prev15 c w' (by omega))
  obtain ⟨nc, hnc⟩ : ∃ x, x = nxn c := ⟨_, rfl⟩
  obtain ⟨pc, hpc⟩ : ∃ x, x = pvn c := ⟨_, rfl⟩
  have HV1 := Lib.hid (show ∀ w', Hid (Below X.heap.size X w') → Calls Tryz.prog 62 #[.agg #[.int .i64 N, .slice ao len cap], .int .i64 (nc : Int)] w' fun e w'' => e = .returned (.int .i64 p) ∧ Hid (Below X.heap.size X w'') from fun w' h => by
    rw [hp, hnc]
    exact (HV.out w' (nxn c) (HT.out.mono (Nat.le_refl _) (below_more hb h.out hb.size)) (by rw [HL.out]; exact nxn_lt hcT)).mono fun e w'' ⟨h1, h2⟩ => ⟨h1, below_more h.out h2 h.out.size⟩)
  have HV2 := Lib.hid (show ∀ w', Hid (Below X.heap.size X w') → Calls Tryz.prog 62 #[.agg #[.int .i64 N, .slice ao len cap], .int .i64 (pc : Int)] w' fun e w'' => e = .returned (.int .i64 q) ∧ Hid (Below X.heap.size X w'') from fun w' h => by
    rw [hq, hpc]
    exact (HV.out w' (pvn c) (HT.out.mono (Nat.le_refl _) (below_more hb h.out hb.size)) (by rw [HL.out]; exact pvn_lt hcT)).mono fun e w'' ⟨h1, h2⟩ => ⟨h1, below_more h.out h2 h.out.size⟩)
  have HO := Lib.hid (show ∀ w', Hid (Below X.heap.size X w') → Calls Tryz.prog 52 #[.agg #[.int .i64 N, .slice ao len cap], .int .i64 (c : Int)] w' fun e w'' => e = .returned (.int .i64 o) ∧ Hid (Below X.heap.size X w'') from fun w' h => by
    rw [ho]
    exact (HOP.out w' c (HT.out.mono (Nat.le_refl _) (below_more hb h.out hb.size)) (by rw [HL.out]; exact hcT)).mono fun e w'' ⟨h1, h2⟩ => ⟨h1, below_more h.out h2 h.out.size⟩)
  have HRF := Lib.hid (Below.refl X.heap.size X)
  have HDR := Lib.hid (show Below X.heap.size X X.drew from ⟨rfl, rfl, rfl, Nat.le_refl _, fun _ _ => rfl⟩)
  have HDR2 := Lib.hid (show Below X.heap.size X X.drew.drew from ⟨rfl, rfl, rfl, Nat.le_refl _, fun _ _ => rfl⟩)
  simp only [← hnc] at HN
  simp only [← hpc] at HP
  clear hp hq ho hno hb hnc hpc hbox HV HOP
  go_upto_region 4 with fail
  by_cases h1 : q = v
  · clear c0 c1
    have d1 : (q == v) = true := by simpa using h1
    by_cases h2 : o < 0
    · have d2 : decide (o < 0) = true := by simpa using h2
      go_cut [5, 25] (fun s5 s wc => s5 = .int .i64 (c : Int) ∧ s = .bool true ∧ Below X.heap.size X wc)
      case first =>
        go_region_held3 (fun w' => w'.cell? ⟨xb, 0, none⟩ = some (.int .i64 N) ∧ w'.cell? ⟨xb, 1, none⟩ = some (.slice ao len cap))
          (exact HK.out _ (by assumption))
          (first
            | (go_at_call 56; (with_reducible refine (HP.out _).mono ?_); rintro e wP ⟨rfl, rfl⟩)
            | (go_at_call 62; (with_reducible refine (HV2.out _ (by assumption)).mono ?_); rintro e wV ⟨rfl, hV⟩)
            | (go_at_call 52; (with_reducible refine (HO.out _ (by assumption)).mono ?_); rintro e wO ⟨rfl, hO⟩))
        all_goals
          go_wp2
          go_meet
          exact ⟨rfl, rfl, hO.out⟩
      case rest =>
        obtain ⟨rfl, rfl, hbc⟩ := hcut
        obtain ⟨Y, rfl⟩ : ∃ Y : World, Y = wc := ⟨_, rfl⟩
        have HAP := Lib.hid (show av = p from by
          rw [HAV.out, ← h1, HQ.out.1, HQ.out.2.2]
          exact aftB_hit HS.out hcT (by rw [← HQ.out.2.1]; exact h2))
        have HBC := Lib.hid hbc
        have HDY := Lib.hid (show Below X.heap.size X Y.drew from hbc.trans ⟨rfl, rfl, rfl, Nat.le_refl _, fun _ _ => rfl⟩)
        have HBF := Lib.hid (show ∀ w', Hid (Below X.heap.size X w') → Below w.heap.size w w' from fun w' h => below_more HB0.out (below_more HB.out h.out HB.out.size) HB0.out.size)
        clear hbc h1 h2
        go_upto_region 5 with fail
        go_region_held3 (fun w' => w'.cell? ⟨xb, 0, none⟩ = some (.int .i64 N) ∧ w'.cell? ⟨xb, 1, none⟩ = some (.slice ao len cap))
          (exact HK.out _ (by assumption))
          (first
            | (go_at_call 55; (with_reducible refine (HN.out _).mono ?_); rintro e wP ⟨rfl, rfl⟩)
            | (go_at_call 62; (with_reducible refine (HV1.out _ (by assumption)).mono ?_); rintro e wV ⟨rfl, hV⟩))
        all_goals
          go_wp2
          go_ret
          exact ⟨by rw [HAP.out]; rfl, HBF.out _ hV⟩
    · have d2 : decide (o < 0) = false := by simpa using h2
      go_cut [5, 25] (fun s5 s wc => s5 = .int .i64 (c : Int) ∧ s = .bool false ∧ Below X.heap.size X wc)
      case first =>
        go_region_held3 (fun w' => w'.cell? ⟨xb, 0, none⟩ = some (.int .i64 N) ∧ w'.cell? ⟨xb, 1, none⟩ = some (.slice ao len cap))
          (exact HK.out _ (by assumption))
          (first
            | (go_at_call 56; (with_reducible refine (HP.out _).mono ?_); rintro e wP ⟨rfl, rfl⟩)
            | (go_at_call 62; (with_reducible refine (HV2.out _ (by assumption)).mono ?_); rintro e wV ⟨rfl, hV⟩)
            | (go_at_call 52; (with_reducible refine (HO.out _ (by assumption)).mono ?_); rintro e wO ⟨rfl, hO⟩))
        all_goals
          go_wp2
          go_meet
          exact ⟨rfl, rfl, hO.out⟩
      case rest =>
        obtain ⟨rfl, rfl, hbc⟩ := hcut
        have HNO2 := Lib.hid (show ∀ d : Nat, d < c + 1 → opp T (d : Nat) < 0 → vt T (pvn d : Nat) ≠ v from fun d hd ho => by
          by_cases e : d = c
          · subst e; exact absurd (by rw [HQ.out.2.1]; exact ho) h2
          · exact HNO.out d (by omega) ho)
        have HBF := Lib.hid (below_more HB.out hbc HB.out.size)
        clear hbc h1 h2
        go_wp2
        go_roundw
        case rel => exact ⟨c + 1, by omega, by go_num, HNO2.out, HBF.out⟩
        case measure => simp [intOf]; omega
  · have d1 : (q == v) = false := by simpa using h1
    have H1 := Lib.hid h1
    clear h1
    go_cut [5, 25] (fun s5 s wc => s5 = .int .i64 (c : Int) ∧ s = .bool false ∧ Below X.heap.size X wc)
    case first =>
      first
      | go_region_law (first
        | (go_simp; go_at_call 56; (with_reducible refine (HP.out _).mono ?_); rintro e wP ⟨rfl, rfl⟩)
        | (go_simp; go_at_call 62; (with_reducible refine (HV2.out _ (by assumption)).mono ?_); rintro e wV ⟨rfl, hV⟩))
      | fail
      all_goals
        go_wp2
        go_meet
        exact ⟨rfl, rfl, hV.out⟩
    case rest =>
      obtain ⟨rfl, rfl, hbc⟩ := hcut
      have HNO2 := Lib.hid (show ∀ d : Nat, d < c + 1 → opp T (d : Nat) < 0 → vt T (pvn d : Nat) ≠ v from fun d hd ho => by
        by_cases e : d = c
        · subst e; rw [← HQ.out.1]; exact H1.out
        · exact HNO.out d (by omega) ho)
      have HBF := Lib.hid (below_more HB.out hbc HB.out.size)
      clear hbc
      go_wp2
      go_roundw
      case rel => exact ⟨c + 1, by omega, by go_num, HNO2.out, HBF.out⟩
      case measure => simp [intOf]; omega
/-- Edges, each at its last corner. -/
def edC (T : List Tr) (c : Nat) : Nat := ((List.range c).filter fun x => decide (opp T (x : Nat) < 0) || decide ((x : Int) < opp T (x : Nat))).length
theorem edC_succ (T : List Tr) (c : Nat) : edC T (c + 1) = edC T c + (if opp T (c : Nat) < 0 ∨ (c : Int) < opp T (c : Nat) then 1 else 0) := by
  unfold edC
  rw [List.range_succ, List.filter_append, List.length_append]
  congr 1
  by_cases h1 : opp T (c : Nat) < 0 <;> by_cases h2 : (c : Int) < opp T (c : Nat) <;> simp [h1, h2]
theorem edC_le (T : List Tr) (c : Nat) : edC T c ≤ c := by
  unfold edC
  exact Nat.le_trans (List.length_filter_le _ _) (by simp)
/-- Loops, each at its least vertex. -/
def hdC (T : List Tr) (n : Nat) : Nat := ((List.range n).filter fun (v : Nat) => minB (bordE T (3 * T.length)) (v : Int)).length
theorem hdC_yes {T : List Tr} {k : Nat} (h : minB (bordE T (3 * T.length)) (k : Int) = true) : hdC T (k + 1) = hdC T k + 1 := by simp [hdC, List.range_succ, h]
theorem hdC_no {T : List Tr} {k : Nat} (h : minB (bordE T (3 * T.length)) (k : Int) = false) : hdC T (k + 1) = hdC T k := by simp [hdC, List.range_succ, h]
theorem hdC_le (T : List Tr) (n : Nat) : hdC T n ≤ n := by
  unfold hdC
  exact Nat.le_trans (List.length_filter_le _ _) (by simp)
def discB (n : Nat) (T : List Tr) : Bool := decide (hdC T n = 1) && decide ((n : Int) - (edC T (3 * T.length) : Int) + (T.length : Int) = 1)
theorem aftB_in {N : Int} {T : List Tr} (hs : Surf N T) {v : Int} (hv : v ∈ (bordE T (3 * T.length)).map Prod.snd) : aftB T v = sg (bordE T (3 * T.length)) v := by
  unfold aftB sg
  cases h : nextB (bordE T (3 * T.length)) v with
  | none => exact absurd hv (nextB_none.1 h)
  | some a => rfl
theorem aftB_out {T : List Tr} {v : Int} (hv : v ∉ (bordE T (3 * T.length)).map Prod.snd) : aftB T v = -1 := by
  unfold aftB
  rw [nextB_none.2 hv]
  rfl
theorem per_n {n : Nat} {T : List Tr} (hs : Surf n T) {v : Int} {p : Nat} (h : Per (bordE T (3 * T.length)) v p) : p ≤ n := by
  refine Nat.le_trans h.le ?_
  have := sub_len ((bordE T (3 * T.length)).map Prod.snd) ((List.range n).map fun (x : Nat) => (x : Int)) hs.oneIn.ends fun x hx => by
    have := hs.bord_in hx
    exact List.mem_map.2 ⟨x.toNat, List.mem_range.2 (by omega), by omega⟩
  simpa using this
theorem min_per {n : Nat} {T : List Tr} (hs : Surf n T) {v : Int} {p : Nat} (hv : v ∈ (bordE T (3 * T.length)).map Prod.snd) (h : Per (bordE T (3 * T.length)) v p) : minB (bordE T (3 * T.length)) v = true ↔ ∀ j, 1 ≤ j → j < p → v < it (bordE T (3 * T.length)) j v := by
  rw [minB_iff]
  constructor
  · rintro ⟨-, hm⟩ j h1 h2
    have := hm _ ((hs.oneIn.orb_mem hv).2 ⟨j, rfl⟩)
    have := h.least j h1 h2
    omega
  · intro hm
    refine ⟨hv, fun u hu => ?_⟩
    obtain ⟨k, rfl⟩ := (hs.oneIn.orb_mem hv).1 hu
    rw [h.mod k]
    have hlt := Nat.mod_lt k h.pos
    by_cases e : k % p = 0
    · rw [e]; exact Int.le_refl _
    · have := hm (k % p) (by omega) hlt
      omega
set_option maxRecDepth 100000 in
set_option maxHeartbeats 2000000 in
theorem disc32 (n : Nat) (ao : Option Addr) (cap : Nat) (T : List Tr) (w : World) (hT : TrisAt w ao T) (hs : Surf n T) :
    Calls Tryz.prog 25 #[.agg #[.int .i64 (n : Int), .slice ao T.length cap]] w fun e w' => e = .returned (.bool (discB n T)) ∧ Below w.heap.size w w' := by
  obtain ⟨W0, hW0⟩ : ∃ W0, W0 = w.alloc (.cells #[.int .i64 (n : Int), .slice ao T.length cap] 24) := ⟨_, rfl⟩
  have hb0 : Below w.heap.size w W0 := by rw [hW0]; exact (Below.refl _ _).alloc (Nat.le_refl _) _
  have hr0 : RowIs W0 w.heap.size 24 [.int .i64 (n : Int), .slice ao T.length cap] := by rw [hW0]; exact RowIs.made w 24 [.int .i64 (n : Int), .slice ao T.length cap]
  have hl : T.length ≤ 8192 := hs.t1
  have hn : n ≤ 4096 := by have := hs.n1; omega
  have hT0 := hT.mono (Nat.le_refl _) hb0
  have HS := Lib.hid hs
  have HOP := Lib.hid (show ∀ (X : World) (c : Nat), Below W0.heap.size W0 X → c < 3 * T.length → Calls Tryz.prog 52 #[.agg #[.int .i64 (n : Int), .slice ao T.length cap], .int .i64 (c : Int)] X fun e w'' => e = .returned (.int .i64 (opp T (c : Nat))) ∧ Below W0.heap.size W0 w'' from fun X c hX hc => (opp15 n ao cap T c X (hT0.mono (Nat.le_refl _) hX) hs hc).mono fun e w'' ⟨h1, h2⟩ => ⟨h1, below_more hX h2 hX.size⟩)
  have HAF := Lib.hid (show ∀ (X : World) (v : Int), Below W0.heap.size W0 X → Calls Tryz.prog 64 #[.agg #[.int .i64 (n : Int), .slice ao T.length cap], .int .i64 v] X fun e w'' => e = .returned (.int .i64 (aftB T v)) ∧ Below W0.heap.size W0 w'' from fun X v hX => (after15 n ao cap T v X (hT0.mono (Nat.le_refl _) hX) hs).mono fun e w'' ⟨h1, h2⟩ => ⟨h1, below_more hX h2 hX.size⟩)
  obtain ⟨xb, hxb⟩ : ∃ x, x = w.heap.size := ⟨_, rfl⟩
  obtain ⟨len, hlen⟩ : ∃ n, n = T.length := ⟨_, rfl⟩
  obtain ⟨l3, hl3⟩ : ∃ x, x = 3 * T.length := ⟨_, rfl⟩
  obtain ⟨res, hres⟩ : ∃ r, r = discB n T := ⟨_, rfl⟩
  rw [← hres]
  rw [← hl3] at HOP
  have h3 : (3 : Int) * (len : Int) = (l3 : Int) := by omega
  have hl3' : l3 ≤ 30000 := by omega
  have hl8 : len ≤ 8192 := by omega
  rw [← hlen] at hW0 hr0 ⊢
  simp only [← hlen] at HOP HAF
  rw [← hxb] at hr0
  have HL := Lib.hid hlen
  have HL3 := Lib.hid hl3
  have HB0 := Lib.hid hb0
  have HR0 := Lib.hid hr0
  have HW0 := Lib.hid hW0
  have HXB := Lib.hid hxb
  have HRES := Lib.hid hres
  clear hT hT0 hb0 hr0 hlen hl3 hW0 hxb hs hres hl
  go_enter Tryz.func25, Tryz.ntmps25
  go_upto_region 1 with fail
  rw [← HW0.out, ← HXB.out]
  go_wp2
  go_loopw [3, 5] (fun e i ws => ∃ c : Nat, c ≤ l3 ∧ i = .int .i64 c ∧ e = .int .i64 (edC T c : Nat) ∧ Below W0.heap.size W0 ws) (fun _ i _ => l3 - (intOf i).toNat)
  case atStart => exact ⟨0, by omega, rfl, rfl, Below.refl _ _⟩
  case round =>
  obtain ⟨c, hc, rfl, rfl, hb⟩ := hrel
  obtain ⟨X, rfl⟩ : ∃ X : World, X = wr := ⟨_, rfl⟩
  have hbox := HR0.out.after hb
  have c0 := hbox.cell (i := 0) rfl
  have c1 := hbox.cell (i := 1) rfl
  have HB := Lib.hid hb
  by_cases hlt : c < l3
  case pos =>
    have HO := Lib.hid (HOP.out X c hb hlt)
    obtain ⟨o, ho⟩ : ∃ o, o = opp T (c : Nat) := ⟨_, rfl⟩
    rw [← ho] at HO
    have HE := Lib.hid (edC_succ T c)
    rw [← ho] at HE
    have hle := edC_le T c
    obtain ⟨ec, hec⟩ : ∃ x, x = edC T c := ⟨_, rfl⟩
    rw [← hec] at HE hle
    rw [← hec]
    clear ho hb hbox hec
    go_wp2_with fail
    refine HO.out.mono ?_
    rintro e w1 ⟨rfl, hb1⟩
    have HB1 := Lib.hid hb1
    clear hb1 HO c0 c1
    by_cases h1 : o < 0
    · have d1 : decide (o < 0) = true := by simpa using h1
      have HN := Lib.hid (show edC T (c + 1) = ec + 1 from by rw [HE.out, if_pos (.inl h1)])
      clear h1
      go_wp2
      go_roundw
      case rel => exact ⟨c + 1, by omega, by go_num, by rw [HN.out]; go_num, HB1.out⟩
      case measure => simp [intOf]; omega
    · have d1 : decide (o < 0) = false := by simpa using h1
      by_cases h2 : (c : Int) < o
      · have d2 : decide (o > (c : Int)) = true := by simpa using h2
        have d3 : decide ((c : Int) < o) = true := by simpa using h2
        have HN := Lib.hid (show edC T (c + 1) = ec + 1 from by rw [HE.out, if_pos (.inr h2)])
        clear h1 h2
        go_wp2
        go_roundw
        case rel => exact ⟨c + 1, by omega, by go_num, by rw [HN.out]; go_num, HB1.out⟩
        case measure => simp [intOf]; omega
      · have d2 : decide (o > (c : Int)) = false := by simp; omega
        have d3 : decide ((c : Int) < o) = false := by simp; omega
        have HN := Lib.hid (show edC T (c + 1) = ec from by rw [HE.out, if_neg (by omega)]; rfl)
        clear h1 h2
        go_wp2
        go_roundw
        case rel => exact ⟨c + 1, by omega, by go_num, by rw [HN.out], HB1.out⟩
        case measure => simp [intOf]; omega
  case neg =>
  obtain rfl : l3 = c := by omega
  have hel := edC_le T l3
  obtain ⟨ec, hec⟩ : ∃ x, x = edC T l3 := ⟨_, rfl⟩
  rw [← hec] at hel ⊢
  have HEC := Lib.hid hec
  clear hb hbox hec hc hlt
  go_wp2
  clear c0 c1
  obtain ⟨W1, rfl⟩ : ∃ W1 : World, W1 = X := ⟨_, rfl⟩
  go_loopw [4, 7] (fun e i ws => ∃ v : Nat, v ≤ n ∧ i = .int .i64 v ∧ e = .int .i64 (hdC T v : Nat) ∧ Below W0.heap.size W0 ws) (fun _ i _ => n - (intOf i).toNat)
  case atStart => exact ⟨0, by omega, rfl, rfl, HB.out⟩
  case round =>
  clear HB
  obtain ⟨v, hv, rfl, rfl, hb⟩ := hrel
  obtain ⟨X, rfl⟩ : ∃ X : World, X = wr := ⟨_, rfl⟩
  have hbox := HR0.out.after hb
  have c0 := hbox.cell (i := 0) rfl
  have c1 := hbox.cell (i := 1) rfl
  have HB := Lib.hid hb
  have hhl := hdC_le T v
  obtain ⟨hd, hhd⟩ : ∃ x, x = hdC T v := ⟨_, rfl⟩
  rw [← hhd] at hhl ⊢
  have HHD := Lib.hid hhd
  by_cases hlt : v < n
  case neg =>
    obtain rfl : n = v := by omega
    have HF := Lib.hid (show res = (decide (hd = 1) && decide ((n : Int) - (ec : Int) + (len : Int) = 1)) from by rw [HRES.out, discB, ← HHD.out, ← HL3.out, ← HEC.out, ← HL.out])
    have HBF := Lib.hid (below_more HB0.out hb HB0.out.size)
    clear hb hbox hhd hv
    by_cases g1 : hd = 1
    · have d1 : ((hd : Int) == 1) = true := by simp [g1]
      have hg : decide (hd = 1) = true := by simp [g1]
      cases hgb : decide ((n : Int) - (ec : Int) + (len : Int) = 1)
      · have d2 : ((n : Int) - (ec : Int) + (len : Int) == 1) = false := by simpa using hgb
        have HR := Lib.hid (show res = false from by rw [HF.out, hg, hgb]; rfl)
        clear hgb hg g1
        go_wp2
        go_ret
        exact ⟨by rw [HR.out]; rfl, HBF.out⟩
      · have d2 : ((n : Int) - (ec : Int) + (len : Int) == 1) = true := by simpa using hgb
        have HR := Lib.hid (show res = true from by rw [HF.out, hg, hgb]; rfl)
        clear hgb hg g1
        go_wp2
        go_ret
        exact ⟨by rw [HR.out]; rfl, HBF.out⟩
    · have d1 : ((hd : Int) == 1) = false := by simp; omega
      have HR := Lib.hid (show res = false from by rw [HF.out]; simp [g1])
      clear g1
      go_wp2
      go_ret
      exact ⟨by rw [HR.out]; rfl, HBF.out⟩
  case pos =>
  have HA := Lib.hid (HAF.out X (v : Int) hb)
  clear hb hbox hhd
  by_cases hin : (v : Int) ∈ (bordE T (3 * T.length)).map Prod.snd
  case neg =>
    have ha : aftB T (v : Int) = -1 := aftB_out hin
    rw [ha] at HA
    have HM := Lib.hid (show hdC T (v + 1) = hd from by
      rw [hdC_no, HHD.out]
      unfold minB
      simp [hin])
    clear ha hin
    go_wp2_with fail
    refine HA.out.mono ?_
    rintro e w1 ⟨rfl, hb1⟩
    obtain ⟨W2, rfl⟩ : ∃ W2 : World, W2 = w1 := ⟨_, rfl⟩
    have HB1 := Lib.hid hb1
    clear hb1 HA c0 c1
    go_wp2
    go_loopw [8, 9, 10] (fun x l i ws => x = .int .i64 (-1) ∧ l = .bool false ∧ i = .int .i64 0 ∧ Hid (W2 = ws)) (fun _ _ _ _ => 0)
    case atStart => exact ⟨rfl, rfl, rfl, Lib.hid rfl⟩
    case round =>
    obtain ⟨rfl, rfl, rfl, hws⟩ := hrel
    obtain rfl : W2 = wr := hws.out
    have hbox := HR0.out.after HB1.out
    have c0 := hbox.cell (i := 0) rfl
    have c1 := hbox.cell (i := 1) rfl
    clear hbox
    go_wp2
    go_roundw
    case rel => exact ⟨v + 1, by omega, by go_num, by rw [HM.out], HB1.out⟩
    case measure => simp [intOf]; omega
  case pos =>
  obtain ⟨p, hp⟩ := HS.out.oneIn.per hin
  obtain ⟨E, hE⟩ : ∃ E, E = bordE T (3 * T.length) := ⟨_, rfl⟩
  have HPN := Lib.hid (per_n HS.out hp)
  have HMP := Lib.hid (min_per HS.out hin hp)
  have HST := Lib.hid (show ∀ k, aftB T (it E k (v : Int)) = it E (k + 1) (v : Int) from fun k => by
    have := HS.out.oneIn.it_in hin k
    rw [hE, aftB_in HS.out this]
    rfl)
  have HIT := Lib.hid (show ∀ k, 0 ≤ it E k (v : Int) from fun k => by
    rw [hE]; exact (HS.out.bord_in (HS.out.oneIn.it_in hin k)).1)
  rw [← hE] at hp
  rw [← hE] at HMP
  have HP := Lib.hid hp
  have ha : aftB T (v : Int) = it E 1 (v : Int) := HST.out 0
  rw [ha] at HA
  have HMY := Lib.hid (show minB E (v : Int) = true → hdC T (v + 1) = hd + 1 from fun h => by rw [hdC_yes (by rw [← hE]; exact h), HHD.out])
  have HMN := Lib.hid (show minB E (v : Int) = false → hdC T (v + 1) = hd from fun h => by rw [hdC_no (by rw [← hE]; exact h), HHD.out])
  have hx0 := HIT.out 1
  have HX1 := Lib.hid (show Hid True from Lib.hid trivial)
  obtain ⟨x1, hx1⟩ : ∃ x, x = it E 1 (v : Int) := ⟨_, rfl⟩
  rw [← hx1] at HA hx0
  have HXX := Lib.hid hx1
  have d1 : decide (x1 ≥ 0) = true := by simpa using hx0
  have d2 : decide (0 ≤ x1) = true := by simpa using hx0
  clear ha hin hp hE hx1
  go_wp2_with fail
  refine HA.out.mono ?_
  rintro e w1 ⟨rfl, hb1⟩
  obtain ⟨W2, rfl⟩ : ∃ W2 : World, W2 = w1 := ⟨_, rfl⟩
  have HB1 := Lib.hid hb1
  clear hb1 HA c0 c1
  go_wp2
  go_loopw [8, 9, 10] (fun x l i ws => ∃ (k : Nat) (b : Bool) (y : Int), k + 1 ≤ p ∧ i = .int .i64 k ∧ x = .int .i64 y ∧ y = it E (k + 1) (v : Int) ∧ l = .bool b ∧ (b = true ↔ ∀ j, 1 ≤ j → j ≤ k → (v : Int) < it E j (v : Int)) ∧ Below W0.heap.size W0 ws) (fun _ _ i _ => p - (intOf i).toNat)
  case atStart => exact ⟨0, true, x1, HP.out.pos, rfl, rfl, HXX.out, by first | rfl | (simp; done) | (simp; omega), ⟨fun _ j h1 h2 => by omega, fun _ => rfl⟩, HB1.out⟩
  case round =>
  clear HB1 d1 d2 hx0
  obtain ⟨k, b, y, hkp, rfl, rfl, hy, rfl, hbb, hb⟩ := hrel
  obtain ⟨Y, rfl⟩ : ∃ X : World, X = wr := ⟨_, rfl⟩
  have hbox := HR0.out.after hb
  have c0 := hbox.cell (i := 0) rfl
  have c1 := hbox.cell (i := 1) rfl
  have HB := Lib.hid hb
  have HY := Lib.hid hy
  have HBB := Lib.hid hbb
  have hpn := HPN.out
  have hkn : k < n := by omega
  have hy0 : 0 ≤ y := by rw [hy]; exact HIT.out _
  have d1 : decide (y ≥ 0) = true := by simpa using hy0
  have d2 : decide (0 ≤ y) = true := by simpa using hy0
  have HA2 := HAF.out Y y hb
  rw [hy, HST.out, ← hy] at HA2
  obtain ⟨y2, hy2⟩ : ∃ z, z = it E (k + 1 + 1) (v : Int) := ⟨_, rfl⟩
  rw [← hy2] at HA2
  have HA2 := Lib.hid HA2
  have HY2 := Lib.hid hy2
  clear hy hbb hb hbox hy2
  by_cases hyv : y = (v : Int)
  case pos =>
    have d3 : (y == (v : Int)) = true := by simpa using hyv
    have d4 : (y != (v : Int)) = false := by simp [bne, d3]
    have hk1 : k + 1 = p := by
      have := HP.out.least (k + 1) (by omega)
      by_cases e : k + 1 < p
      · exact absurd (by rw [← HY.out]; exact hyv) (this e)
      · omega
    have HM := Lib.hid (show b = true ↔ minB E (v : Int) = true from by
      rw [HBB.out, HMP.out]
      exact ⟨fun h j h1 h2 => h j h1 (by omega), fun h j h1 h2 => h j h1 (by omega)⟩)
    clear hyv hk1 HA2
    cases b
    case true =>
      have HN := Lib.hid (HMY.out (HM.out.1 rfl))
      go_wp2
      go_roundw
      case rel => exact ⟨v + 1, by omega, by go_num, by rw [HN.out]; go_num, HB.out⟩
      case measure => simp [intOf]; omega
    case false =>
      have HN := Lib.hid (HMN.out (by
        cases h : minB E (v : Int)
        · rfl
        · have := HM.out.2 h; cases this))
      go_wp2
      go_roundw
      case rel => exact ⟨v + 1, by omega, by go_num, by rw [HN.out], HB.out⟩
      case measure => simp [intOf]; omega
  case neg =>
  have d3 : (y == (v : Int)) = false := by simpa using hyv
  have d4 : (y != (v : Int)) = true := by simp [bne, d3]
  have hk2 : k + 1 + 1 ≤ p := by
    by_cases e : k + 1 = p
    · exact absurd (by rw [HY.out, e]; exact HP.out.back) hyv
    · omega
  obtain ⟨gb, hgb⟩ : ∃ g, g = decide (y > (v : Int)) := ⟨_, rfl⟩
  have d5 : decide (y > (v : Int)) = gb := hgb.symm
  have d6 : decide ((v : Int) < y) = gb := hgb.symm
  have HNB := Lib.hid (show (b && gb) = true ↔ ∀ j, 1 ≤ j → j ≤ k + 1 → (v : Int) < it E j (v : Int) from by
    rw [Bool.and_eq_true, HBB.out, hgb, decide_eq_true_eq, HY.out]
    constructor
    · rintro ⟨h1, h2⟩ j h3 h4
      by_cases e : j = k + 1
      · rw [e]; exact h2
      · exact h1 j h3 (by omega)
    · intro h
      exact ⟨fun j h1 h2 => h j h1 (by omega), h (k + 1) (by omega) (Nat.le_refl _)⟩)
  clear hyv hgb
  cases b
  case false =>
    go_wp2_with fail
    refine HA2.out.mono ?_
    rintro e w3 ⟨rfl, hb3⟩
    have HB3 := Lib.hid hb3
    clear hb3 c0 c1
    go_wp2
    go_roundw
    case rel => exact ⟨k + 1, false, y2, hk2, by go_num, rfl, HY2.out, rfl, by simpa using HNB.out, HB3.out⟩
    case measure => simp [intOf]; omega
  case true =>
    go_wp2_with fail
    refine HA2.out.mono ?_
    rintro e w3 ⟨rfl, hb3⟩
    have HB3 := Lib.hid hb3
    clear hb3 c0 c1
    go_wp2
    go_roundw
    case rel => exact ⟨k + 1, gb, y2, hk2, by go_num, rfl, HY2.out, rfl, by simpa using HNB.out, HB3.out⟩
    case measure => simp [intOf]; omega
theorem cntKD {key : Nat → Int} {k : Nat} : ∀ {i : Nat}, (∀ j, j < i → key j = (k : Int)) → cntK key i k = i
  | 0, _ => rfl
  | i + 1, h => by rw [cntK_succ, cntKD fun j hj => h j (by omega), h i (by omega)]; simp
section
variable {n : Nat} {T : List Tr} {L : Nat → Int}
theorem nF_oneD (h0 : ∀ i, i < T.length → L i = 0) : nF T L 0 = T.length := cntKD fun j hj => h0 j hj
theorem nV_oneD (hs : Surf n T) (h0 : ∀ i, i < T.length → L i = 0) : nV T L n 0 = n := cntKD fun v hv => by
  obtain ⟨c, hc, -, e⟩ := shV_corner (L := L) hs hv
  rw [e, h0 _ (by omega)]; rfl
theorem nB_oneD (hs : Surf n T) (h0 : ∀ i, i < T.length → L i = 0) : nB T L n 0 = hdC T n := by
  unfold nB
  rw [cntKD (k := 0) fun j hj => ?_]
  · rfl
  · unfold keyB
    have hm : (headsB (bordE T (3 * T.length)) n).getD j 0 ∈ headsB (bordE T (3 * T.length)) n := by
      rw [List.getD_eq_getElem?_getD, List.getElem?_eq_getElem hj]
      exact List.getElem_mem hj
    obtain ⟨c, hc, -, e⟩ := shV_corner (L := L) hs (headsB_mem.1 hm).1
    rw [e, h0 _ (by omega)]; rfl
theorem opp_self (hs : Surf n T) {c : Nat} (hc : c < 3 * T.length) : opp T (c : Nat) ≠ (c : Int) := fun e => by
  obtain ⟨o, h1, h2, h3, h4, h5⟩ := hs.opp_opp hc (by omega)
  obtain rfl : o = c := by omega
  exact opp_ne hs hc hc h4 h5 rfl
theorem edC_oneD (hs : Surf n T) (hL : IsShells (Adj T) T.length L) (h0 : ∀ i, i < T.length → L i = 0) : edC T (3 * T.length) = nT T L 0 / 2 := by
  have h1 := edge_count hs hL 0
  have h2 := nT_bord T L 0
  have h3 := nT_even hs hL 0
  rw [nF_oneD h0] at h2
  have hz : ∀ x, x ∈ List.range (3 * T.length) → L (x / 3) = ((0 : Nat) : Int) := fun x hx => by rw [h0 _ (by have := List.mem_range.1 hx; omega)]; rfl
  have e1 : ecP T L (3 * T.length) 0 = ((List.range (3 * T.length)).filter fun x : Nat => decide (opp T (x : Nat) < (x : Nat))).length := by
    unfold ecP
    exact congrArg List.length (List.filter_congr fun x hx => by rw [hz x hx]; simp)
  have e2 : (bordOf T L ((0 : Nat) : Int)).length = ((List.range (3 * T.length)).filter fun x : Nat => decide (opp T (x : Nat) < 0)).length := by
    unfold bordOf
    exact congrArg List.length (List.filter_congr fun x hx => by rw [hz x hx]; simp)
  have s1 := filt_split (fun x : Nat => decide (opp T (x : Nat) < (x : Nat))) (List.range (3 * T.length))
  have s2 := filt_len3 (p := fun x : Nat => decide (opp T (x : Nat) < 0) || decide ((x : Int) < opp T (x : Nat))) (q := fun x : Nat => decide (opp T (x : Nat) < 0)) (List.range (3 * T.length))
  have e3 : ((List.range (3 * T.length)).filter fun x : Nat => (decide (opp T (x : Nat) < 0) || decide ((x : Int) < opp T (x : Nat))) && decide (opp T (x : Nat) < 0)) = (List.range (3 * T.length)).filter fun x : Nat => decide (opp T (x : Nat) < 0) :=
    List.filter_congr fun x _ => by cases decide (opp T (x : Nat) < 0) <;> simp
  have e4 : ((List.range (3 * T.length)).filter fun x : Nat => (decide (opp T (x : Nat) < 0) || decide ((x : Int) < opp T (x : Nat))) && !decide (opp T (x : Nat) < 0)) = (List.range (3 * T.length)).filter fun x : Nat => !decide (opp T (x : Nat) < (x : Nat)) :=
    List.filter_congr fun x hx => by
      have := opp_self hs (List.mem_range.1 hx)
      by_cases a : opp T (x : Nat) < 0
      · have b : opp T (x : Nat) < (x : Int) := by omega
        simp [a, b]
      · by_cases b : opp T (x : Nat) < (x : Int)
        · have c : ¬ (x : Int) < opp T (x : Nat) := by omega
          simp [a, b, c]
        · have c : (x : Int) < opp T (x : Nat) := by omega
          simp [a, b, c]
  rw [e3, e4] at s2
  rw [List.length_range] at s1
  have e5 : edC T (3 * T.length) = ((List.range (3 * T.length)).filter fun x : Nat => decide (opp T (x : Nat) < 0) || decide ((x : Int) < opp T (x : Nat))).length := rfl
  omega
/-- THE TWO WAYS TO TELL A DISC. -/
theorem disc_one (hs : Surf n T) (hL : IsShells (Adj T) T.length L) (h1 : cnt L T.length = 1) (h0 : ∀ i, i < T.length → L i = 0) : (decide (sumF (genF T L n) 1 5 = 0) && decide (sumF (genF T L n) 1 3 = 1)) = discB n T := by
  have e5 : sumF (genF T L n) 1 5 = gnK T L n 0 := by
    have := gen5 T L n 0
    simp only [sumF]
    rw [← this]; simp
  have e3 : sumF (genF T L n) 1 3 = (hdC T n : Int) := by
    have := gen3 T L n 0
    rw [nB_oneD hs h0] at this
    simp only [sumF]
    rw [← this]; simp
  obtain ⟨g0, he⟩ := euler_ok hs hL (k := 0) (by rw [h1]; decide)
  rw [nB_oneD hs h0] at he
  have hk : euK T L n 0 = (n : Int) - (edC T (3 * T.length) : Int) + (T.length : Int) := by
    unfold euK
    rw [nV_oneD hs h0, nF_oneD h0, edC_oneD hs hL h0]
  rw [e5, e3]
  unfold discB
  rw [← hk, he]
  by_cases a : hdC T n = 1
  · by_cases b : gnK T L n 0 = 0
    · simp [a, b]
    · have c : ¬ (2 : Int) - ((1 : Nat) : Int) - 2 * gnK T L n 0 = 1 := by omega
      rw [a]
      simp only [b, c, decide_false, Bool.false_and, Bool.and_false]
  · have c : ¬ (hdC T n : Int) = 1 := by omega
    simp [a, c]
end
end Go.Proofs.YtfbpjlfimmjieaaGreat

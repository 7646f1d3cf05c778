/- gypsumref32.Surface of a surface: the walk. What chart.Surface and gypsumref32.Surface tell of a chart whose numbers and sides are known. Each chart that chart.Discs tells of: its surface by gypsumref32.Surface, and what gypsumref32.Disc tells of it. A chart and the values at its corners: they tell no seam that parts it; its triangles, renamed, are what they were. Plain. A chart, all that gypsumlaw32.ChartWhole asks of it. -/
import Derived.Test.YtfbpjlfimmjieaaGreatChartPick
import Derived.Test.YtfbpjlfimmjieaaGreatRef32
import Derived.Test.YtfbpjlfimmjieaaGreatButLaw
import Derived.Test.YtfbpjlfimmjieaaGreatRef15
import Derived.Test.YtfbpjlfimmjieaaGreatChartSort
import Derived.Deep.RegionHeld3
import Derived.BigQuiet
import Derived.Test.YtfbpjlfimmjieaaGreatDiscsW
import Derived.Test.YtfbpjlfimmjieaaGreatAfter15
import Derived.Test.YtfbpjlfimmjieaaGreatQuad32
namespace Go.Proofs.YtfbpjlfimmjieaaGreat
set_option linter.unusedVariables false
set_option linter.unusedSimpArgs false
open Go.RowKit
/-- What gypsumref32.Surface tells. -/
def Surf32P (T : List Tr) (K : List Int) (k : Int) (w : World) (e : Ending) (w' : World) : Prop :=
  (∃ M, IsShells (KAdj T K) T.length M ∧ ((sel (mL M T.length) k T.length = [] ∧ e = .returned (.tuple #[.agg #[.int .i64 0, .slice none 0 0], .slice none 0 0, .slice none 0 0, .bool false])) ∨ (sel (mL M T.length) k T.length ≠ [] ∧ ∃ L F a1 a2 a3 c1 c2 c3, Piece (KSAdj T K) T (mL M T.length) k L F ∧
    e = .returned (.tuple #[.agg #[.int .i64 (F.length : Int), .slice a1 (cutT (mL M T.length) k L F T.length).length c1], .slice a2 F.length c2, .slice a3 (sel (mL M T.length) k T.length).length c3, .bool true]) ∧
    TrisAt w' a1 (cutT (mL M T.length) k L F T.length) ∧ IntsAt w' a2 (cutV T F) ∧ IntsAt w' a3 (nl (sel (mL M T.length) k T.length))))) ∧ Below w.heap.size w w'
/-- A row of triangles that grows beside the cell that holds it. -/
def RO (W X : World) (ob base : Nat) (N0 : Int) (vT : Value) (nT : Nat) (TT : List Tr) : Prop :=
  RSt W X ob base 24 [.int .i64 N0, vT] [⟨49, 3, vT, nT, tcells TT⟩]
section
variable {W X Y : World} {ob base : Nat} {N0 : Int} {vT : Value} {nT : Nat} {TT : List Tr}
theorem RO.st (h : RO W X ob base N0 vT nT TT) : RSt W X ob base 24 [.int .i64 N0, vT] [⟨49, 3, vT, nT, tcells TT⟩] := h
theorem RO.alloc (h : RO W X ob base N0 vT nT TT) (o : Obj) : RO W (X.alloc o) ob base N0 vT nT TT := RSt.alloc h o
theorem RO.drew (h : RO W X ob base N0 vT nT TT) : RO W X.drew ob base N0 vT nT TT := RSt.drew h
theorem RO.drewN (h : RO W X ob base N0 vT nT TT) (q : Nat) : RO W (X.drewN q) ob base N0 vT nT TT := RSt.more h (below_drewN (Below.refl _ _) q)
theorem RO.rowT (h : RO W X ob base N0 vT nT TT) : X.ownsRow base 49 3 vT nT (tcells TT) := h.st.rows.own ⟨49, 3, vT, nT, tcells TT⟩ (by simp)
theorem RO.row (h : RO W X ob base N0 vT nT TT) : RowIs X ob 24 [.int .i64 N0, vT] := h.st.row
theorem RO.old (h : RO W X ob base N0 vT nT TT) : But base ob W X := h.st.but
theorem RO.mx (h : RO W X ob base N0 vT nT TT) : base ≤ X.heap.size := h.st.mx
theorem RO.mid (h : RO W X ob base N0 vT nT TT) {v : Value} {e : TypeId} {size n : Nat} {xs : List Value} (ho : X.ownsRow base e size v n xs) (hg : X.grownBy Y v.ownBlock) : RowIs Y ob 24 [.int .i64 N0, vT] :=
  h.st.row.grown hg (fun q => by have := (ho.lt ob q.symm).1; have := h.st.ob; omega)
theorem RO.pushT (h : RO W X ob base N0 vT nT TT) {g cap n' : Nat} {TT' : List Tr} (hown : Y.ownsRow base 49 3 (.slice (some ⟨g, 0, none⟩) n' cap) n' (tcells TT')) (hg : X.grownBy Y vT.ownBlock) (hat : vT.ownBlock = some g ∨ X.heap.size ≤ g) :
    RO W (Y.setCell ⟨ob, 1, none⟩ (.slice (some ⟨g, 0, none⟩) n' cap)) ob base N0 (.slice (some ⟨g, 0, none⟩) n' cap) n' TT' := (h.st.push 0 ⟨49, 3, vT, nT, tcells TT⟩ rfl hown hg hat).store 1 _
theorem RO.setX (h : RO W X ob base N0 vT nT TT) {xg : Nat} (hx : base ≤ xg) (ho : vT.ownBlock ≠ some xg) (i : Nat) (v : Value) : RO W (X.setCell ⟨xg, i, none⟩ v) ob base N0 vT nT TT := by
  have hg := grown_set X xg i v
  have hob := h.st.ob
  refine ⟨h.st.row.grown hg (by simp; omega), ⟨fun r hr => ?_, h.st.rows.apart⟩, h.st.but.grown hg h.st.mx (fun q hq => .inl (by cases hq; exact hx)), hob, by have := hg.size; have := h.st.mx; omega⟩
  refine (h.st.rows.own r hr).kept hg (.inr ?_)
  simp only [List.mem_cons, List.not_mem_nil, or_false] at hr
  subst hr
  exact ho
end
theorem IntsAt.butK {w w' : World} {a : Option Addr} {xs : List Int} {B g : Nat} (h : IntsAt w a xs) (hB : w.heap.size ≤ B) (hb : But B g w w') (ho : ∀ p, a = some p → p.block ≠ g) : IntsAt w' a xs := by
  intro hne
  obtain ⟨b, off, rfl, hlt, hc⟩ := h hne
  exact ⟨b, off, rfl, Nat.lt_of_lt_of_le hlt hb.size, fun i hi => (hb.cell (Nat.lt_of_lt_of_le hlt hB) (ho _ rfl)).trans (hc i hi)⟩
theorem sel_nat_le (bays : List Int) (bay : Int) (k : Nat) : ∀ x ∈ sel bays bay k, x < k := fun x hx => (selP_mem.1 hx).1
theorem nvI (F : List Nat) : nv F = ic (nl F) := by unfold nv ic nl; rw [List.map_map]; rfl
theorem cutV_snoc (T : List Tr) (F : List Nat) (c : Nat) : cutV T (F ++ [c]) = cutV T F ++ [vtx T c] := by simp [cutV]
theorem take_snocS {α} {F : List α} {i : Nat} {c : α} (h : F[i]? = some c) : F.take (i + 1) = F.take i ++ [c] := by rw [List.take_add_one, h]; rfl
set_option maxRecDepth 100000 in
set_option maxHeartbeats 4000000 in
theorem surf32 (n : Nat) (ao : Option Addr) (cap : Nat) (T : List Tr) (ko : Option Addr) (kc : Nat) (K : List Int) (k : Int) (w : World) (hT : TrisAt w ao T) (hs : Surf n T) (hK : IntsAt w ko K) (hkl : K.length = 3 * T.length) (hl : T.length ≤ 1000) (hn : n ≤ 10000) :
    Calls Tryz.prog 21 #[.agg #[.int .i64 (n : Int), .slice ao T.length cap], .slice ko K.length kc, .int .i64 k] w (Surf32P T K k w) := by
  obtain ⟨i0, hi, hz0, hz1, hz2⟩ := info_parts info3
  obtain ⟨it, hit, ht0, ht1, ht2⟩ := info_parts infoTriS
  obtain ⟨W0, hW0⟩ : ∃ W0, W0 = (w.alloc (.cells #[.int .i64 (n : Int), .slice ao T.length cap] 24)).alloc (.cells #[.int .i64 0, .slice none 0 0] 24) := ⟨_, rfl⟩
  obtain ⟨xb, hxb⟩ : ∃ x, x = w.heap.size := ⟨_, rfl⟩
  have hb0 : Below xb w W0 := by rw [hW0, hxb]; exact ((Below.refl _ _).alloc (Nat.le_refl _) _).alloc (by simp) _
  have hs0 : W0.heap.size = xb + 2 := by rw [hW0, hxb]; simp
  have hr0 : RowIs W0 xb 24 [.int .i64 (n : Int), .slice ao T.length cap] := by rw [hW0, hxb]; exact (RowIs.made w 24 [.int .i64 (n : Int), .slice ao T.length cap]).alloc _
  have hr1 : RowIs W0 (xb + 1) 24 [.int .i64 0, .slice none 0 0] := by rw [hW0, hxb]; exact RowIs.made' _ _ [.int .i64 0, .slice none 0 0] _ (by simp)
  have hT0 := hT.mono (by rw [hxb]; exact Nat.le_refl _) hb0
  have hK0 := hK.mono (by rw [hxb]; exact Nat.le_refl _) hb0
  have HLOW := Lib.hid (show ∀ X, Below (xb + 2) W0 X → RowIs X xb 24 [.int .i64 (n : Int), .slice ao T.length cap] ∧ RowIs X (xb + 1) 24 [.int .i64 0, .slice none 0 0] ∧ TrisAt X ao T ∧ Below xb w X from fun X hX =>
    ⟨hr0.below hX (by omega), hr1.below hX (by omega), hT0.mono (by rw [hs0]; exact Nat.le_refl _) hX, hb0.trans (hX.mono (by omega))⟩)
  have HOF := Lib.hid (show ∀ X, Hid (Below W0.heap.size W0 X) → Calls Tryz.prog 18 #[.agg #[.int .i64 (n : Int), .slice ao T.length cap], .slice ko K.length kc] X fun e w' => (∃ g M, e = .returned (.slice (some ⟨g, 0, none⟩) T.length T.length) ∧ Hid (W0.heap.size ≤ g ∧ RowIs w' g 3 (iv M T.length) ∧ IsShells (KAdj T K) T.length M)) ∧ Hid (Below X.heap.size X w') ∧ Hid (Below W0.heap.size W0 w') from fun X hX =>
    (of32 n ao cap T ko kc K X (hT0.mono (Nat.le_refl _) hX.out) hs (hK0.mono (Nat.le_refl _) hX.out) hkl hl).mono fun e w' ⟨g, M, h1, h2, h3, h4, h5⟩ => ⟨⟨g, M, h1, by have := hX.out.size; omega, h3, h4⟩, h5, below_more hX.out h5 hX.out.size⟩)
  have HSI := Lib.hid (show ∀ X, Hid (Below W0.heap.size W0 X) → Calls Tryz.prog 19 #[.agg #[.int .i64 (n : Int), .slice ao T.length cap], .slice ko K.length kc] X fun e w' => (∃ g L, e = .returned (.slice (some ⟨g, 0, none⟩) (3 * T.length) (3 * T.length)) ∧ Hid (W0.heap.size ≤ g ∧ RowIs w' g 3 (iv L (3 * T.length)) ∧ IsLeast (KSAdj T K) (3 * T.length) L)) ∧ Hid (Below X.heap.size X w') ∧ Hid (Below W0.heap.size W0 w') from fun X hX =>
    (sides32 n ao cap T ko kc K X (hT0.mono (Nat.le_refl _) hX.out) hs (hK0.mono (Nat.le_refl _) hX.out) hkl hl).mono fun e w' ⟨g, M, h1, h2, h3, h4, h5⟩ => ⟨⟨g, M, h1, by have := hX.out.size; omega, h3, h4⟩, h5, below_more hX.out h5 hX.out.size⟩)
  have HV := Lib.hid (fun (c : Nat) (X : World) (h : TrisAt X ao T) (hc : c < 3 * T.length) => v15 n ao cap T c X h (by omega) hc)
  have HKS := Lib.hid (show ∀ X, Hid (Below W0.heap.size W0 X) → X.cell? ⟨xb, 0, none⟩ = some (.int .i64 (n : Int)) ∧ X.cell? ⟨xb, 1, none⟩ = some (.slice ao T.length cap) from fun X hX => ⟨(hr0.after hX.out).cell (i := 0) rfl, (hr0.after hX.out).cell (i := 1) rfl⟩)
  have HS := Lib.hid hs
  obtain ⟨len, hlen⟩ : ∃ l, l = T.length := ⟨_, rfl⟩
  obtain ⟨kl, hkle⟩ : ∃ l, l = K.length := ⟨_, rfl⟩
  obtain ⟨l3, hl3⟩ : ∃ l, l = 3 * T.length := ⟨_, rfl⟩
  have HL := Lib.hid hlen
  have HL3 := Lib.hid hl3
  have h3l : (3 : Int) * (len : Int) = (l3 : Int) := by omega
  have H3N := Lib.hid (show l3 = 3 * len by omega)
  have hl' : len ≤ 1000 := by omega
  rw [← hkle] at HOF HSI ⊢
  rw [← hl3] at HSI HV
  rw [← hlen] at hW0 ⊢
  simp only [← hlen] at HOF HSI HV HLOW HKS
  have HW0 := Lib.hid hW0
  have HS0 := Lib.hid hs0
  have HXB := Lib.hid hxb
  have HRF := Lib.hid (Below.refl W0.heap.size W0)
  have HDR := Lib.hid (show Below W0.heap.size W0 W0.drew from ⟨rfl, rfl, rfl, Nat.le_refl _, fun _ _ => rfl⟩)
  have HRD := Lib.hid hr0
  clear hT hK hT0 hK0 hs hkl hl hlen hkle hl3 hxb hW0 hb0 hr0 hr1 hs0
  go_enter Tryz.func21, Tryz.ntmps21
  go_upto_region 1 with fail
  rw [← HW0.out, ← HXB.out]
  go_cut [10, 11] (fun s10 s11 wc => ∃ gm gl M L, s10 = .slice (some ⟨gm, 0, none⟩) len len ∧ s11 = .slice (some ⟨gl, 0, none⟩) l3 l3 ∧ W0.heap.size ≤ gm ∧ W0.heap.size ≤ gl ∧ RowIs wc gm 3 (iv M len) ∧ RowIs wc gl 3 (iv L l3) ∧ IsShells (KAdj T K) len M ∧ IsLeast (KSAdj T K) l3 L ∧ Below W0.heap.size W0 wc)
  case first =>
    go_region_held3 (fun w' => w'.cell? ⟨xb, 0, none⟩ = some (.int .i64 (n : Int)) ∧ w'.cell? ⟨xb, 1, none⟩ = some (.slice ao len cap))
      (exact HKS.out _ (by assumption))
      (first
        | (go_at_call 18; (with_reducible refine (HOF.out _ (by assumption)).mono ?_); rintro e wO ⟨⟨gm, M, rfl, hO⟩, hbO, hO2⟩)
        | (go_at_call 19; (with_reducible refine (HSI.out _ (by assumption)).mono ?_); rintro e wS ⟨⟨gl, L, rfl, hS⟩, hbS, hS2⟩))
    all_goals
      go_wp2
      go_meet
      first
        | exact ⟨gm, gl, M, L, rfl, rfl, hO.out.1, hS.out.1, hO.out.2.1.after hbS.out, hS.out.2.1, hO.out.2.2, hS.out.2.2, hS2.out⟩
        | exact ⟨gm, gl, M, L, rfl, rfl, hO.out.1, hS.out.1, hO.out.2.1.drew1.after hbS.out, hS.out.2.1, hO.out.2.2, hS.out.2.2, hS2.out⟩
  case rest =>
  obtain ⟨gm, gl, M, L, rfl, rfl, hgm, hgl, hrM, hrL, hM, hL, hb1⟩ := hcut
  obtain ⟨W1, rfl⟩ : ∃ W1 : World, W1 = wc := ⟨_, rfl⟩
  obtain ⟨B1, hB1⟩ : ∃ b, b = W1.heap.size := ⟨_, rfl⟩
  have hx1 : xb + 2 ≤ B1 := by have := hb1.size; have := HS0.out; omega
  have HCX := Lib.hid (show ∀ X, Below B1 W1 X → RowIs X gm 3 (iv M len) ∧ RowIs X gl 3 (iv L l3) ∧ RowIs X xb 24 [.int .i64 (n : Int), .slice ao len cap] ∧ RowIs X (xb + 1) 24 [.int .i64 0, .slice none 0 0] ∧ TrisAt X ao T ∧ Below xb w X from fun X hX => by
    have hz := HS0.out
    have h1 : Below W0.heap.size W0 X := hb1.trans (hX.mono (by omega))
    obtain ⟨q1, q2, q3, q4⟩ := HLOW.out X (by rw [← hz]; exact h1)
    rw [hB1] at hX
    exact ⟨hrM.after hX, hrL.after hX, q1, q2, q3, q4⟩)
  have HM := Lib.hid hM
  have HLE := Lib.hid hL
  obtain ⟨bays, hbays⟩ : ∃ b, b = mL M len := ⟨_, rfl⟩
  have HBY := Lib.hid hbays
  have HMG := Lib.hid (show ∀ i, i < len → I! bays i = M i from fun i hi => by rw [hbays]; exact mL_get hi)
  have HPC := Lib.hid (show Piece (KSAdj T K) T bays k L (rowK T bays k L n) from by
    rw [hbays, HL.out]
    exact rowK_piece HS.out (by rw [← HL.out]; exact hM) (by rw [← HL3.out]; exact hL) k)
  have HGMB := Lib.hid (show gm < B1 ∧ gl < B1 from ⟨by rw [hB1]; exact hrM.lt, by rw [hB1]; exact hrL.lt⟩)
  have HB1 := Lib.hid hB1
  have hB1s : B1 ≤ W1.heap.size := by rw [hB1]; exact Nat.le_refl _
  clear hgm hgl hrM hrL hM hL hb1 hbays hB1 HOF HSI HKS HRF HDR HRD HLOW HW0
  obtain ⟨-, -, hb, -, -, -⟩ := HCX.out W1 (Below.refl _ _)
  clear hb
  go_wp2
  go_loopw [12, 13] (fun v j ws => ∃ (i lt : Nat) (va : Option Addr) (vc : Nat), i ≤ len ∧ j = .int .i64 i ∧ v = .slice va lt vc ∧ lt = (sel bays k i).length ∧ ws.ownsRow B1 3 1 (.slice va lt vc) lt (nv (sel bays k i)) ∧ Below B1 W1 ws) (fun _ j _ => len - (intOf j).toNat)
  case atStart => exact ⟨0, 0, none, 0, by omega, rfl, rfl, rfl, World.ownsRow_nil _ _ _ _, Below.refl _ _⟩
  case round =>
  obtain ⟨i, lt, va, vc, hil, rfl, rfl, hlt, hown, hbX⟩ := hrel
  obtain ⟨X, rfl⟩ : ∃ X : World, X = wr := ⟨_, rfl⟩
  obtain ⟨q1, -, q3, -, -, -⟩ := HCX.out X hbX
  have c0 := q3.cell (i := 0) rfl
  have c1 := q3.cell (i := 1) rfl
  have HOWN := Lib.hid hown
  have HBX := Lib.hid hbX
  have HLT := Lib.hid hlt
  have hltb : lt ≤ i := by rw [hlt]; exact sel_le _ _ _
  have hmx : B1 ≤ X.heap.size := by have := hbX.size; omega
  by_cases hin : i < len
  case pos =>
    have hm := q1.cell (iv_get M hin)
    have HSEL := Lib.hid (sel_succ bays k i)
    rw [HMG.out i hin] at HSEL
    obtain ⟨q, hq⟩ : ∃ q, q = M i := ⟨_, rfl⟩
    rw [← hq] at hm HSEL
    clear hown hbX hlt hq q1 q3
    cases e1 : q == k
    case false =>
      have HSE := Lib.hid (show sel bays k (i + 1) = sel bays k i from by rw [HSEL.out, if_neg (by simpa using e1)])
      go_wp2
      go_roundw
      case rel => exact ⟨i + 1, lt, va, vc, by omega, by go_num, rfl, by rw [HSE.out]; exact HLT.out, by rw [HSE.out]; exact HOWN.out, HBX.out⟩
      case measure => simp [intOf]; omega
    case true =>
      have HSE := Lib.hid (show sel bays k (i + 1) = sel bays k i ++ [i] from by rw [HSEL.out, if_pos (by simpa using e1)])
      have HQ1 := Lib.hid (show lt + 1 ≤ maxLen from by unfold maxLen; omega)
      have HQ2 := Lib.hid (show (lt + 1) * 8 ≤ 140737488355328 from by omega)
      have HQ3 := Lib.hid (show B1 ≤ (X.alloc (.cells #[.int .i64 (i : Int)] 3)).heap.size from by simp; omega)
      go_upto_region 7 with fail
      have HX := Lib.hid (HOWN.out.alloc (.cells #[.int .i64 (i : Int)] 3))
      go_wp2_with (at_builtin; refine wpList_append_lies _ rfl _ _ 25 rfl B1 3 i0 (.int .i64 0) 1 8 (by kernel_rfl) hi hz0 hz1 hz2 rfl (by decide) _ _ _ rfl HX.out ⟨X.heap.size, 0, none⟩ 1 1 [.int .i64 (i : Int)] rfl rfl (World.news_of_block (heap_alloc_new X _)) (by intro u hu; simp at hu; subst hu; rfl) (by decide) HQ1.out HQ2.out HQ3.out _ rfl ?_)
      intro g2 cap2 X2 hown2 hgr2 hat2 hlt2
      have HO2 := Lib.hid (show X2.ownsRow B1 3 1 (.slice (some ⟨g2, 0, none⟩) (lt + 1) cap2) (lt + 1) (nv (sel bays k (i + 1))) from by rw [HSE.out, nv_snoc]; exact hown2)
      have HB2 := Lib.hid (show Below B1 W1 X2 from (HBX.out.alloc hmx (.cells #[.int .i64 (i : Int)] 3)).grown hgr2 (by simp; omega) (fun q hq => (HOWN.out.lt q hq).1))
      have HL2 := Lib.hid (show lt + 1 = (sel bays k (i + 1)).length from by rw [HSE.out, List.length_append, ← HLT.out]; rfl)
      clear hown2 hgr2 hat2 hlt2 HX hm
      go_wp2
      go_roundw
      case rel => exact ⟨i + 1, lt + 1, _, _, by omega, by go_num, rfl, HL2.out, HO2.out, HB2.out⟩
      case measure => simp [intOf]; omega
  case neg =>
  obtain rfl : i = len := by omega
  by_cases hz : lt = 0
  case pos =>
    have q4 := (HCX.out X hbX).2.2.2.1
    have q6 := (HCX.out X hbX).2.2.2.2.2
    have hF := (q4.set 0 (.int .i64 0)).set 1 (.slice none 0 0)
    have d0 := q4.cell (i := 0) rfl
    have d1 := q4.cell (i := 1) rfl
    have f0 := fun i => q4.free i
    have y0 := hF.cell (i := 0) rfl
    have y1 := hF.cell (i := 1) rfl
    have HFIN := Lib.hid (show Surf32P T K k w (.returned (.tuple #[.agg #[.int .i64 0, .slice none 0 0], .slice none 0 0, .slice none 0 0, .bool false])) ((X.setCell ⟨xb + 1, 0, none⟩ (.int .i64 0)).setCell ⟨xb + 1, 1, none⟩ (.slice none 0 0)) from by
      refine ⟨⟨M, by rw [← HL.out]; exact HM.out, .inl ⟨?_, rfl⟩⟩, ?_⟩
      · rw [← HL.out, ← HBY.out]
        exact List.length_eq_zero_iff.1 (by rw [← HLT.out]; exact hz)
      · rw [← HXB.out]
        exact (q6.setCell (p := ⟨xb + 1, 0, none⟩) (by show xb ≤ xb + 1; omega) _).setCell (p := ⟨xb + 1, 1, none⟩) (by show xb ≤ xb + 1; omega) _)
    have dz : ((lt : Int) == 0) = true := by simp [hz]
    clear hF q4 q6 q1 q3 hown hbX hlt hz
    go_wp2
    exact bodyPost_ret (v := .tuple #[.agg #[.int .i64 0, .slice none 0 0], .slice none 0 0, .slice none 0 0, .bool false]) (by simp [results, Tryz.results21, go_sem, y0, y1]) rfl HFIN.out
  case neg =>
  have dz : ((lt : Int) == 0) = false := by simp; exact_mod_cast hz
  have HNE := Lib.hid (show sel bays k i ≠ [] from fun e => hz (by rw [hlt, e]; rfl))
  obtain ⟨B2, hB2⟩ : ∃ b, b = X.heap.size := ⟨_, rfl⟩
  have HTI := Lib.hid (show IntsAt X va (nl (sel bays k i)) ∧ New B1 va from ⟨by rw [hlt] at hown; exact owns_nl hown, owns_newS hown⟩)
  obtain ⟨W2, hW2⟩ : ∃ W2 : World, W2 = X := ⟨_, rfl⟩
  rw [← hW2] at HTI hB2 HBX
  rw [← hW2]
  have HCY := Lib.hid (show ∀ Y, Below B2 W2 Y → RowIs Y gm 3 (iv M i) ∧ RowIs Y gl 3 (iv L l3) ∧ RowIs Y xb 24 [.int .i64 (n : Int), .slice ao i cap] ∧ RowIs Y (xb + 1) 24 [.int .i64 0, .slice none 0 0] ∧ TrisAt Y ao T ∧ Below xb w Y ∧ IntsAt Y va (nl (sel bays k i)) from fun Y hY => by
    obtain ⟨r1, r2, r3, r4, r5, r6⟩ := HCX.out Y (HBX.out.trans (hY.mono (by have := HBX.out.size; omega)))
    exact ⟨r1, r2, r3, r4, r5, r6, HTI.out.1.mono (by omega) hY⟩)
  have HB2 := Lib.hid hB2
  have hB2s : B2 ≤ W2.heap.size := by rw [hB2]; exact Nat.le_refl _
  have hB12 : B1 ≤ B2 := by rw [hB2, hW2]; exact hmx
  clear hown hbX hlt hz hil hin hmx hB2 HOWN hW2 q1 q3 c0 c1
  obtain ⟨-, -, q3, -, -, -, -⟩ := HCY.out W2 (Below.refl _ _)
  have c0 := q3.cell (i := 0) rfl
  have c1 := q3.cell (i := 1) rfl
  clear q3
  go_wp2
  clear c0 c1
  go_loopw [14, 15] (fun u j ws => ∃ (v nF : Nat) (F : List Nat) (fa : Option Addr) (fc : Nat), v ≤ n ∧ j = .int .i64 v ∧ u = .slice fa nF fc ∧ F = rowK T bays k L v ∧ nF = F.length ∧ ws.ownsRow B2 3 1 (.slice fa nF fc) nF (nv F) ∧ Below B2 W2 ws) (fun _ j _ => n - (intOf j).toNat)
  case atStart => exact ⟨0, 0, [], none, 0, by omega, rfl, rfl, rfl, rfl, World.ownsRow_nil _ _ _ _, Below.refl _ _⟩
  case round =>
  obtain ⟨v, nF, F, fa, fc, hv, rfl, rfl, hF, hnF, hown, hbX⟩ := hrel
  obtain ⟨X, rfl⟩ : ∃ X : World, X = wr := ⟨_, rfl⟩
  have HF := Lib.hid hF
  have HNF := Lib.hid hnF
  have HOWN := Lib.hid hown
  have HBX2 := Lib.hid hbX
  obtain ⟨-, -, q3, -, -, -, -⟩ := HCY.out X hbX
  have c0 := q3.cell (i := 0) rfl
  have c1 := q3.cell (i := 1) rfl
  clear hF hnF hown hbX q3
  by_cases hvn : v < n
  case pos =>
    go_wp2
    clear c0 c1
    go_loopw [14, 16] (fun u j ws => ∃ (c nF : Nat) (F : List Nat) (fa : Option Addr) (fc : Nat), c ≤ l3 ∧ j = .int .i64 c ∧ u = .slice fa nF fc ∧ F = rowK T bays k L v ++ repK T bays k L v c ∧ nF = F.length ∧ ws.ownsRow B2 3 1 (.slice fa nF fc) nF (nv F) ∧ Below B2 W2 ws) (fun _ j _ => l3 - (intOf j).toNat)
    case atStart => exact ⟨0, nF, F, fa, fc, by omega, rfl, rfl, by rw [HF.out]; simp [repK], HNF.out, HOWN.out, HBX2.out⟩
    case round =>
    clear HF HNF HOWN HBX2
    obtain ⟨c, nF, F, fa, fc, hc, rfl, rfl, hF, hnF, hown, hbX⟩ := hrel
    obtain ⟨X, rfl⟩ : ∃ X : World, X = wr := ⟨_, rfl⟩
    have HF := Lib.hid hF
    have HNF := Lib.hid hnF
    have HOWN := Lib.hid hown
    have HBX2 := Lib.hid hbX
    have hnFb : nF ≤ 40000000 := by
      have h1 := rowK_le (T := T) (bays := bays) (bay := k) (L := L) (by have := HL.out; omega) v
      have h2 := repK_le T bays k L (v : Int) c
      rw [hnF, hF, List.length_append]
      omega
    obtain ⟨-, -, q3, -, ht, -, -⟩ := HCY.out X hbX
    have c0 := q3.cell (i := 0) rfl
    have c1 := q3.cell (i := 1) rfl
    clear hF hnF hown hbX q3
    by_cases hcl : c < l3
    case neg =>
      obtain rfl : c = l3 := by omega
      have HF2 := Lib.hid (show F = rowK T bays k L (v + 1) from by rw [rowK_succ, HF.out, HL3.out])
      clear ht
      go_wp2
      go_roundw
      case rel => exact ⟨v + 1, nF, F, fa, fc, by omega, by go_num, rfl, HF2.out, HNF.out, HOWN.out, HBX2.out⟩
      case measure => simp [intOf]; omega
    case pos =>
    have HVX := Lib.hid (HV.out c X ht hcl)
    obtain ⟨y, hy⟩ : ∃ y, y = vt T (c : Int) := ⟨_, rfl⟩
    rw [← hy] at HVX
    obtain ⟨c3, hc3⟩ : ∃ q, q = c / 3 := ⟨_, rfl⟩
    have s3 : (c : Int) / 3 = (c3 : Int) := by omega
    have hc3b : c3 < i := by have := H3N.out; omega
    have HY := Lib.hid hy
    have HC3 := Lib.hid hc3
    clear ht hy hc3
    go_wp2_with fail
    refine HVX.out.mono ?_
    rintro e w4 ⟨rfl, hb4⟩
    clear c0 c1 HVX
    obtain ⟨X4, rfl⟩ : ∃ X : World, X = w4 := ⟨_, rfl⟩
    have HOW4 := Lib.hid (owns_below HOWN.out hb4)
    have HBX4 := Lib.hid (below_more HBX2.out hb4 (by have := HBX2.out.size; omega))
    clear hb4 HOWN HBX2
    obtain ⟨q1, q2, -, -, -, -, -⟩ := HCY.out X4 HBX4.out
    have hmc := q1.cell (iv_get M hc3b)
    have hlc := q2.cell (iv_get L hcl)
    obtain ⟨lk, hlk⟩ : ∃ l, l = L c := ⟨_, rfl⟩
    rw [← hlk] at hlc
    obtain ⟨q, hq⟩ : ∃ q, q = M c3 := ⟨_, rfl⟩
    rw [← hq] at hmc
    have HREP := Lib.hid (show isRepK T bays k L (v : Int) c = (decide (y = (v : Int)) && decide (q = k) && decide (lk = (c : Int))) from by
      unfold isRepK; rw [← HY.out, ← HC3.out, HMG.out c3 hc3b, ← hq, ← hlk])
    have hmx4 := HBX4.out.size
    clear q1 q2 hq hlk
    by_cases h1 : y = (v : Int)
    case neg =>
      have d1 : (y == (v : Int)) = false := by simpa using h1
      have HRN := Lib.hid (repK_no (show isRepK T bays k L (v : Int) c = false from by rw [HREP.out]; simp [h1]))
      clear h1
      go_wp2
      go_roundw
      case rel => exact ⟨c + 1, nF, F, fa, fc, by omega, by go_num, rfl, by rw [HRN.out]; exact HF.out, HNF.out, HOW4.out, HBX4.out⟩
      case measure => simp [intOf]; omega
    case pos =>
    have d1 : (y == (v : Int)) = true := by simpa using h1
    by_cases h2 : q = k
    case neg =>
      have d2 : (q == k) = false := by simpa using h2
      have HRN := Lib.hid (repK_no (show isRepK T bays k L (v : Int) c = false from by rw [HREP.out]; simp [h2]))
      clear h1 h2
      go_wp2
      go_roundw
      case rel => exact ⟨c + 1, nF, F, fa, fc, by omega, by go_num, rfl, by rw [HRN.out]; exact HF.out, HNF.out, HOW4.out, HBX4.out⟩
      case measure => simp [intOf]; omega
    case pos =>
    have d2 : (q == k) = true := by simpa using h2
    by_cases h3 : lk = (c : Int)
    case neg =>
      have d3 : (lk == (c : Int)) = false := by simpa using h3
      have HRN := Lib.hid (repK_no (show isRepK T bays k L (v : Int) c = false from by rw [HREP.out]; simp [h3]))
      clear h1 h2 h3
      go_wp2
      go_roundw
      case rel => exact ⟨c + 1, nF, F, fa, fc, by omega, by go_num, rfl, by rw [HRN.out]; exact HF.out, HNF.out, HOW4.out, HBX4.out⟩
      case measure => simp [intOf]; omega
    case pos =>
    have d3 : (lk == (c : Int)) = true := by simpa using h3
    have HRY := Lib.hid (repK_yes (show isRepK T bays k L (v : Int) c = true from by rw [HREP.out]; simp [h1, h2, h3]))
    have HQ1 := Lib.hid (show nF + 1 ≤ maxLen from by unfold maxLen; omega)
    have HQ2 := Lib.hid (show (nF + 1) * 8 ≤ 140737488355328 from by omega)
    have HQ3 := Lib.hid (show B2 ≤ (X4.alloc (.cells #[.int .i64 (c : Int)] 3)).heap.size from by simp; omega)
    clear h1 h2 h3
    go_upto_region 18 with fail
    clear hmc hlc
    have HX := Lib.hid (HOW4.out.alloc (.cells #[.int .i64 (c : Int)] 3))
    go_wp2_with (at_builtin; refine wpList_append_lies _ rfl _ _ 25 rfl B2 3 i0 (.int .i64 0) 1 8 (by kernel_rfl) hi hz0 hz1 hz2 rfl (by decide) (.slice fa nF fc) nF (nv F) rfl HX.out ⟨X4.heap.size, 0, none⟩ 1 1 [.int .i64 (c : Int)] rfl rfl (World.news_of_block (heap_alloc_new X4 _)) (by intro u hu; simp at hu; subst hu; rfl) (by decide) HQ1.out HQ2.out HQ3.out _ rfl ?_)
    intro g1 cap1 X5 hown5 hgr5 hat5 hlt5
    have HO5 := Lib.hid (show X5.ownsRow B2 3 1 (.slice (some ⟨g1, 0, none⟩) (nF + 1) cap1) (nF + 1) (nv (F ++ [c])) from by rw [nv_snoc]; exact hown5)
    have HB5 := Lib.hid (show Below B2 W2 X5 from (HBX4.out.alloc (Nat.le_trans hB2s hmx4) (.cells #[.int .i64 (c : Int)] 3)).grown hgr5 HQ3.out (fun q hq => (HOW4.out.lt q hq).1))
    clear hown5 hgr5 hat5 hlt5 HX
    go_wp2
    go_roundw
    case rel => exact ⟨c + 1, nF + 1, F ++ [c], _, _, by omega, by go_num, rfl, by rw [HRY.out, ← List.append_assoc, ← HF.out], by rw [List.length_append, ← HNF.out]; rfl, HO5.out, HB5.out⟩
    case measure => simp [intOf]; omega
  case neg =>
  obtain rfl : n = v := by omega
  have HPF := Lib.hid (show Piece (KSAdj T K) T bays k L F from by rw [HF.out]; exact HPC.out)
  have hnFb : nF ≤ 3000 := by rw [HNF.out]; have := HPF.out.len; have := HL3.out; have := H3N.out; omega
  obtain ⟨ob, hob⟩ : ∃ b, b = X.heap.size := ⟨_, rfl⟩
  obtain ⟨W3, hW3⟩ : ∃ W3, W3 = X.alloc (.cells #[.int .i64 (nF : Int), .slice none 0 0] 24) := ⟨_, rfl⟩
  have hFI : IntsAt X fa (nl F) ∧ New B2 fa := ⟨by have := HOWN.out; rw [HNF.out] at this; exact owns_nl this, owns_newS HOWN.out⟩
  have hB3s : W3.heap.size = ob + 1 := by rw [hW3, hob]; simp
  have HRO := Lib.hid (show RowIs W3 ob 24 [.int .i64 (nF : Int), .slice none 0 0] from by rw [hW3, hob]; exact RowIs.made X 24 [.int .i64 (nF : Int), .slice none 0 0])
  have HCZ := Lib.hid (show ∀ Y, Below ob W3 Y → RowIs Y gl 3 (iv L l3) ∧ RowIs Y xb 24 [.int .i64 (n : Int), .slice ao i cap] ∧ RowIs Y (xb + 1) 24 [.int .i64 0, .slice none 0 0] ∧ TrisAt Y ao T ∧ Below xb w Y ∧ IntsAt Y va (nl (sel bays k i)) ∧ IntsAt Y fa (nl F) from fun Y hY => by
    have hXY : Below ob X Y := Below.trans (b := W3) (by rw [hW3, hob]; exact (Below.refl _ _).alloc (Nat.le_refl _) _) hY
    obtain ⟨r1, r2, r3, r4, r5, r6, r7⟩ := HCY.out Y (HBX2.out.trans (hXY.mono (by have := HBX2.out.size; omega)))
    exact ⟨r2, r3, r4, r5, r6, r7, hFI.1.mono (by omega) hXY⟩)
  obtain ⟨B3, hB3⟩ : ∃ b, b = ob + 1 := ⟨_, rfl⟩
  rw [← hB3] at hB3s
  have hB3l : B3 ≤ W3.heap.size := by omega
  have hobB : ob < B3 := by omega
  have hB2o : B2 ≤ ob := by rw [hob]; have := HBX2.out.size; omega
  have HW3 := Lib.hid hW3
  have HOB := Lib.hid hob
  have HBS := Lib.hid (show W3.heap.size = B3 ∧ B3 = ob + 1 from ⟨hB3s, hB3⟩)
  have HNEW := Lib.hid (show New B2 fa from hFI.2)
  clear hFI hB3s hW3 hob hB3 hv hvn HOWN HBX2
  go_upto_region 20 with fail
  rw [← HW3.out, ← HOB.out]
  clear c0 c1
  obtain ⟨-, q3, -, -, -, -, -⟩ := HCZ.out W3 (Below.refl _ _)
  go_wp2
  clear q3
  go_loopw [18, 19] (fun u j ws => ∃ (m : Nat) (oa : Option Addr) (oc : Nat), m ≤ nF ∧ j = .int .i64 m ∧ u = .slice oa m oc ∧ ws.ownsRow B3 3 1 (.slice oa m oc) m (ic (cutV T (F.take m))) ∧ Below B3 W3 ws) (fun _ j _ => nF - (intOf j).toNat)
  case atStart => exact ⟨0, none, 0, by omega, rfl, rfl, World.ownsRow_nil _ _ _ _, Below.refl _ _⟩
  case round =>
  obtain ⟨m, oa, oc, hm, rfl, rfl, hown, hbX⟩ := hrel
  obtain ⟨X, rfl⟩ : ∃ X : World, X = wr := ⟨_, rfl⟩
  have HOWN := Lib.hid hown
  have HBX3 := Lib.hid hbX
  clear hown hbX
  by_cases hmn : m < nF
  case pos =>
    obtain ⟨c, hc⟩ : ∃ c, F[m]? = some c := ⟨_, List.getElem?_eq_getElem (by rw [← HNF.out]; exact hmn)⟩
    have hcm := HPF.out.mem.1 (List.mem_of_getElem? hc)
    have hcl : c < l3 := by rw [HL3.out]; exact hcm.1
    have HVT := Lib.hid (show vtx T c = vt T (c : Int) from by unfold vtx; rw [if_pos hcm.1])
    have HTK := Lib.hid (show ic (cutV T (F.take (m + 1))) = ic (cutV T (F.take m)) ++ [.int .i64 (vt T (c : Int))] from by
      rw [take_snocS hc, cutV_snoc, HVT.out, ic_snoc])
    obtain ⟨-, -, -, -, -, -, hFX⟩ := HCZ.out X (HBX3.out.mono (by omega))
    obtain ⟨fb, foff, fx, hE, hfx, -, -, -⟩ := hFX.get (Nat.le_refl _) (Below.refl _ _) (i := m) (by rw [nl_length, ← HNF.out]; exact hmn)
    subst hE
    have hfx' : fx = (c : Int) := by rw [← hfx.out]; exact nl_get hc
    subst hfx'
    obtain ⟨y, hy⟩ : ∃ y, y = vt T (c : Int) := ⟨_, rfl⟩
    rw [← hy] at HTK
    have hmx3 := HBX3.out.size
    have HKX := Lib.hid (show ∀ Y, Below B3 X Y → Y.cell? ⟨xb, 0, none⟩ = some (.int .i64 (n : Int)) ∧ Y.cell? ⟨xb, 1, none⟩ = some (.slice ao i cap) ∧ Y.cell? ⟨fb, foff + m, none⟩ = some (.int .i64 (c : Int)) from fun Y hY => by
      have h1 := HBX3.out.trans hY
      obtain ⟨-, q3, -, -, -, -, q7⟩ := HCZ.out Y (h1.mono (by omega))
      obtain ⟨fb', foff', fx', hE', hfx', hcf', -, -⟩ := q7.get (Nat.le_refl _) (Below.refl _ _) (i := m) (by rw [nl_length, ← HNF.out]; exact hmn)
      simp only [Option.some.injEq, Addr.mk.injEq] at hE'
      obtain ⟨rfl, rfl, -⟩ := hE'
      refine ⟨q3.cell (i := 0) rfl, q3.cell (i := 1) rfl, ?_⟩
      rw [hcf']
      have : fx' = (c : Int) := by rw [← hfx'.out]; exact nl_get hc
      rw [this])
    have HVX := Lib.hid (show ∀ Y, Hid (Below X.heap.size X Y) → Calls Tryz.prog 62 #[.agg #[.int .i64 (n : Int), .slice ao i cap], .int .i64 (c : Int)] Y fun e w' => e = .returned (.int .i64 y) ∧ Hid (Below X.heap.size X w') from fun Y hY => by
      obtain ⟨-, -, -, q5, -, -, -⟩ := HCZ.out Y ((below_more HBX3.out hY.out (by omega)).mono (by omega))
      have := HV.out c Y q5 hcl
      rw [← hy] at this
      exact this.mono fun e w' ⟨h1, h2⟩ => ⟨h1, below_more hY.out h2 hY.out.size⟩)
    have HQ1 := Lib.hid (show m + 1 ≤ maxLen from by unfold maxLen; omega)
    have HQ2 := Lib.hid (show (m + 1) * 8 ≤ 140737488355328 from by omega)
    have HRF := Lib.hid (Below.refl X.heap.size X)
    have HDR := Lib.hid (show Below X.heap.size X X.drew from ⟨rfl, rfl, rfl, Nat.le_refl _, fun _ _ => rfl⟩)
    have hmx : B3 ≤ X.heap.size := by omega
    have hRFB : Below B3 X X := Below.refl _ _
    clear hc hcm hFX hfx hy
    go_upto_region 24 with fail
    go_region_held_law (fun Y => Y.cell? ⟨xb, 0, none⟩ = some (.int .i64 (n : Int)) ∧ Y.cell? ⟨xb, 1, none⟩ = some (.slice ao i cap) ∧ Y.cell? ⟨fb, foff + m, none⟩ = some (.int .i64 (c : Int)))
      (exact HKX.out _ (by repeat (first | assumption | with_reducible apply belB_drew | (with_reducible refine belB_alloc hmx ?_ _))))
      (first
        | (go_at_call 62; (with_reducible refine (HVX.out _ (by assumption)).mono ?_); rintro e wV ⟨rfl, hV⟩; have hVB : Below B3 X wV := hV.out.mono hmx)
        | (refine step_append_lies _ (by rfl) _ _ _ (by rfl) B3 3 i0 (.int .i64 0) 1 8 (by kernel_rfl) hi hz0 hz1 hz2 rfl (by decide) (.slice oa m oc) m (ic (cutV T (F.take m))) (by rfl) (owns_below HOWN.out (by repeat (first | exact hV.out | with_reducible exact Below.refl _ _ | with_reducible apply bel_drew | with_reducible apply bel_alloc))) ⟨wV.heap.size, 0, none⟩ 1 1 [.int .i64 y] (by rfl) rfl (World.news_of_block (heap_alloc_new _ _)) (by intro u hu; simp at hu; subst hu; rfl) (by decide) HQ1.out HQ2.out (by have := hV.out.size; simp; omega) (wV.heap.size + 1) (by simp) ?_; intro g3 cap3 X3 hown3 hgr3 hat3 hlt3; have hk3 : Below B3 X X3 := (show Below B3 X _ from (by repeat (first | assumption | with_reducible apply belB_drew | (with_reducible refine belB_alloc hmx ?_ _)))).grown hgr3 (by have := hV.out.size; simp; omega) (fun q hq => (HOWN.out.lt q hq).1)))
    all_goals
      have HO3 := Lib.hid (show X3.ownsRow B3 3 1 (.slice (some ⟨g3, 0, none⟩) (m + 1) cap3) (m + 1) (ic (cutV T (F.take (m + 1)))) from by rw [HTK.out]; exact hown3)
      have HB33 := Lib.hid (HBX3.out.trans hk3)
      clear hown3 hgr3 hat3 hlt3 hk3 hVB hV
      go_wp2
      go_roundw
      case rel =>
        first
          | exact ⟨m + 1, _, _, by omega, by go_num, rfl, HO3.out, HB33.out⟩
          | exact ⟨m + 1, _, _, by omega, by go_num, rfl, owns_below HO3.out (Below.refl _ _).drew, belB_drew HB33.out⟩
      case measure => simp [intOf]; omega
  case neg =>
  obtain rfl : m = nF := by omega
  have HFT := Lib.hid (show F.take m = F from by rw [HNF.out, List.take_length])
  have HOI := Lib.hid (show IntsAt X oa (cutV T F) ∧ New B3 oa from by
    have h := HOWN.out
    rw [HFT.out] at h
    obtain ⟨a1, c1, e1, h1⟩ := owns_ic h (by rw [cutV, List.length_map]; exact HNF.out)
    simp only [Value.slice.injEq] at e1
    exact ⟨by rw [e1.1]; exact h1, owns_newS HOWN.out⟩)
  obtain ⟨W4, hW4⟩ : ∃ W4 : World, W4 = X := ⟨_, rfl⟩
  rw [← hW4] at HOI HBX3
  rw [← hW4]
  obtain ⟨B4, hB4⟩ : ∃ b, b = W4.heap.size := ⟨_, rfl⟩
  have hB34 : B3 ≤ B4 := by have := HBX3.out.size; omega
  have HCU := Lib.hid (show ∀ Y, But B4 ob W4 Y → RowIs Y gl 3 (iv L l3) ∧ RowIs Y xb 24 [.int .i64 (n : Int), .slice ao i cap] ∧ RowIs Y (xb + 1) 24 [.int .i64 0, .slice none 0 0] ∧ TrisAt Y ao T ∧ Below xb w Y ∧ IntsAt Y va (nl (sel bays k i)) ∧ IntsAt Y fa (nl F) from fun Y hY => HCZ.out Y ((HBX3.out.mono (by omega)).trans (hY.below (by omega) (Nat.le_refl _))))
  have HST := Lib.hid (show RO W4 W4 ob B4 (m : Int) (.slice none 0 0) 0 [] from ⟨HRO.out.below HBX3.out hobB, ⟨fun r hr => by
      simp only [List.mem_cons, List.not_mem_nil, or_false] at hr
      subst hr
      exact World.ownsRow_nil _ _ _ _, by simp [Apart, Value.ownBlock]⟩, But.refl _ _ _, by omega, by rw [hB4]; exact Nat.le_refl _⟩)
  have HB4 := Lib.hid hB4
  have HSL := Lib.hid (show (sel bays k i).length ≤ i from sel_le _ _ _)
  have hlt8 : lt ≤ 1000 := by have := HLT.out; have := HSL.out; omega
  have HSM := Lib.hid (show ∀ c, c < l3 → I! bays (c / 3) = k → 0 ≤ L c ∧ (L c).toNat ∈ F from fun c hc hb => by
    have := HPF.out.rep (by rw [← HL3.out]; exact hc) hb
    exact ⟨by have := this.1; omega, this.2⟩)
  have HND := Lib.hid (show F.Nodup from HPF.out.nodup)
  obtain ⟨CT, hCT⟩ : ∃ c, c = cutT bays k L F i := ⟨_, rfl⟩
  have HCT := Lib.hid hCT
  clear hB4 hW4 hm hmn HOWN hCT
  go_wp2
  go_loopw [20] (fun j ws => ∃ (t : Nat) (vT : Value), t ≤ lt ∧ j = .int .i64 t ∧ RO W4 ws ob B4 (m : Int) vT t (CT.take t)) (fun j _ => lt - (intOf j).toNat)
  case atStart => exact ⟨0, _, by omega, rfl, by simpa using HST.out⟩
  case round =>
  clear HST
  obtain ⟨t, vT, ht, rfl, hst⟩ := hrel
  obtain ⟨X, rfl⟩ : ∃ X : World, X = wr := ⟨_, rfl⟩
  have HST := Lib.hid hst
  clear hst
  by_cases htl : t < lt
  case neg =>
    obtain rfl : lt = t := by omega
    obtain ⟨aT, cT, hv⟩ := owns_slice HST.out.rowT
    subst hv
    obtain ⟨-, -, q4, -, q6, q7, -⟩ := HCU.out X HST.out.old
    have p0 := HST.out.row.cell (i := 0) rfl
    have p1 := HST.out.row.cell (i := 1) rfl
    have z0 := q4.cell (i := 0) rfl
    have z1 := q4.cell (i := 1) rfl
    have zf := fun i => q4.free i
    obtain ⟨YF, hYF⟩ : ∃ Y, Y = (X.setCell ⟨xb + 1, 0, none⟩ (.int .i64 (m : Int))).setCell ⟨xb + 1, 1, none⟩ (.slice aT lt cT) := ⟨_, rfl⟩
    have hrF : RowIs YF (xb + 1) 24 [.int .i64 (m : Int), .slice aT lt cT] := by rw [hYF]; exact (q4.set 0 (.int .i64 (m : Int))).set 1 (.slice aT lt cT)
    have y0 := hrF.cell (i := 0) rfl
    have y1 := hrF.cell (i := 1) rfl
    have HFIN := Lib.hid (show Surf32P T K k w (.returned (.tuple #[.agg #[.int .i64 (m : Int), .slice aT lt cT], .slice oa m oc, .slice va lt vc, .bool true])) YF from by
      have hL := HL.out
      have hbb := HBY.out
      have hxg : xb + 1 < B4 := by omega
      have hmxX := HST.out.mx
      have kT := (HST.out.rowT.kept (grown_set X (xb + 1) 0 (.int .i64 (m : Int))) (owns_off HST.out.rowT hxg))
      have kT2 := kT.kept (grown_set (X.setCell ⟨xb + 1, 0, none⟩ (.int .i64 (m : Int))) (xb + 1) 1 (.slice aT lt cT)) (owns_off kT hxg)
      have hall : CT.take lt = cutT bays k L F i := by rw [HCT.out, HLT.out, show (sel bays k i).length = (cutT bays k L F i).length by unfold cutT; rw [List.length_map], List.take_length]
      have hlen9 : lt = (cutT bays k L F i).length := by unfold cutT; rw [List.length_map]; exact HLT.out
      have hb1 : But X.heap.size (xb + 1) X (X.setCell ⟨xb + 1, 0, none⟩ (.int .i64 (m : Int))) := (But.refl _ _ _).grown (grown_set X (xb + 1) 0 _) (Nat.le_refl _) (fun q hq => .inr (by cases hq; rfl))
      have hb2 : But X.heap.size (xb + 1) X YF := by
        rw [hYF]
        exact hb1.grown (grown_set (X.setCell ⟨xb + 1, 0, none⟩ (.int .i64 (m : Int))) (xb + 1) 1 (.slice aT lt cT)) hb1.size (fun q hq => .inr (by cases hq; rfl))
      have iO : IntsAt YF oa (cutV T F) := (HOI.out.1.butK (Nat.le_of_eq HB4.out.symm) HST.out.old (fun p hp => by have := HOI.out.2 p hp; omega)).butK (Nat.le_refl _) hb2 (fun p hp => by have := HOI.out.2 p hp; omega)
      have iV : IntsAt YF va (nl (sel bays k i)) := q7.butK (Nat.le_refl _) hb2 (fun p hp => by have := HTI.out.2 p hp; omega)
      have kT3 : YF.ownsRow B4 49 3 (.slice aT lt cT) (cutT bays k L F i).length (tcells (cutT bays k L F i)) := by rw [← hlen9, ← hall, hYF]; exact kT2
      obtain ⟨a1, c1, e1, h1⟩ := owns_tris kT3
      simp only [Value.slice.injEq] at e1
      have hTA : TrisAt YF aT (cutT bays k L F i) := by rw [e1.1]; exact h1
      refine ⟨⟨M, by rw [← hL]; exact HM.out, .inr ⟨by rw [← hL, ← hbb]; exact HNE.out, L, F, aT, oa, va, cT, oc, vc, by rw [← hL, ← hbb]; exact HPF.out, ?_, by rw [← hL, ← hbb]; exact hTA, iO, by rw [← hL, ← hbb]; exact iV⟩⟩, ?_⟩
      · rw [← hL, ← hbb, ← hlen9, ← HNF.out, ← HLT.out]
      · rw [← HXB.out, hYF]
        exact (q6.setCell (p := ⟨xb + 1, 0, none⟩) (by show xb ≤ xb + 1; omega) _).setCell (p := ⟨xb + 1, 1, none⟩) (by show xb ≤ xb + 1; omega) _)
    have HYF := Lib.hid hYF
    clear hrF hYF q4 q6 q7
    go_wp2
    rw [← HYF.out]
    exact bodyPost_ret (v := .tuple #[.agg #[.int .i64 (m : Int), .slice aT lt cT], .slice oa m oc, .slice va lt vc, .bool true]) (by simp [results, Tryz.results21, go_sem, y0, y1]) rfl HFIN.out
  case pos =>
  obtain ⟨tr, htr⟩ : ∃ x, (sel bays k i)[t]? = some x := ⟨_, List.getElem?_eq_getElem (by rw [← HLT.out]; exact htl)⟩
  have htm := selP_mem.1 (List.mem_of_getElem? htr)
  have htri : tr < i := htm.1
  have HTRB := Lib.hid htm.2
  have HTRG := Lib.hid htr
  have HTK := Lib.hid (show CT.take (t + 1) = CT.take t ++ [cutTri L F tr] from by rw [HCT.out]; exact take_snocS (by unfold cutT; rw [List.getElem?_map, htr]; rfl))
  obtain ⟨xg, hxg⟩ : ∃ x, x = X.heap.size := ⟨_, rfl⟩
  obtain ⟨X1, hX1⟩ : ∃ X1, X1 = X.alloc (.cells #[.int .i64 0, .int .i64 0, .int .i64 0] 49) := ⟨_, rfl⟩
  have HX1 := Lib.hid hX1
  have hgB : B4 ≤ xg := by rw [hxg]; exact HST.out.mx
  have HTR := Lib.hid (show RowIs X1 xg 49 (iv (triK F L tr 0 0) 3) from by rw [hX1, hxg, triK_zero]; exact RowIs.made X 49 (iv (fun _ => 0) 3))
  have HOX := Lib.hid (show vT.ownBlock ≠ some xg from fun e => by have := (HST.out.rowT.lt _ e).2; omega)
  have HST1 := Lib.hid (show RO W4 X1 ob B4 (m : Int) vT t (CT.take t) from by rw [hX1]; exact HST.out.alloc _)
  have HXG := Lib.hid hxg
  have hsb : ∀ s : Nat, s < 3 → 3 * tr + s < l3 := fun s hs => by have := H3N.out; omega
  clear hX1 hxg HST htr htm
  go_upto_region 29 with fail
  rw [← HX1.out]
  try rw [← HXG.out]
  go_wp2
  go_loopw [22] (fun j ws => ∃ (s : Nat), s ≤ 3 ∧ j = .int .i64 s ∧ RowIs ws xg 49 (iv (triK F L tr s 0) 3) ∧ RO W4 ws ob B4 (m : Int) vT t (CT.take t)) (fun j _ => 3 - (intOf j).toNat)
  case atStart => exact ⟨0, by omega, rfl, HTR.out, HST1.out⟩
  case round =>
  clear HST1 HTR HX1
  obtain ⟨s, hs, rfl, htr, hst⟩ := hrel
  obtain ⟨X, rfl⟩ : ∃ X : World, X = wr := ⟨_, rfl⟩
  have HST := Lib.hid hst
  have HTR := Lib.hid htr
  clear hst htr
  by_cases hs3 : s < 3
  case neg =>
    have hs33 : s = 3 := by omega
    have ds3 : decide ((s : Int) < 3) = false := by simp; omega
    obtain ⟨x0, hx0⟩ : ∃ x, x = ixF F (L (3 * tr)) := ⟨_, rfl⟩
    obtain ⟨x1, hx1⟩ : ∃ x, x = ixF F (L (3 * tr + 1)) := ⟨_, rfl⟩
    obtain ⟨x2, hx2⟩ : ∃ x, x = ixF F (L (3 * tr + 2)) := ⟨_, rfl⟩
    have HTRI := Lib.hid (show cutTri L F tr = (x0, x1, x2) from by unfold cutTri; rw [hx0, hx1, hx2])
    have htr3 : RowIs X xg 49 [.int .i64 x0, .int .i64 x1, .int .i64 x2] := by
      have := HTR.out
      rw [hs33] at this
      rw [hx0, hx1, hx2]
      exact this
    have t0 := htr3.cell (i := 0) rfl
    have t1 := htr3.cell (i := 1) rfl
    have t2 := htr3.cell (i := 2) rfl
    have d3 := HST.out.row.cell (i := 1) (v := vT) rfl
    have HOT := Lib.hid HST.out.rowT
    have hmxX := HST.out.mx
    have HQ1 := Lib.hid (show t + 1 ≤ maxLen from by unfold maxLen; omega)
    have HQ2 := Lib.hid (show (t + 1) * 24 ≤ 140737488355328 from by omega)
    have HQ3 := Lib.hid (show B4 ≤ (X.alloc (.cells #[.int .i64 x0, .int .i64 x1, .int .i64 x2] 49)).heap.size from by simp; omega)
    clear hx0 hx1 hx2 htr3 hs33 hs3
    go_upto_region 37 with fail
    go_wp2_with (at_builtin; refine wpList_append_lies _ rfl _ _ 22 rfl B4 49 it (.agg #[.int .i64 0, .int .i64 0, .int .i64 0]) 3 24 (by kernel_rfl) hit ht0 ht1 ht2 rfl (by decide) vT t (tcells (CT.take t)) rfl (HOT.out.alloc _) ⟨X.heap.size, 0, none⟩ 1 1 [.int .i64 x0, .int .i64 x1, .int .i64 x2] rfl rfl (World.news_of_block (heap_alloc_new X _)) (by intro u hu; simp at hu; rcases hu with rfl | rfl | rfl <;> rfl) (by decide) HQ1.out HQ2.out HQ3.out _ rfl ?_)
    intro g5 cap5 X9 hown9 hgr9 hat9 hlt9
    have hmid9 := (HST.out.alloc (.cells #[.int .i64 x0, .int .i64 x1, .int .i64 x2] 49)).mid (HOT.out.alloc _) hgr9
    have e5 := hmid9.cell (i := 1) (v := vT) rfl
    have f5 := hmid9.free 1
    have HST9 := Lib.hid ((HST.out.alloc (.cells #[.int .i64 x0, .int .i64 x1, .int .i64 x2] 49)).pushT (TT' := CT.take (t + 1)) (by rw [HTK.out, tcells_snoc, HTRI.out]; exact hown9) hgr9 (hat9.imp id fun e => by simp; omega))
    clear d3 t0 t1 t2 hown9 hgr9 hat9 hlt9 hmid9
    go_wp2
    go_roundw
    case rel => exact ⟨t + 1, _, by omega, by go_num, HST9.out⟩
    case measure => simp [intOf]; omega
  case pos =>
  have ds3 : decide ((s : Int) < 3) = true := by simp; omega
  go_wp2
  go_loopw [23] (fun p ws => ∃ (a : Nat) (z : Int), a ≤ m ∧ p = .int .i64 a ∧ z = lastK F (L (3 * tr + s)) 0 a ∧ RowIs ws xg 49 (iv (triK F L tr s z) 3) ∧ RO W4 ws ob B4 (m : Int) vT t (CT.take t)) (fun p _ => m - (intOf p).toNat)
  case atStart => exact ⟨0, 0, by omega, rfl, rfl, HTR.out, HST.out⟩
  case round =>
  clear HST HTR
  obtain ⟨a, z, ha, rfl, hz, htr, hst⟩ := hrel
  obtain ⟨X, rfl⟩ : ∃ X : World, X = wr := ⟨_, rfl⟩
  have HST := Lib.hid hst
  have HTR := Lib.hid htr
  have HZ := Lib.hid hz
  clear hst htr hz
  by_cases hkn : a < m
  case neg =>
    obtain rfl : m = a := by omega
    have hmem := HSM.out (3 * tr + s) (hsb s hs3) (by rw [show (3 * tr + s) / 3 = tr by omega]; exact HTRB.out)
    have hzz : z = ixF F (L (3 * tr + s)) := by rw [HZ.out, HNF.out]; exact lastK_ix HND.out hmem.1 hmem.2
    have HTRn := Lib.hid (show RowIs X xg 49 (iv (triK F L tr (s + 1) 0) 3) from by rw [← triK_next, ← hzz]; exact HTR.out)
    clear hmem hzz HZ hkn ha
    go_wp2
    go_roundw
    case rel => exact ⟨s + 1, by omega, by go_num, HTRn.out, HST.out⟩
    case measure => simp [intOf]; omega
  case pos =>
  obtain ⟨c, hc⟩ : ∃ c, F[a]? = some c := ⟨_, List.getElem?_eq_getElem (by rw [← HNF.out]; exact hkn)⟩
  obtain ⟨r1, -, -, -, -, r6, r7⟩ := HCU.out X HST.out.old
  obtain ⟨fb, foff, fx, hE, hfx, hcf, -, -⟩ := r7.get (Nat.le_refl _) (Below.refl _ _) (i := a) (by rw [nl_length, ← HNF.out]; exact hkn)
  subst hE
  have hfx' : fx = (c : Int) := by rw [← hfx.out]; exact nl_get hc
  subst hfx'
  obtain ⟨sb, soff, sx, hE, hsx, hcs, -, -⟩ := r6.get (Nat.le_refl _) (Below.refl _ _) (i := t) (by rw [nl_length, ← HLT.out]; exact htl)
  subst hE
  have hsx' : sx = (tr : Int) := by rw [← hsx.out]; exact nl_get HTRG.out
  subst hsx'
  obtain ⟨j0, hj0⟩ : ∃ q, q = 3 * tr := ⟨_, rfl⟩
  obtain ⟨j1, hj1⟩ : ∃ q, q = 3 * tr + s := ⟨_, rfl⟩
  have s0 : (3 : Int) * (tr : Int) = (j0 : Int) := by omega
  have s1 : (j0 : Int) + (s : Int) = (j1 : Int) := by omega
  have hj1b : j1 < l3 := by rw [hj1]; exact hsb s hs3
  have hlX := r1.cell (iv_get L hj1b)
  obtain ⟨lk, hlk⟩ : ∃ l, l = L j1 := ⟨_, rfl⟩
  rw [← hlk] at hlX
  have HI1 := Lib.hid hj1
  have HLK := Lib.hid hlk
  have h3s : (s : Int) < 3 := by omega
  have hx1 := HTR.out.free s
  have hx2 := HTR.out.cell (iv_get (triK F L tr s z) hs3)
  have hmlt : m ≤ 3000 := hnFb
  by_cases hcl : (c : Int) = lk
  case pos =>
    have d3 : ((c : Int) == lk) = true := by simpa using hcl
    have HN := Lib.hid (show lastK F (L (3 * tr + s)) 0 (a + 1) = (a : Int) from lastK_yes hc (by rw [hcl, HLK.out, HI1.out]))
    have HTR2 := Lib.hid (show ∀ q, RowIs ((X.drewN q).setCell ⟨xg, s, none⟩ (.int .i64 (a : Int))) xg 49 (iv (triK F L tr s (a : Int)) 3) from fun q => by
      have := (HTR.out.drew q).set s (.int .i64 (a : Int))
      rwa [iv_set, triK_upd] at this)
    have HST2 := Lib.hid (fun q : Nat => (HST.out.drewN q).setX hgB HOX.out s (.int .i64 (a : Int)))
    clear hc r1 r6 r7 hfx hsx hj0 hj1 hlk hcl
    go_upto_region 35 with fail
    go_quiet (fail)
    go_wp2
    go_roundw
    case rel => exact ⟨a + 1, (a : Int), by omega, by go_num, HN.out.symm, HTR2.out _, HST2.out _⟩
    case measure => simp [intOf]; omega
  case neg =>
    have d3 : ((c : Int) == lk) = false := by simpa using hcl
    have HN := Lib.hid (show lastK F (L (3 * tr + s)) 0 (a + 1) = lastK F (L (3 * tr + s)) 0 a from lastK_no hc (by rw [← HI1.out, ← HLK.out]; exact hcl))
    clear hc r1 r6 r7 hfx hsx hj0 hj1 hlk hcl
    go_upto_region 35 with fail
    go_quiet (fail)
    go_wp2
    go_roundw
    case rel => exact ⟨a + 1, z, by omega, by go_num, by rw [HN.out]; exact HZ.out, HTR.out.drew _, HST.out.drewN _⟩
    case measure => simp [intOf]; omega
theorem csurf_yes {M L : Nat → Int} {F : List Nat} (n : Nat) (ao : Option Addr) (cap : Nat) (T : List Tr) (ko : Option Addr) (kc : Nat) (K : List Int) (k : Int) (w : World) (hT : TrisAt w ao T) (hs : Surf n T) (hK : IntsAt w ko K) (hkl : K.length = 3 * T.length)
    (hM : IsShells (KAdj T K) T.length M) (hp : Piece (KSAdj T K) T (mL M T.length) k L F) (hne : sel (mL M T.length) k T.length ≠ []) :
    Calls Tryz.prog 20 #[.agg #[.int .i64 (n : Int), .slice ao T.length cap], .slice ko K.length kc, .int .i64 k] w fun e w' => ∃ a1 a2 a3 c1 c2 c3,
      e = .returned (.tuple #[.agg #[.int .i64 (F.length : Int), .slice a1 (cutT (mL M T.length) k L F T.length).length c1], .slice a2 F.length c2, .slice a3 (sel (mL M T.length) k T.length).length c3, .int .i64 0]) ∧
      TrisAt w' a1 (cutT (mL M T.length) k L F T.length) ∧ IntsAt w' a2 (cutV T F) ∧ IntsAt w' a3 (nl (sel (mL M T.length) k T.length)) ∧ Below w.heap.size w w' :=
  (csurf_ok n ao cap T ko kc K k w hT hs hK hkl).mono fun e w' h => by
    obtain ⟨⟨M', hM', h⟩, hb⟩ := h
    rw [mL_congr (kshell_one hM' hM)] at h
    rcases h with ⟨h0, -⟩ | ⟨-, L', F', a1, a2, a3, c1, c2, c3, hp', rfl, h1, h2, h3, -⟩
    · exact absurd h0 hne
    · obtain ⟨rfl, e2⟩ := hp'.same hp
      rw [e2] at h1 ⊢
      exact ⟨a1, a2, a3, c1, c2, c3, rfl, h1, h2, h3, hb⟩
theorem csurf_no {M : Nat → Int} (n : Nat) (ao : Option Addr) (cap : Nat) (T : List Tr) (ko : Option Addr) (kc : Nat) (K : List Int) (k : Int) (w : World) (hT : TrisAt w ao T) (hs : Surf n T) (hK : IntsAt w ko K) (hkl : K.length = 3 * T.length)
    (hM : IsShells (KAdj T K) T.length M) (hne : sel (mL M T.length) k T.length = []) :
    Calls Tryz.prog 20 #[.agg #[.int .i64 (n : Int), .slice ao T.length cap], .slice ko K.length kc, .int .i64 k] w fun e w' => e = .returned (noSurf 8) ∧ Below w.heap.size w w' :=
  (csurf_ok n ao cap T ko kc K k w hT hs hK hkl).mono fun e w' h => by
    obtain ⟨⟨M', hM', h⟩, hb⟩ := h
    rw [mL_congr (kshell_one hM' hM)] at h
    rcases h with ⟨-, h0⟩ | ⟨h0, -⟩
    · exact ⟨h0, hb⟩
    · exact absurd hne h0
theorem surf32_yes {M L : Nat → Int} {F : List Nat} (n : Nat) (ao : Option Addr) (cap : Nat) (T : List Tr) (ko : Option Addr) (kc : Nat) (K : List Int) (k : Int) (w : World) (hT : TrisAt w ao T) (hs : Surf n T) (hK : IntsAt w ko K) (hkl : K.length = 3 * T.length) (hl : T.length ≤ 1000) (hn : n ≤ 10000)
    (hM : IsShells (KAdj T K) T.length M) (hp : Piece (KSAdj T K) T (mL M T.length) k L F) (hne : sel (mL M T.length) k T.length ≠ []) :
    Calls Tryz.prog 21 #[.agg #[.int .i64 (n : Int), .slice ao T.length cap], .slice ko K.length kc, .int .i64 k] w fun e w' => ∃ a1 a2 a3 c1 c2 c3,
      e = .returned (.tuple #[.agg #[.int .i64 (F.length : Int), .slice a1 (cutT (mL M T.length) k L F T.length).length c1], .slice a2 F.length c2, .slice a3 (sel (mL M T.length) k T.length).length c3, .bool true]) ∧
      TrisAt w' a1 (cutT (mL M T.length) k L F T.length) ∧ IntsAt w' a2 (cutV T F) ∧ IntsAt w' a3 (nl (sel (mL M T.length) k T.length)) ∧ Below w.heap.size w w' :=
  (surf32 n ao cap T ko kc K k w hT hs hK hkl hl hn).mono fun e w' h => by
    obtain ⟨⟨M', hM', h⟩, hb⟩ := h
    rw [mL_congr (kshell_one hM' hM)] at h
    rcases h with ⟨h0, -⟩ | ⟨-, L', F', a1, a2, a3, c1, c2, c3, hp', rfl, h1, h2, h3⟩
    · exact absurd h0 hne
    · obtain ⟨rfl, e2⟩ := hp'.same hp
      rw [e2] at h1 ⊢
      exact ⟨a1, a2, a3, c1, c2, c3, rfl, h1, h2, h3, hb⟩
theorem surf32_no {M : Nat → Int} (n : Nat) (ao : Option Addr) (cap : Nat) (T : List Tr) (ko : Option Addr) (kc : Nat) (K : List Int) (k : Int) (w : World) (hT : TrisAt w ao T) (hs : Surf n T) (hK : IntsAt w ko K) (hkl : K.length = 3 * T.length) (hl : T.length ≤ 1000) (hn : n ≤ 10000)
    (hM : IsShells (KAdj T K) T.length M) (hne : sel (mL M T.length) k T.length = []) :
    Calls Tryz.prog 21 #[.agg #[.int .i64 (n : Int), .slice ao T.length cap], .slice ko K.length kc, .int .i64 k] w fun e w' => e = .returned (.tuple #[.agg #[.int .i64 0, .slice none 0 0], .slice none 0 0, .slice none 0 0, .bool false]) ∧ Below w.heap.size w w' :=
  (surf32 n ao cap T ko kc K k w hT hs hK hkl hl hn).mono fun e w' h => by
    obtain ⟨⟨M', hM', h⟩, hb⟩ := h
    rw [mL_congr (kshell_one hM' hM)] at h
    rcases h with ⟨-, h0⟩ | ⟨h0, -⟩
    · exact ⟨h0, hb⟩
    · exact absurd hne h0
theorem IsShells.hit {A : Nat → Nat → Prop} {n : Nat} {M : Nat → Int} (h : IsShells A n M) {k : Nat} (hk : (k : Int) < cnt M n) : ∃ t, t < n ∧ M t = (k : Int) := by
  obtain ⟨i, hi, e⟩ := cnt_has M n (by omega)
  by_cases e' : M i = k
  · exact ⟨i, hi, e'⟩
  · obtain ⟨j, hj, ej⟩ := h.rg i hi k (by omega) (by omega)
    exact ⟨j, by omega, ej⟩
theorem sel_hit {A : Nat → Nat → Prop} {n : Nat} {M : Nat → Int} (h : IsShells A n M) {k : Nat} (hk : (k : Int) < cnt M n) : sel (mL M n) (k : Int) n ≠ [] := fun e => by
  obtain ⟨t, ht, hm⟩ := h.hit hk
  have : t ∈ sel (mL M n) (k : Int) n := selP_mem.2 ⟨ht, by rw [mL_get ht]; exact hm⟩
  rw [e] at this
  cases this
theorem sel_len (bays : List Int) (bay : Int) (n : Nat) : (sel bays bay n).length ≤ n := by unfold sel; exact Nat.le_trans (List.length_filter_le _ _) (by simp)
theorem disc_at {n : Nat} {T : List Tr} {K : List Int} {M : Nat → Int} {D : List Bool} (hs : Surf n T) (hl : T.length ≤ 1000) (hn : n ≤ 10000) (hkl : K.length = 3 * T.length) (hM : IsShells (KAdj T K) T.length M)
    (hD : (D.length : Int) = cnt M T.length) (hA : ∀ k, k < D.length → DiscAt T K M k (D.getD k false)) (k : Nat) (hk : k < D.length) :
    ∃ (nF : Nat) (CT : List Tr) (nR : Nat), Surf nF CT ∧ CT.length ≤ T.length ∧ D.getD k false = discB nF CT ∧ (nR = 1 → D.getD k false = true) ∧ nF ≤ 3 * T.length ∧ nR ≤ T.length ∧
      ∀ (ao : Option Addr) (cap : Nat) (ko : Option Addr) (kc : Nat) (X : World), TrisAt X ao T → IntsAt X ko K →
        Calls Tryz.prog 21 #[.agg #[.int .i64 (n : Int), .slice ao T.length cap], .slice ko K.length kc, .int .i64 (k : Int)] X fun e w' => ∃ a1 a2 a3 c1 c2 c3,
          e = .returned (.tuple #[.agg #[.int .i64 (nF : Int), .slice a1 CT.length c1], .slice a2 nF c2, .slice a3 nR c3, .bool true]) ∧ TrisAt w' a1 CT ∧ Below X.heap.size X w' := by
  obtain ⟨L, hL⟩ := least_exists (A := KSAdj T K) (3 * T.length) ksadj_in
  have hp := rowK_piece hs hM hL (k : Int)
  have hne := sel_hit hM (k := k) (by rw [← hD]; omega)
  refine ⟨_, _, (sel (mL M T.length) (k : Int) T.length).length, hp.surf hs hl, ?_, hA k hk L _ hp, fun h1 => lone_at hs hl hM (hA k hk) h1, hp.len, sel_len _ _ _, fun ao cap ko kc X hT hK => ?_⟩
  · unfold cutT
    simpa using sel_len _ _ _
  · exact (surf32_yes n ao cap T ko kc K k X hT hs hK hkl hl hn hM hp hne).mono fun e w' ⟨a1, a2, a3, c1, c2, c3, h, h1, _, _, hb⟩ => ⟨a1, a2, a3, c1, c2, c3, h, h1, hb⟩
section
variable {n : Nat} {T : List Tr} {K : List Int} {M L : Nat → Int} {F : List Nat} {k : Int}
/-- The values at the corners of some triangles. -/
def ownK (K : List Int) (S : List Nat) : List Int := S.flatMap fun t => [I! K (3 * t), I! K (3 * t + 1), I! K (3 * t + 2)]
theorem ownK_snoc (K : List Int) (S : List Nat) (t : Nat) : ownK K (S ++ [t]) = ownK K S ++ [I! K (3 * t), I! K (3 * t + 1), I! K (3 * t + 2)] := by simp [ownK]
theorem ownK_length (K : List Int) (S : List Nat) : (ownK K S).length = 3 * S.length := by
  induction S with
  | nil => rfl
  | cons t S ih => simp [ownK] at *; omega
theorem ownK_at (K : List Int) (S : List Nat) {i t j : Nat} (h : S[i]? = some t) (hj : j < 3) : I! (ownK K S) (3 * i + j) = I! K (3 * t + j) := by
  induction S generalizing i with
  | nil => simp at h
  | cons s S ih =>
    have e : ownK K (s :: S) = [I! K (3 * s), I! K (3 * s + 1), I! K (3 * s + 2)] ++ ownK K S := by simp [ownK]
    cases i with
    | zero =>
      simp at h
      subst h
      rw [e]
      unfold I!
      have : j = 0 ∨ j = 1 ∨ j = 2 := by omega
      rcases this with rfl | rfl | rfl <;> simp
    | succ i =>
      have h' : S[i]? = some t := by simpa using h
      have := ih h'
      rw [← this, e]
      unfold I!
      rw [show 3 * (i + 1) + j = 3 * i + j + 3 by omega]
      simp
theorem own_kadj (hs : Surf n T) (hl : T.length ≤ 1000) (hM : IsShells (KAdj T K) T.length M) (hp : Piece (KSAdj T K) T (mL M T.length) k L F) {a b : Nat} (h : KAdj T K a b) {i i' : Nat} (hi : (sel (mL M T.length) k T.length)[i]? = some a) (hi' : (sel (mL M T.length) k T.length)[i']? = some b) :
    KAdj (cutT (mL M T.length) k L F T.length) (ownK K (sel (mL M T.length) k T.length)) i i' := by
  obtain ⟨c, o, hc, ho, hop, rfl, rfl⟩ := h
  have e := cut_opp hs hl hM hp hc hop hi hi'
  have l1 := cut_in (L := L) (F := F) hi
  have l2 := cut_in (L := L) (F := F) hi'
  have at' : ∀ (i t c : Nat), (sel (mL M T.length) k T.length)[i]? = some t → c / 3 = t → I! (ownK K (sel (mL M T.length) k T.length)) (nxn (3 * i + c % 3)) = I! K (nxn c) ∧ I! (ownK K (sel (mL M T.length) k T.length)) (pvn (3 * i + c % 3)) = I! K (pvn c) := fun i t c h hct => by
    subst hct
    rw [nxn3, pvn3, nxn3 c, pvn3 c, show (3 * i + c % 3) / 3 = i by omega, show (3 * i + c % 3) % 3 = c % 3 by omega, ownK_at K _ h (Nat.mod_lt _ (by omega)), ownK_at K _ h (Nat.mod_lt _ (by omega))]
    exact ⟨rfl, rfl⟩
  obtain ⟨a1, a2⟩ := at' _ _ c hi rfl
  obtain ⟨b1, b2⟩ := at' _ _ o hi' rfl
  exact ⟨3 * i + c % 3, 3 * i' + o % 3, by omega, by omega, ⟨e, by rw [a1, b2]; exact hop.2.1, by rw [a2, b1]; exact hop.2.2⟩, by omega, by omega⟩
/-- By its own values a chart is one chart. -/
theorem own_one (hs : Surf n T) (hl : T.length ≤ 1000) (hM : IsShells (KAdj T K) T.length M) (hp : Piece (KSAdj T K) T (mL M T.length) k L F) (hne : sel (mL M T.length) k T.length ≠ []) {R : Nat → Int}
    (hR : IsShells (KAdj (cutT (mL M T.length) k L F T.length) (ownK K (sel (mL M T.length) k T.length))) (cutT (mL M T.length) k L F T.length).length R) : cnt R (cutT (mL M T.length) k L F T.length).length = 1 :=
  (chart_gen hs hM hne (fun _ _ _ _ h hi hi' => own_kadj hs hl hM hp h hi hi') hR).2
/-- A chart's triangle, renamed by the chart's old vertices. -/
theorem tri_old (hs : Surf n T) (hp : Piece (KSAdj T K) T (mL M T.length) k L F) {i t : Nat} (h : (sel (mL M T.length) k T.length)[i]? = some t) :
    ∃ a b c : Nat, T! (cutT (mL M T.length) k L F T.length) i = ((a : Int), (b : Int), (c : Int)) ∧ a < F.length ∧ b < F.length ∧ c < F.length ∧ T! T t = (I! (cutV T F) a, I! (cutV T F) b, I! (cutV T F) c) := by
  have hm := selP_mem.1 (List.mem_of_getElem? h)
  have old : ∀ j, j < 3 → ∃ a : Nat, ixF F (L (3 * t + j)) = a ∧ a < F.length ∧ I! (cutV T F) a = tg (T! T t) j := fun j hj => by
    obtain ⟨a, h1, h2, h3⟩ := hp.old hs (c := 3 * t + j) (by omega) (by rw [show (3 * t + j) / 3 = t by omega]; exact hm.2)
    exact ⟨a, h1, h2, by rw [h3, vt3P T t hj]⟩
  obtain ⟨a, a1, a2, a3⟩ := old 0 (by omega)
  obtain ⟨b, b1, b2, b3⟩ := old 1 (by omega)
  obtain ⟨c, c1, c2, c3⟩ := old 2 (by omega)
  refine ⟨a, b, c, ?_, a2, b2, c2, ?_⟩
  · have hc := cutP_get (L := L) (F := F) T h
    have g0 := tg_cutTriP (L := L) (F := F) t (j := 0) (by omega)
    have g1 := tg_cutTriP (L := L) (F := F) t (j := 1) (by omega)
    have g2 := tg_cutTriP (L := L) (F := F) t (j := 2) (by omega)
    have eta : ∀ u : Tr, u = (tg u 0, tg u 1, tg u 2) := fun _ => rfl
    rw [hc, eta (cutTri L F t), g0, g1, g2, a1, b1, c1]
  · have eta : ∀ u : Tr, u = (tg u 0, tg u 1, tg u 2) := fun _ => rfl
    rw [eta (T! T t), a3, b3, c3]
/-- How many triangles are of the first charts. -/
def seenN (M : Nat → Int) (n : Nat) (k : Nat) : Nat := ((List.range n).filter fun t => decide (M t < (k : Int))).length
theorem seenN_zero {M : Nat → Int} {n : Nat} (h : ∀ t, t < n → 0 ≤ M t) : seenN M n 0 = 0 := by
  unfold seenN
  rw [List.length_eq_zero_iff, List.filter_eq_nil_iff]
  intro t ht
  have := h t (List.mem_range.1 ht)
  simp; omega
theorem seenN_succ (M : Nat → Int) (n : Nat) (k : Nat) : seenN M n (k + 1) = seenN M n k + (sel (mL M n) (k : Int) n).length := by
  have e : (sel (mL M n) (k : Int) n) = (List.range n).filter fun t => decide (M t = (k : Int)) := by
    unfold sel
    refine List.filter_congr fun t ht => ?_
    rw [mL_get (List.mem_range.1 ht)]
  rw [e]
  unfold seenN
  generalize List.range n = l
  induction l with
  | nil => rfl
  | cons t l ih =>
    simp only [List.filter_cons]
    by_cases h1 : M t < (k : Int)
    · rw [if_pos (by simp; omega), if_pos (by simpa using h1), if_neg (by simp; omega)]
      simp only [List.length_cons]
      omega
    · by_cases h2 : M t = (k : Int)
      · rw [if_pos (by simp; omega), if_neg (by simpa using h1), if_pos (by simpa using h2)]
        simp only [List.length_cons]
        omega
      · rw [if_neg (by simp; omega), if_neg (by simpa using h1), if_neg (by simpa using h2)]
        omega
theorem seenN_all {M : Nat → Int} {n : Nat} {k : Nat} (h : cnt M n = k) : seenN M n k = n := by
  unfold seenN
  rw [List.filter_eq_self.2, List.length_range]
  intro t ht
  have := cnt_lt M n t (List.mem_range.1 ht)
  simp; omega
theorem seenN_le (M : Nat → Int) (n k : Nat) : seenN M n k ≤ n := by
  unfold seenN
  exact Nat.le_trans (List.length_filter_le _ _) (by simp)
end
structure ChartF (T : List Tr) (K : List Int) (M : Nat → Int) (n k nF : Nat) (CT : List Tr) (V : List Int) (S : List Nat) : Prop where
  surf : Surf nF CT
  lenC : CT.length = S.length
  lenV : V.length = nF
  le : S.length ≤ T.length
  one : ∀ R, IsShells (Adj CT) CT.length R → cnt R CT.length = 1
  own : ∀ R, IsShells (KAdj CT (ownK K S)) CT.length R → cnt R CT.length = 1
  tri : ∀ i t, S[i]? = some t → t < T.length ∧ M t = (k : Int) ∧ ∃ a b c : Nat, T! CT i = ((a : Int), (b : Int), (c : Int)) ∧ a < nF ∧ b < nF ∧ c < nF ∧ T! T t = (I! V a, I! V b, I! V c)
  seen : seenN M T.length (k + 1) = seenN M T.length k + S.length
  call : ∀ (ao : Option Addr) (cap : Nat) (ko : Option Addr) (kc : Nat) (X : World), TrisAt X ao T → IntsAt X ko K →
    Calls Tryz.prog 20 #[.agg #[.int .i64 (n : Int), .slice ao T.length cap], .slice ko K.length kc, .int .i64 (k : Int)] X fun e w' => ∃ a1 a2 a3 c1 c2 c3,
      e = .returned (.tuple #[.agg #[.int .i64 (nF : Int), .slice a1 S.length c1], .slice a2 nF c2, .slice a3 S.length c3, .int .i64 0]) ∧ TrisAt w' a1 CT ∧ IntsAt w' a2 V ∧ IntsAt w' a3 (nl S) ∧ Below X.heap.size X w'
theorem chart_facts {n : Nat} {T : List Tr} {K : List Int} {M : Nat → Int} (hs : Surf n T) (hl : T.length ≤ 1000) (hkl : K.length = 3 * T.length) (hM : IsShells (KAdj T K) T.length M) (k : Nat) (hk : (k : Int) < cnt M T.length) :
    ∃ nF CT V S, ChartF T K M n k nF CT V S := by
  obtain ⟨L, hL⟩ := least_exists (A := KSAdj T K) (3 * T.length) ksadj_in
  have hp := rowK_piece hs hM hL (k : Int)
  have hne := sel_hit hM hk
  have hlc : (cutT (mL M T.length) (k : Int) L (rowK T (mL M T.length) (k : Int) L n) T.length).length = (sel (mL M T.length) (k : Int) T.length).length := by unfold cutT; simp
  refine ⟨_, _, _, _, hp.surf hs hl, hlc, (show (cutV T (rowK T (mL M T.length) (k : Int) L n)).length = (rowK T (mL M T.length) (k : Int) L n).length by unfold cutV; simp), sel_len _ _ _, fun R hR => (chart_one hs hl hM hp hne hR).2, fun R hR => own_one hs hl hM hp hne hR, fun i t h => ?_, seenN_succ _ _ _, fun ao cap ko kc X hT hK => ?_⟩
  · have hm := selP_mem.1 (List.mem_of_getElem? h)
    refine ⟨hm.1, by rw [← hm.2, mL_get hm.1], ?_⟩
    obtain ⟨a, b, c, h1, h2, h3, h4, h5⟩ := tri_old hs hp h
    exact ⟨a, b, c, h1, h2, h3, h4, h5⟩
  · refine (csurf_yes n ao cap T ko kc K k X hT hs hK hkl hM hp hne).mono fun e w' ⟨a1, a2, a3, c1, c2, c3, h, h1, h2, h3, hb⟩ => ⟨a1, a2, a3, c1, c2, c3, ?_, h1, h2, h3, hb⟩
    rw [h, hlc]
end Go.Proofs.YtfbpjlfimmjieaaGreat

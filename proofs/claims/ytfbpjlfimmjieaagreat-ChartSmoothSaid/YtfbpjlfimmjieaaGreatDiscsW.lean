/- chart.Discs: contract. -/
import Derived.Test.YtfbpjlfimmjieaaGreatChartSort
import Derived.Test.YtfbpjlfimmjieaaGreatChartPick
import Derived.Test.YtfbpjlfimmjieaaGreatAfter15
namespace Go.Proofs.YtfbpjlfimmjieaaGreat
set_option linter.unusedVariables false
set_option linter.unusedSimpArgs false
open Go.RowKit
def bc (D : List Bool) : List Value := D.map Value.bool
theorem bc_snoc (D : List Bool) (x : Bool) : bc (D ++ [x]) = bc D ++ [.bool x] := by simp [bc]
/-- A list of bools lies at an address. -/
def BoolsAt (w : World) (ao : Option Addr) (D : List Bool) : Prop :=
  D ≠ [] → ∃ b off, ao = some ⟨b, off, none⟩ ∧ b < w.heap.size ∧ ∀ i, i < D.length → w.cell? ⟨b, off + i, none⟩ = some (.bool (D.getD i false))
theorem BoolsAt.mono {w w' : World} {ao : Option Addr} {xs : List Bool} {B : Nat} (h : BoolsAt w ao xs) (hB : w.heap.size ≤ B) (hb : Below B w w') : BoolsAt w' ao xs := by
  intro hx
  obtain ⟨b, off, rfl, hlt, hc⟩ := h hx
  exact ⟨b, off, rfl, by have := hb.size; omega, fun i hi => (hb.cell (p := ⟨b, _, none⟩) (show b < B by omega)).trans (hc i hi)⟩
theorem owns_bc {w : World} {base : Nat} {xs : List Bool} {a : Option Addr} {cap : Nat} (h : w.ownsRow base 4 1 (.slice a xs.length cap) xs.length (bc xs)) : BoolsAt w a xs := by
  intro hne
  obtain ⟨g, cap', hv, -, hlt, -, -, hc, -⟩ := owns_block h (List.length_pos_iff.2 hne)
  simp only [Value.slice.injEq] at hv
  refine ⟨g, 0, hv.1, hlt, fun i hi => ?_⟩
  rw [Nat.zero_add]
  refine hc i _ ?_
  simp [bc, List.getD_eq_getElem?_getD, hi]
section
variable {T : List Tr} {K : List Int} {bays : List Int} {bay : Int} {A : Nat → Nat → Prop}
/-- A piece is one, however its corners' least ones are told. -/
theorem Piece.same {L L' : Nat → Int} {F F' : List Nat} (h : Piece A T bays bay L F) (g : Piece A T bays bay L' F') : F = F' ∧ cutT bays bay L F T.length = cutT bays bay L' F' T.length := by
  have e := h.least.unique g.least h.inb
  have eF : F = F' := by
    have hr := reps_congr (bays := bays) (bay := bay) e
    exact (h.perm.trans (hr ▸ g.perm.symm)).eq_of_pairwise (le := fun a b => ¬ ltC T b a) (fun a b _ _ h1 h2 => by unfold ltC at h1 h2; omega) h.sorted g.sorted
  subst eF
  exact ⟨rfl, cutT_congr e⟩
end
/-- Is chart k a disc? -/
def DiscAt (T : List Tr) (K : List Int) (M : Nat → Int) (k : Nat) (b : Bool) : Prop := ∀ L F, Piece (KSAdj T K) T (mL M T.length) (k : Int) L F → b = discB F.length (cutT (mL M T.length) (k : Int) L F T.length)
/-- What chart.Discs tells. -/
def DiscsP (T : List Tr) (K : List Int) (w : World) (e : Ending) (w' : World) : Prop :=
  ∃ M D a c, IsShells (KAdj T K) T.length M ∧ (D.length : Int) = cnt M T.length ∧ e = .returned (.tuple #[.slice a D.length c, .int .i64 0]) ∧ BoolsAt w' a D ∧ (∀ k, k < D.length → DiscAt T K M k (D.getD k false)) ∧ Below w.heap.size w w'
theorem infoB4 : (Tryz.prog.info? 4).map (fun i => (i.zero, i.size, i.bytes)) = some (some (.bool false), 1, 1) := by kernel_rfl
theorem shells_next {A : Nat → Nat → Prop} {n : Nat} {M : Nat → Int} (h : IsShells A n M) {i : Nat} (hi : i < n) : M i ≤ cnt M i := by
  by_cases e : M i ≤ cnt M i
  · exact e
  · obtain ⟨j, hj, e'⟩ := h.rg i hi (cnt M i) (cnt_nonneg M i) (by omega)
    have := cnt_lt M i j hj
    omega
theorem kshell_one {T : List Tr} {K : List Int} {M M' : Nat → Int} (h : IsShells (KAdj T K) T.length M) (g : IsShells (KAdj T K) T.length M') : ∀ i, i < T.length → M i = M' i :=
  h.same g (fun i j hi hj a => g.clo i j hi hj a) (fun i j hi hj a => h.clo i j hi hj a) (fun i j _ a => (kadj_in _ _ a).2) (fun i j _ a => (kadj_in _ _ a).1) (fun i j _ a => (kadj_in _ _ a).2) (fun i j _ a => (kadj_in _ _ a).1)
set_option maxRecDepth 100000 in
set_option maxHeartbeats 4000000 in
theorem cdiscs_ok (n : Nat) (ao : Option Addr) (cap : Nat) (T : List Tr) (ko : Option Addr) (kc : Nat) (K : List Int) (w : World) (hT : TrisAt w ao T) (hs : Surf n T) (hK : IntsAt w ko K) (hkl : K.length = 3 * T.length) (hl : T.length ≤ 1000) :
    Calls Tryz.prog 23 #[.agg #[.int .i64 (n : Int), .slice ao T.length cap], .slice ko K.length kc] w (DiscsP T K w) := by
  obtain ⟨i0, hi0, hz0, hz1, hz2⟩ := info_parts infoB4
  obtain ⟨B, hB⟩ : ∃ B, B = w.heap.size := ⟨_, rfl⟩
  obtain ⟨W0, hW0⟩ : ∃ W0, W0 = w.alloc (.cells #[.int .i64 (n : Int), .slice ao T.length cap] 24) := ⟨_, rfl⟩
  have hb0 : Below B w W0 := by rw [hW0, hB]; exact (Below.refl _ _).alloc (Nat.le_refl _) _
  have hr0 : RowIs W0 B 24 [.int .i64 (n : Int), .slice ao T.length cap] := by rw [hW0, hB]; exact RowIs.made w 24 [.int .i64 (n : Int), .slice ao T.length cap]
  have hT0 := hT.mono (by rw [hB]; exact Nat.le_refl _) hb0
  have hK0 := hK.mono (by rw [hB]; exact Nat.le_refl _) hb0
  have HN := Lib.hid (new_ok n ao cap T W0 hT0 hs)
  have HSU := Lib.hid (show ∀ X (k : Int), Below W0.heap.size W0 X → Calls Tryz.prog 20 #[.agg #[.int .i64 (n : Int), .slice ao T.length cap], .slice ko K.length kc, .int .i64 k] X (SurfP T K k X) from fun X k hX => csurf_ok n ao cap T ko kc K k X (hT0.mono (Nat.le_refl _) hX) hs (hK0.mono (Nat.le_refl _) hX) hkl)
  have HOF := Lib.hid (show ∀ X p, Below W0.heap.size W0 X → Tab X p n T → Calls Tryz.prog 13 #[.pointer (some ⟨p, 0, none⟩), .slice ko K.length kc] X (OfP X T K) from fun X p hX h => cof_ok p n T ko kc K X h hs hkl (hK0.mono (Nat.le_refl _) hX))
  have HS := Lib.hid hs
  obtain ⟨len, hlen⟩ : ∃ l, l = T.length := ⟨_, rfl⟩
  obtain ⟨kl, hkle⟩ : ∃ l, l = K.length := ⟨_, rfl⟩
  have HL := Lib.hid hlen
  rw [← hkle] at HSU HOF ⊢
  rw [← hlen] at HN hW0 hr0 ⊢
  simp only [← hlen] at HSU
  have hl' : len ≤ 1000 := by omega
  have HW0 := Lib.hid hW0
  have HB0 := Lib.hid hb0
  have HR0 := Lib.hid hr0
  have HBB := Lib.hid hB
  have c0 := hr0.cell (i := 0) rfl
  have c1 := hr0.cell (i := 1) rfl
  clear hT hs hK hkl hl hB hW0 hb0 hr0 hT0 hK0 hlen hkle
  go_enter Tryz.func23, Tryz.ntmps23
  go_upto_region 1 with fail
  rw [← HW0.out, ← HBB.out]
  go_wp2_with fail
  refine HN.out.mono ?_
  rintro e w1 ⟨p, rfl, -, htab, hb1⟩
  obtain ⟨W1, hW1⟩ : ∃ W1, W1 = w1.alloc (.cells #[.int .i64 0, .int .i64 0, .int .i64 0] 75) := ⟨_, rfl⟩
  have hr2 : RowIs W1 w1.heap.size 75 [.int .i64 0, .int .i64 0, .int .i64 0] := by rw [hW1]; exact RowIs.made w1 75 [.int .i64 0, .int .i64 0, .int .i64 0]
  have hb2 : Below w1.heap.size w1 W1 := by rw [hW1]; exact (Below.refl _ _).alloc (Nat.le_refl _) _
  have HB1 := Lib.hid (below_more hb1 hb2 hb1.size)
  have HTAB := Lib.hid (htab.mono (Nat.le_refl _) hb2)
  have e0 := hr2.cell (i := 0) rfl
  have HW1 := Lib.hid hW1
  clear hr2 hb2 hW1 htab hb1 c0 c1
  go_upto_region 2 with fail
  rw [← HW1.out]
  have HO := Lib.hid (HOF.out W1 p HB1.out HTAB.out)
  go_wp2_with fail
  refine HO.out.mono ?_
  rintro e w3 ⟨gm, M, rfl, hgm, hrM, hM, hb3⟩
  obtain ⟨W3, rfl⟩ : ∃ W3 : World, W3 = w3 := ⟨_, rfl⟩
  have HRM := Lib.hid hrM
  have HM := Lib.hid hM
  have HB3 := Lib.hid (below_more HB1.out hb3 HB1.out.size)
  rw [← HL.out] at HRM HM
  clear hgm hrM hM hb3 e0 HO HTAB HN
  rw [← HL.out]
  obtain ⟨B3, hB3⟩ : ∃ b, b = W3.heap.size := ⟨_, rfl⟩
  have HE3 := Lib.hid hB3
  have hB3s : B3 ≤ W3.heap.size := by rw [hB3]; exact Nat.le_refl _
  clear hB3
  go_wp2
  go_loopw [10, 39] (fun v j ws => ∃ (i : Nat) (D : List Bool) (d : Nat) (a : Option Addr) (c : Nat), i ≤ len ∧ j = .int .i64 i ∧ v = .slice a d c ∧ d = D.length ∧ (d : Int) = cnt M i ∧ ws.ownsRow B3 4 1 (.slice a d c) d (bc D) ∧ (∀ k, k < D.length → DiscAt T K M k (D.getD k false)) ∧ Below B3 W3 ws) (fun _ j _ => len - (intOf j).toNat)
  case atStart => exact ⟨0, [], 0, none, 0, by omega, rfl, rfl, rfl, rfl, World.ownsRow_nil _ _ _ _, fun k h => by simp at h, Below.refl _ _⟩
  case round =>
  obtain ⟨i, D, d, a, c, hil, rfl, rfl, hd, hdc, hown, hD, hb⟩ := hrel
  obtain ⟨X, rfl⟩ : ∃ X : World, X = wr := ⟨_, rfl⟩
  have HD := Lib.hid hd
  have HDC := Lib.hid hdc
  have HOWN := Lib.hid hown
  have HDD := Lib.hid hD
  have HB := Lib.hid hb
  have hmx : B3 ≤ X.heap.size := by have := hb.size; omega
  have hdle : d ≤ len := by
    have h1 := HM.out.cnt_le
    have h2 : cnt M i ≤ cnt M len := by
      have gen : ∀ m, cnt M i ≤ cnt M (i + m) := by
        intro m
        induction m with
        | zero => exact Int.le_refl _
        | succ m ih => exact Int.le_trans ih (by show cnt M (i + m) ≤ max (cnt M (i + m)) (M (i + m) + 1); omega)
      have := gen (len - i)
      rwa [show i + (len - i) = len by omega] at this
    omega
  clear hd hdc hown hD
  by_cases hin : i < len
  case neg =>
    obtain rfl : i = len := by omega
    have HBF := Lib.hid (show Below w.heap.size w X from by
      rw [← HBB.out]
      exact HB0.out.trans ((below_more HB3.out (by rw [← HE3.out]; exact hb) HB3.out.size).mono (by have := HB0.out.size; have := HR0.out.lt; omega)))
    have HFIN := Lib.hid (show DiscsP T K w (.returned (.tuple #[.slice a d c, .int .i64 0])) X from
      ⟨M, D, a, c, by rw [← HL.out]; exact HM.out, by rw [← HL.out, ← HD.out]; exact HDC.out, by rw [HD.out], owns_bc (by have := HOWN.out; rw [HD.out] at this; exact this), HDD.out, HBF.out⟩)
    clear hb
    go_wp2
    exact bodyPost_ret (v := .tuple #[.slice a d c, .int .i64 0]) (by simp [results, Tryz.results23, go_sem]) rfl HFIN.out
  case pos =>
  have hm := (HRM.out.after (by rw [← HE3.out]; exact hb)).cell (iv_get M hin)
  have hq0 := HM.out.nonneg i hin
  have hqn := shells_next HM.out hin
  obtain ⟨q, hq⟩ : ∃ q : Nat, M i = (q : Int) := Int.eq_ofNat_of_zero_le hq0
  have HQ := Lib.hid hq
  rw [hq] at hm hqn
  have hqd : q ≤ d := by have := HDC.out; omega
  clear hq hq0 hqn
  by_cases hlt : q < d
  case pos =>
    have d1 : decide ((q : Int) < (d : Int)) = true := by simp; omega
    have HN := Lib.hid (show (d : Int) = cnt M (i + 1) from by
      show (d : Int) = max (cnt M i) (M i + 1)
      rw [← HDC.out, HQ.out]; omega)
    clear hb
    go_wp2
    go_roundw
    case rel => exact ⟨i + 1, D, d, a, c, by omega, by go_num, rfl, HD.out, HN.out, HOWN.out, HDD.out, HB.out⟩
    case measure => simp [intOf]; omega
  case neg =>
  obtain rfl : q = d := by omega
  have d1 : decide ((q : Int) < (q : Int)) = false := by simp
  have hb03 := below_more HB3.out (show Below W3.heap.size W3 X by rw [← HE3.out]; exact hb) HB3.out.size
  have hbox := HR0.out.after hb03
  have c0 := hbox.cell (i := 0) rfl
  have c1 := hbox.cell (i := 1) rfl
  have HSX := Lib.hid (HSU.out X (q : Int) hb03)
  clear hbox hb hb03
  go_wp2_with fail
  refine HSX.out.mono ?_
  rintro e w4 ⟨⟨M', hM', hcase⟩, hb4⟩
  have hMM : mL M' T.length = mL M T.length := mL_congr (kshell_one hM' (by rw [← HL.out]; exact HM.out))
  rw [hMM] at hcase
  have hsel : i ∈ sel (mL M T.length) (q : Int) T.length := selP_mem.2 ⟨by rw [← HL.out]; exact hin, by rw [mL_get (by rw [← HL.out]; exact hin)]; exact HQ.out⟩
  rcases hcase with ⟨he, -⟩ | ⟨hne, L, F, a1, a2, a3, c1', c2', c3', hpc, rfl, ht1, -, -, -, -, -⟩
  · rw [he] at hsel; cases hsel
  obtain ⟨U, hU⟩ : ∃ U, U = cutT (mL M T.length) (q : Int) L F T.length := ⟨_, rfl⟩
  obtain ⟨R, hR⟩ := shells_exist (Adj U) U.length
  have hSU : Surf F.length U := by rw [hU]; exact hpc.surf HS.out (by rw [← HL.out]; exact hl')
  have hone := chart_one (R := R) HS.out (by rw [← HL.out]; exact hl') (by rw [← HL.out]; exact HM.out) hpc hne (by rw [← hU]; exact hR)
  rw [← hU] at ht1 hone ⊢
  have HDA := Lib.hid (show DiscAt T K M q (discB F.length U) from fun L' F' hp' => by
    obtain ⟨e1, e2⟩ := hpc.same hp'
    rw [hU, e2, e1])
  have HG := Lib.hid (disc_one hSU hR hone.2 hone.1)
  obtain ⟨W4, rfl⟩ : ∃ W4 : World, W4 = w4 := ⟨_, rfl⟩
  have HOWN4 := Lib.hid (owns_below HOWN.out hb4)
  have HB4 := Lib.hid (below_more HB.out hb4 (by have := HB.out.size; omega))
  obtain ⟨W5, hW5⟩ : ∃ W5, W5 = W4.alloc (.cells #[.int .i64 (F.length : Int), .slice a1 U.length c1'] 24) := ⟨_, rfl⟩
  have hb5 : Below W4.heap.size W4 W5 := by rw [hW5]; exact (Below.refl _ _).alloc (Nat.le_refl _) _
  have hr5 : RowIs W5 W4.heap.size 24 [.int .i64 (F.length : Int), .slice a1 U.length c1'] := by rw [hW5]; exact RowIs.made W4 24 [.int .i64 (F.length : Int), .slice a1 U.length c1']
  have HNW := Lib.hid (new_first (F.length : Int) a1 c1' U W5 (ht1.mono (Nat.le_refl _) hb5) hSU)
  have HOWN5 := Lib.hid (owns_below HOWN4.out hb5)
  have HB5 := Lib.hid (below_more HB4.out hb5 (by have := HB4.out.size; omega))
  have HWH := Lib.hid (show ∀ X p, Tab X p F.length U → FirstAt X p U F.length → _ from fun X p h1 h2 => whole_ok p F.length 1 U R X h1 h2 hSU hR (by rw [hone.2]; rfl))
  obtain ⟨nF, hnF⟩ : ∃ x, x = F.length := ⟨_, rfl⟩
  obtain ⟨nU, hnU⟩ : ∃ x, x = U.length := ⟨_, rfl⟩
  rw [← hnF, ← hnU] at hW5 hr5
  rw [← hnF, ← hnU] at HNW
  rw [← hnF] at HWH HG HDA
  simp only [← hnF, ← hnU]
  have HW5 := Lib.hid hW5
  have d0 := hr5.cell (i := 0) rfl
  have d1' := hr5.cell (i := 1) rfl
  have HN := Lib.hid (show ((q + 1 : Nat) : Int) = cnt M (i + 1) from by
    show ((q + 1 : Nat) : Int) = max (cnt M i) (M i + 1)
    rw [← HDC.out, HQ.out]; omega)
  clear hMM hsel hne hpc ht1 hU hR hSU hone hb4 hb5 hr5 hW5 hM' hm c0 c1 HSX HOWN4 hnF hnU
  go_upto_region 13 with fail
  rw [← HW5.out]
  go_wp2_with fail
  refine HNW.out.mono ?_
  rintro e w6 ⟨p2, rfl, -, ⟨htab2, hfst2⟩, hb6⟩
  obtain ⟨W7, hW7⟩ : ∃ W7, W7 = w6.alloc (.cells #[.int .i64 0, .int .i64 0, .int .i64 0] 75) := ⟨_, rfl⟩
  have hb7 : Below w6.heap.size w6 W7 := by rw [hW7]; exact (Below.refl _ _).alloc (Nat.le_refl _) _
  have hb67 := below_more hb6 hb7 hb6.size
  have HOWN7 := Lib.hid (owns_below HOWN5.out hb67)
  have HB7 := Lib.hid (below_more HB5.out hb67 (by have := HB5.out.size; omega))
  have HWX := HWH.out W7 p2 (htab2.mono (Nat.le_refl _) hb7) ((hfst2 nF rfl).mono (Nat.le_refl _) hb7)
  obtain ⟨s0, hs0⟩ : ∃ x, x = sumF (genF U R nF) 1 0 := ⟨_, rfl⟩
  obtain ⟨s1, hs1⟩ : ∃ x, x = sumF (genF U R nF) 1 1 := ⟨_, rfl⟩
  obtain ⟨s2, hs2⟩ : ∃ x, x = sumF (genF U R nF) 1 2 := ⟨_, rfl⟩
  obtain ⟨s3, hs3⟩ : ∃ x, x = sumF (genF U R nF) 1 3 := ⟨_, rfl⟩
  obtain ⟨s4, hs4⟩ : ∃ x, x = sumF (genF U R nF) 1 4 := ⟨_, rfl⟩
  obtain ⟨s5, hs5⟩ : ∃ x, x = sumF (genF U R nF) 1 5 := ⟨_, rfl⟩
  rw [← hs0, ← hs1, ← hs2, ← hs3, ← hs4, ← hs5] at HWX
  have HWX := Lib.hid HWX
  have HGG := Lib.hid (show (decide (s5 = 0) && decide (s3 = 1)) = discB nF U from by rw [hs5, hs3]; exact HG.out)
  have HW7 := Lib.hid hW7
  clear hW7 hb7 hb67 htab2 hfst2 hb6 d0 d1' hs0 hs1 hs2 hs3 hs4 hs5 HNW HWH HG
  go_upto_region 14 with fail
  rw [← HW7.out]
  go_wp2_with fail
  refine HWX.out.mono ?_
  rintro e w8 ⟨rfl, hb8⟩
  obtain ⟨W9, hW9⟩ : ∃ W9, W9 = w8.alloc (.cells #[.int .i64 s0, .int .i64 s1, .int .i64 s2, .int .i64 s3, .int .i64 s4, .int .i64 s5] 88) := ⟨_, rfl⟩
  have hb9 : Below w8.heap.size w8 W9 := by rw [hW9]; exact (Below.refl _ _).alloc (Nat.le_refl _) _
  have hr9 : RowIs W9 w8.heap.size 88 [.int .i64 s0, .int .i64 s1, .int .i64 s2, .int .i64 s3, .int .i64 s4, .int .i64 s5] := by rw [hW9]; exact RowIs.made w8 88 [.int .i64 s0, .int .i64 s1, .int .i64 s2, .int .i64 s3, .int .i64 s4, .int .i64 s5]
  have hb89 := below_more hb8 hb9 hb8.size
  have HOWN9 := Lib.hid (owns_below HOWN7.out hb89)
  have HB9 := Lib.hid (below_more HB7.out hb89 (by have := HB7.out.size; omega))
  have x5 := hr9.cell (i := 5) rfl
  have x3 := hr9.cell (i := 3) rfl
  have hmx9 : B3 ≤ W9.heap.size := by have := HB9.out.size; omega
  have HW9 := Lib.hid hW9
  clear hb8 hW9 hb9 hr9 hb89 HWX
  go_upto_region 15 with fail
  rw [← HW9.out]
  obtain ⟨gb, hgb⟩ : ∃ g, g = discB nF U := ⟨_, rfl⟩
  have HGB := Lib.hid hgb
  rw [← hgb] at HGG HDA
  have HQ1 := Lib.hid (show q + 1 ≤ maxLen from by unfold maxLen; omega)
  have HQ2 := Lib.hid (show (q + 1) * 1 ≤ 140737488355328 from by omega)
  have HQ3 := Lib.hid (show B3 ≤ (W9.alloc (.cells #[.bool gb] 4)).heap.size from by simp; omega)
  have HX := Lib.hid (HOWN9.out.alloc (.cells #[.bool gb] 4))
  have HNX := Lib.hid (show ∀ k, k < (D ++ [gb]).length → DiscAt T K M k ((D ++ [gb]).getD k false) from fun k hk => by
    rw [List.length_append, List.length_singleton] at hk
    by_cases e : k < D.length
    · rw [List.getD_eq_getElem?_getD, List.getElem?_append_left e, ← List.getD_eq_getElem?_getD]
      exact HDD.out k e
    · obtain rfl : k = q := by have := HD.out; omega
      rw [List.getD_eq_getElem?_getD, List.getElem?_append_right (by omega), ← HD.out]
      simpa using HDA.out)
  clear hgb
  by_cases g5 : s5 = 0
  case neg =>
    have d5 : (s5 == 0) = false := by simpa using g5
    have hg : gb = false := by rw [← HGG.out]; simp [g5]
    subst hg
    clear g5
    go_wp2_with (at_builtin; refine wpList_append_lies _ rfl _ _ 42 rfl B3 4 i0 (.bool false) 1 1 (by kernel_rfl) hi0 hz0 hz1 hz2 rfl (by decide) (.slice a q c) q (bc D) rfl HX.out ⟨W9.heap.size, 0, none⟩ 1 1 [.bool false] rfl rfl (World.news_of_block (heap_alloc_new W9 _)) (by intro u hu; simp at hu; subst hu; rfl) (by decide) HQ1.out HQ2.out HQ3.out _ rfl ?_)
    intro g2 cap2 X2 hown2 hgr2 hat2 hlt2
    have HO2 := Lib.hid (show X2.ownsRow B3 4 1 (.slice (some ⟨g2, 0, none⟩) (q + 1) cap2) (q + 1) (bc (D ++ [false])) from by rw [bc_snoc]; exact hown2)
    have HB2 := Lib.hid (show Below B3 W3 X2 from (HB9.out.alloc (by omega) (.cells #[.bool false] 4)).grown hgr2 HQ3.out (fun q hq => (HOWN9.out.lt q hq).1))
    clear hown2 hgr2 hat2 hlt2 x5 x3
    go_wp2
    go_roundw
    case rel => exact ⟨i + 1, D ++ [false], q + 1, _, _, by omega, by go_num, rfl, by rw [List.length_append, ← HD.out]; rfl, HN.out, HO2.out, HNX.out, HB2.out⟩
    case measure => simp [intOf]; omega
  case pos =>
  have d5 : (s5 == 0) = true := by simpa using g5
  have hg : gb = (s3 == 1) := by
    rw [← HGG.out]
    cases h : s3 == 1
    · have : ¬ s3 = 1 := by simpa using h
      simp [g5, this]
    · have : s3 = 1 := by simpa using h
      simp [g5, this]
  have d3 : (s3 == 1) = gb := hg.symm
  clear g5 hg
  go_wp2_with (at_builtin; refine wpList_append_lies _ rfl _ _ 42 rfl B3 4 i0 (.bool false) 1 1 (by kernel_rfl) hi0 hz0 hz1 hz2 rfl (by decide) (.slice a q c) q (bc D) rfl HX.out ⟨W9.heap.size, 0, none⟩ 1 1 [.bool gb] rfl rfl (World.news_of_block (heap_alloc_new W9 _)) (by intro u hu; simp at hu; subst hu; rfl) (by decide) HQ1.out HQ2.out HQ3.out _ rfl ?_)
  intro g2 cap2 X2 hown2 hgr2 hat2 hlt2
  have HO2 := Lib.hid (show X2.ownsRow B3 4 1 (.slice (some ⟨g2, 0, none⟩) (q + 1) cap2) (q + 1) (bc (D ++ [gb])) from by rw [bc_snoc]; exact hown2)
  have HB2 := Lib.hid (show Below B3 W3 X2 from (HB9.out.alloc (by omega) (.cells #[.bool gb] 4)).grown hgr2 HQ3.out (fun q hq => (HOWN9.out.lt q hq).1))
  clear hown2 hgr2 hat2 hlt2 x5 x3
  go_wp2
  go_roundw
  case rel => exact ⟨i + 1, D ++ [gb], q + 1, _, _, by omega, by go_num, rfl, by rw [List.length_append, ← HD.out]; rfl, HN.out, HO2.out, HNX.out, HB2.out⟩
  case measure => simp [intOf]; omega
set_option maxRecDepth 100000 in
set_option maxHeartbeats 2000000 in
theorem cdiscs_none (n : Int) (ao : Option Addr) (cap : Nat) (T : List Tr) (ko : Option Addr) (kl kc : Nat) (w : World) (hT : TrisAt w ao T) (hl : T.length ≤ 8192) (hs : ¬ Surf n T) :
    Calls Tryz.prog 23 #[.agg #[.int .i64 n, .slice ao T.length cap], .slice ko kl kc] w fun e w' => e = .returned (.tuple #[.slice none 0 0, .int .i64 11]) ∧ Below w.heap.size w w' := by
  obtain ⟨B, hB⟩ : ∃ B, B = w.heap.size := ⟨_, rfl⟩
  obtain ⟨W0, hW0⟩ : ∃ W0, W0 = w.alloc (.cells #[.int .i64 n, .slice ao T.length cap] 24) := ⟨_, rfl⟩
  have hb0 : Below B w W0 := by rw [hW0, hB]; exact (Below.refl _ _).alloc (Nat.le_refl _) _
  have hr0 : RowIs W0 B 24 [.int .i64 n, .slice ao T.length cap] := by rw [hW0, hB]; exact RowIs.made w 24 [.int .i64 n, .slice ao T.length cap]
  have HN := Lib.hid (new_none n ao cap T W0 (hT.mono (by rw [hB]; exact Nat.le_refl _) hb0) hl hs)
  obtain ⟨len, hlen⟩ : ∃ l, l = T.length := ⟨_, rfl⟩
  rw [← hlen] at HN hW0 hr0 ⊢
  have c0 := hr0.cell (i := 0) rfl
  have c1 := hr0.cell (i := 1) rfl
  have HB0 := Lib.hid (show Below w.heap.size w W0 from by rw [← hB]; exact hb0)
  have HW0 := Lib.hid hW0
  have HBB := Lib.hid hB
  clear hb0 hr0 hT hs hlen hl hW0 hB
  go_enter Tryz.func23, Tryz.ntmps23
  go_upto_region 1 with fail
  rw [← HW0.out, ← HBB.out]
  go_wp2_with fail
  refine HN.out.mono ?_
  rintro e w1 ⟨q, x, y, rfl, hq1, hq2, hb1⟩
  obtain ⟨W1, hW1⟩ : ∃ W1, W1 = w1.alloc (.cells #[.int .i64 q, .int .i64 x, .int .i64 y] 75) := ⟨_, rfl⟩
  have hr2 : RowIs W1 w1.heap.size 75 [.int .i64 q, .int .i64 x, .int .i64 y] := by rw [hW1]; exact RowIs.made w1 75 [.int .i64 q, .int .i64 x, .int .i64 y]
  have hb2 : Below w1.heap.size w1 W1 := by rw [hW1]; exact (Below.refl _ _).alloc (Nat.le_refl _) _
  have e0 := hr2.cell (i := 0) rfl
  have HW1 := Lib.hid hW1
  have hne : (q != 0) = true := by simp; omega
  have HBF := Lib.hid (below_more HB0.out (below_more hb1 hb2 hb1.size) HB0.out.size)
  clear hr2 hb2 hW1 hq1 hq2 hb1 c0 c1
  go_upto_region 2 with fail
  rw [← HW1.out]
  go_wp2
  exact bodyPost_ret (v := .tuple #[.slice none 0 0, .int .i64 11]) (by simp [results, Tryz.results23, go_sem]) rfl ⟨rfl, HBF.out⟩
set_option maxRecDepth 100000 in
set_option maxHeartbeats 2000000 in
theorem cdiscs_bad (n : Nat) (ao : Option Addr) (cap : Nat) (T : List Tr) (ko : Option Addr) (kl kc : Nat) (w : World) (hT : TrisAt w ao T) (hs : Surf n T) (hkl : kl ≠ 3 * T.length) :
    Calls Tryz.prog 23 #[.agg #[.int .i64 (n : Int), .slice ao T.length cap], .slice ko kl kc] w fun e w' => e = .returned (.tuple #[.slice none 0 0, .int .i64 1]) ∧ Below w.heap.size w w' := by
  obtain ⟨B, hB⟩ : ∃ B, B = w.heap.size := ⟨_, rfl⟩
  obtain ⟨W0, hW0⟩ : ∃ W0, W0 = w.alloc (.cells #[.int .i64 (n : Int), .slice ao T.length cap] 24) := ⟨_, rfl⟩
  have hb0 : Below B w W0 := by rw [hW0, hB]; exact (Below.refl _ _).alloc (Nat.le_refl _) _
  have hr0 : RowIs W0 B 24 [.int .i64 (n : Int), .slice ao T.length cap] := by rw [hW0, hB]; exact RowIs.made w 24 [.int .i64 (n : Int), .slice ao T.length cap]
  have HN := Lib.hid (new_ok n ao cap T W0 (hT.mono (by rw [hB]; exact Nat.le_refl _) hb0) hs)
  have HOF := Lib.hid (show ∀ X p, Tab X p n T → _ from fun X p h => cof_bad ko kl kc p n T X h.s (by have := hs.t1; omega) hkl)
  obtain ⟨len, hlen⟩ : ∃ l, l = T.length := ⟨_, rfl⟩
  rw [← hlen] at HN hW0 hr0 ⊢
  have c0 := hr0.cell (i := 0) rfl
  have c1 := hr0.cell (i := 1) rfl
  have HB0 := Lib.hid (show Below w.heap.size w W0 from by rw [← hB]; exact hb0)
  have HW0 := Lib.hid hW0
  have HBB := Lib.hid hB
  clear hb0 hr0 hT hs hlen hkl hW0 hB
  go_enter Tryz.func23, Tryz.ntmps23
  go_upto_region 1 with fail
  rw [← HW0.out, ← HBB.out]
  go_wp2_with fail
  refine HN.out.mono ?_
  rintro e w1 ⟨p, rfl, -, htab, hb1⟩
  obtain ⟨W1, hW1⟩ : ∃ W1, W1 = w1.alloc (.cells #[.int .i64 0, .int .i64 0, .int .i64 0] 75) := ⟨_, rfl⟩
  have hr2 : RowIs W1 w1.heap.size 75 [.int .i64 0, .int .i64 0, .int .i64 0] := by rw [hW1]; exact RowIs.made w1 75 [.int .i64 0, .int .i64 0, .int .i64 0]
  have hb2 : Below w1.heap.size w1 W1 := by rw [hW1]; exact (Below.refl _ _).alloc (Nat.le_refl _) _
  have e0 := hr2.cell (i := 0) rfl
  have HO := Lib.hid (HOF.out W1 p (htab.mono (Nat.le_refl _) hb2))
  have HW1 := Lib.hid hW1
  have HB1 := Lib.hid (below_more HB0.out (below_more hb1 hb2 hb1.size) HB0.out.size)
  clear hr2 hb2 hW1 htab hb1 c0 c1
  go_upto_region 2 with fail
  rw [← HW1.out]
  go_wp2_with fail
  refine HO.out.mono ?_
  rintro e w3 ⟨rfl, hb3⟩
  have HBF := Lib.hid (below_more HB1.out hb3 HB1.out.size)
  clear hb3 e0
  go_wp2
  exact bodyPost_ret (v := .tuple #[.slice none 0 0, .int .i64 1]) (by simp [results, Tryz.results23, go_sem]) rfl ⟨rfl, HBF.out⟩
end Go.Proofs.YtfbpjlfimmjieaaGreat

/- certify.twice, mirrored, All, Check, Is: of any triangles: nothing is told just of a surface. -/
import Derived.Test.YtbeefabboabfgaaGreatCertPairs
import Derived.Test.YtbeefabboabfgaaGreatCertPinch
import Derived.Test.YtbeefabboabfgaaGreatWitSort
namespace Go.Proofs.YtbeefabboabfgaaGreat
set_option linter.unusedVariables false
set_option linter.unusedSimpArgs false
open Go.RowKit
theorem Surf.i64 {N : Int} {T : List Tr} (h : Surf N T) : ∀ i, i < T.length → ∀ j, I64 (tg (T! T i) j) := fun i hi j => I64.of_in (h.vin i hi j) (by have := h.n1; omega)
theorem tw_of_keys {T : List Tr} (h : KeysApart T keys3) : ∀ b a, b < T.length → a < b → twB (T! T a) (T! T b) = false := by
  intro b a hb hab
  cases e : twB (T! T a) (T! T b)
  · rfl
  · obtain ⟨p, hp, he⟩ := twB_iff.1 e
    obtain ⟨q, hq, h1, h2⟩ := edgeB_iff.1 he
    have k : ∀ {t : Tr} {r : Nat}, r < 3 → (keys3 t)[r]? = some (tg t r, tg t ((r + 1) % 3), 0) := fun {t r} hr => by
      match r, hr with
      | 0, _ => rfl
      | 1, _ => rfl
      | 2, _ => rfl
    have := h a b p q _ (by omega) hb (k hp) (by rw [k hq, h1, h2])
    omega
theorem sort3_perm {t u : Tr} (h : [t.1, t.2.1, t.2.2].Perm [u.1, u.2.1, u.2.2]) : sort3 t = sort3 u := by
  have e1 := sort3_eq t
  have e2 := sort3_eq u
  have ht : ∀ l : List Int, (l.mergeSort (fun x y => decide (x ≤ y))).Pairwise (fun x y => decide (x ≤ y) = true) := fun l =>
    List.pairwise_mergeSort (fun a b c h1 h2 => by simp at *; omega) (fun a b => by simp; omega) l
  have p : ([t.1, t.2.1, t.2.2].mergeSort (fun x y => decide (x ≤ y))).Perm ([u.1, u.2.1, u.2.2].mergeSort (fun x y => decide (x ≤ y))) :=
    ((List.mergeSort_perm _ _).trans h).trans (List.mergeSort_perm _ _).symm
  have e : [t.1, t.2.1, t.2.2].mergeSort (fun x y => decide (x ≤ y)) = [u.1, u.2.1, u.2.2].mergeSort (fun x y => decide (x ≤ y)) :=
    p.eq_of_pairwise (le := fun x y => decide (x ≤ y) = true) (fun a b _ _ h1 h2 => by simp at *; omega) (ht _) (ht _)
  rw [e1, e2] at e
  simp at e
  exact Prod.ext e.1 (Prod.ext e.2.1 e.2.2)
theorem mir_perm {t u : Tr} (ht : loopB t = false) (h : mirB t u = true) : [t.1, t.2.1, t.2.2].Perm [u.1, u.2.1, u.2.2] := by
  obtain ⟨a, b, c⟩ := t
  obtain ⟨x, y, z⟩ := u
  simp only [loopB, Bool.or_eq_false_iff, beq_eq_false_iff_ne] at ht
  simp only [mirB, hasB, Bool.and_eq_true, Bool.or_eq_true, beq_iff_eq] at h
  obtain ⟨⟨h1, h2⟩, h3⟩ := ht
  obtain ⟨⟨ha, hb⟩, hc⟩ := h
  simp only
  rcases ha with (rfl | rfl) | rfl <;> rcases hb with (rfl | rfl) | rfl <;> rcases hc with (rfl | rfl) | rfl <;> first | exact absurd rfl h1 | exact absurd rfl h2 | exact absurd rfl h3 | skip
  · exact .refl _
  · exact .cons _ (.swap _ _ _)
  · exact .swap _ _ _
  · exact (List.Perm.cons _ (.swap _ _ _)).trans (.swap _ _ _)
  · exact (List.Perm.swap _ _ _).trans (.cons _ (.swap _ _ _))
  · exact ((List.Perm.swap _ _ _).trans (.cons _ (.swap _ _ _))).trans (.swap _ _ _)
theorem mir_of_keys {T : List Tr} (hg : NoLoop T T.length) (h : KeysApart T keys4) : ∀ b a, b < T.length → a < b → mirB (T! T a) (T! T b) = false := by
  intro b a hb hab
  cases e : mirB (T! T a) (T! T b)
  · rfl
  · have hs := sort3_perm (mir_perm (hg a (by omega)) e)
    have := h a b 0 0 (sort3 (T! T a)) (by omega) hb rfl (by rw [hs]; rfl)
    omega
theorem surf_conds {N : Int} {T : List Tr} : Surf N T ↔ IndexOk N T ∧ NoLoop T T.length ∧ KeysApart T keys3 ∧ KeysApart T keys4 ∧ Used N T ∧ ∀ v, 0 ≤ v → v < N → Unpinched T v :=
  ⟨fun h => ⟨⟨h.n0, h.n1, h.t1, h.vin⟩, h.noloop, h.keys3, h.keys4, h.used, h.pin⟩, fun ⟨⟨a, b, c, d⟩, e, f, g, i, j⟩ => ⟨a, b, c, d, e, tw_of_keys f, mir_of_keys e g, i, j⟩⟩
set_option maxHeartbeats 400000 in
theorem ctwice_any (N : Int) (ao : Option Addr) (cap : Nat) (T : List Tr) (w : World) (hT : TrisAt w ao T) (hl : T.length ≤ 8192) (hI : ∀ i, i < T.length → ∀ j, I64 (tg (T! T i) j)) :
    Calls Tryz.prog 91 #[.agg #[.int .i64 N, .slice ao T.length cap]] w (WitPost w 3 (KeysApart T keys3)) := by
  have hb0 : Below w.heap.size w (w.alloc (.cells #[.int .i64 N, .slice ao T.length cap] 24)) := (Below.refl _ _).alloc (Nat.le_refl _) _
  have HC := Lib.hid (cpairs3 N ao cap T (w.alloc (.cells #[.int .i64 N, .slice ao T.length cap] 24)) (hT.mono (Nat.le_refl _) hb0) hl hI)
  have HB0 := Lib.hid hb0
  clear hb0 hT hI
  go_enter Tryz.func91, Tryz.ntmps91
  go_wp2_with fail
  refine HC.out.mono ?_
  rintro e w1 ⟨v, L, rfl, hw, hLl, hLP, hb1⟩
  have HW := Lib.hid (show WitRow w1 w.heap.size v 3 L from ⟨owns_base hw.1 (by simp), hw.2⟩)
  have HP := Lib.hid hLP
  have HB1 := Lib.hid (below_more HB0.out hb1 (by simp))
  obtain ⟨va, vc, hve⟩ := owns_slice hw.1
  subst hve
  clear hb1 hw hLP
  go_wp2
  go_ret
  exact ⟨_, L, rfl, HW.out, hLl, HP.out, HB1.out⟩
set_option maxHeartbeats 400000 in
theorem cmirrored_any (N : Int) (ao : Option Addr) (cap : Nat) (T : List Tr) (w : World) (hT : TrisAt w ao T) (hl : T.length ≤ 8192) (hI : ∀ i, i < T.length → ∀ j, I64 (tg (T! T i) j)) :
    Calls Tryz.prog 92 #[.agg #[.int .i64 N, .slice ao T.length cap]] w (WitPost w 4 (KeysApart T keys4)) := by
  have hb0 : Below w.heap.size w (w.alloc (.cells #[.int .i64 N, .slice ao T.length cap] 24)) := (Below.refl _ _).alloc (Nat.le_refl _) _
  have HC := Lib.hid (cpairs4 N ao cap T (w.alloc (.cells #[.int .i64 N, .slice ao T.length cap] 24)) (hT.mono (Nat.le_refl _) hb0) hl hI)
  have HB0 := Lib.hid hb0
  clear hb0 hT hI
  go_enter Tryz.func92, Tryz.ntmps92
  go_wp2_with fail
  refine HC.out.mono ?_
  rintro e w1 ⟨v, L, rfl, hw, hLl, hLP, hb1⟩
  have HW := Lib.hid (show WitRow w1 w.heap.size v 4 L from ⟨owns_base hw.1 (by simp), hw.2⟩)
  have HP := Lib.hid hLP
  have HB1 := Lib.hid (below_more HB0.out hb1 (by simp))
  obtain ⟨va, vc, hve⟩ := owns_slice hw.1
  subst hve
  clear hb1 hw hLP
  go_wp2
  go_ret
  exact ⟨_, L, rfl, HW.out, hLl, HP.out, HB1.out⟩
/-- What the first kinds don't tell of. -/
structure CertOk (N : Int) (T : List Tr) (k : Nat) : Prop where
  c0 : 0 < k → IndexOk N T
  c1 : 1 < k → NoLoop T T.length
  c2 : 2 < k → KeysApart T keys3
  c3 : 3 < k → KeysApart T keys4
  c4 : 4 < k → Used N T
  c5 : 5 < k → ∀ v, 0 ≤ v → v < N → Unpinched T v
theorem CertOk.surf {N : Int} {T : List Tr} (h : CertOk N T 6) : Surf N T := surf_conds.2 ⟨h.c0 (by omega), h.c1 (by omega), h.c2 (by omega), h.c3 (by omega), h.c4 (by omega), h.c5 (by omega)⟩
/-- What certify.All tells. -/
def AllPost (W : World) (N : Int) (T : List Tr) (e : Ending) (w' : World) : Prop := ∃ (ao : Option Addr) (cap : Nat) (L : List Ky), e = .returned (.slice ao L.length cap) ∧ TrisAt w' ao L ∧ L.length ≤ 1000000000 ∧ (L = [] ↔ Surf N T) ∧ (∀ x, x ∈ L → 1 ≤ x.1 ∧ x.1 ≤ 6) ∧ Below W.heap.size W w'
def kindCells : List Value := [.func (.func 89) #[] #[], .func (.func 90) #[] #[], .func (.func 91) #[] #[], .func (.func 92) #[] #[], .func (.func 93) #[] #[], .func (.func 94) #[] #[]]
set_option maxRecDepth 100000 in
set_option maxHeartbeats 4000000 in
theorem call_any (N : Int) (ao : Option Addr) (cap : Nat) (T : List Tr) (w : World) (hT : TrisAt w ao T) (hl : T.length ≤ 8192) :
    Calls Tryz.prog 66 #[.agg #[.int .i64 N, .slice ao T.length cap]] w (AllPost w N T) := by
  have hr := RowIs.made (w.alloc (.cells #[.int .i64 N, .slice ao T.length cap] 24)) 112 kindCells
  have e0 : (w.alloc (.cells #[.int .i64 N, .slice ao T.length cap] 24)).heap.size = w.heap.size + 1 := by simp
  rw [e0] at hr
  have HR := Lib.hid hr
  have HT := Lib.hid (hT.mono (Nat.le_refl _) ((Below.refl _ _).alloc (Nat.le_refl _) (.cells #[.int .i64 N, .slice ao T.length cap] 24)))
  have HTl := Lib.hid hl
  obtain ⟨len, hlen⟩ : ∃ n, n = T.length := ⟨_, rfl⟩
  rw [← hlen] at HR HT ⊢
  have HL := Lib.hid hlen
  clear hr e0 hT hlen hl
  go_enter Tryz.func66, Tryz.ntmps66
  go_wp2
  go_loopw [8] (fun i ws => ∃ (k : Nat), k ≤ 6 ∧ i = .int .i64 k ∧ CertOk N T k ∧ RowIs ws (w.heap.size + 1) 112 kindCells ∧ Below (w.heap.size + 1) (w.alloc (.cells #[.int .i64 N, .slice ao len cap] 24)) ws) (fun i _ => 6 - (intOf i).toNat)
  case atStart => exact ⟨0, by omega, rfl, ⟨fun h => by omega, fun h => by omega, fun h => by omega, fun h => by omega, fun h => by omega, fun h => by omega⟩, HR.out, (Below.refl _ _).alloc (by simp) _⟩
  case round =>
    clear HR
    obtain ⟨k, hk, rfl, hok, hrow, hb⟩ := hrel
    obtain ⟨hc0, hc1, hbw, hsz⟩ := box_soup hb
    have HB := Lib.hid hb
    have HBw := Lib.hid hbw
    have HOK := Lib.hid hok
    have HTr := Lib.hid (HT.out.mono (by simp) hb)
    by_cases hk6 : k < 6
    · have fin : ∀ (f : Nat) (K : Int) (P : Prop), 1 ≤ K → K ≤ 6 → (Surf N T → P) → (∀ w, TrisAt w ao T → Calls Tryz.prog f #[.agg #[.int .i64 N, .slice ao T.length cap]] w (WitPost w K P)) →
          Calls Tryz.prog f #[.agg #[.int .i64 N, .slice ao len cap]] wr fun e w' => ∃ (va : Option Addr) (n vc : Nat), e = .returned (.slice va n vc) ∧ n ≤ 1000000000 ∧
            Hid (Below (w.heap.size + 1) (w.alloc (.cells #[.int .i64 N, .slice ao len cap] 24)) w' ∧ RowIs w' (w.heap.size + 1) 112 kindCells ∧ (n = 0 → P) ∧
              (0 < n → ∃ gf, va = some ⟨gf, 0, none⟩ ∧ Calls Tryz.prog 95 #[.slice va n vc, .func (.func 96) #[] #[]] w' fun e w2 => e = .returned (.tuple #[]) ∧ Hid (AllPost w N T (.returned (.slice va n vc)) w2))) := by
        intro f K P hK1 hK6 hSP hf
        have h := hf wr HTr.out
        rw [← HL.out] at h
        refine Calls.mono h fun e w' ⟨v, L, he, hw, hLl, hLP, hb'⟩ => ?_
        obtain ⟨va, vc, hve⟩ := owns_slice hw.1
        subst hve
        have hB' := below_more HB.out hb' (by omega)
        refine ⟨va, L.length, vc, he, hLl, hB', hrow.below hb' hrow.lt, fun h0 => hLP.1 (List.length_eq_zero_iff.1 h0), fun h0 => ?_⟩
        obtain ⟨gf, capf, hve, hg1, hg2, -⟩ := owns_block hw.1 h0
        cases hve
        refine ⟨gf, rfl, Calls.mono (sort_wits w' wr.heap.size gf vc L hLl hw.1 (List.length_pos_iff.1 h0)) fun e w2 ⟨he, L', hperm, htr, hg, hbase⟩ => ⟨he, ?_⟩⟩
        have hbw' : Below w.heap.size w w' := below_more HBw.out hb' (by omega)
        refine ⟨_, vc, L', by rw [hperm.length_eq], htr, by rw [hperm.length_eq]; exact hLl, ⟨fun e => ?_, fun hs => ?_⟩, fun x hx => ?_, hbw'.grown hg hbw'.size (fun q hq => by cases hq; omega)⟩
        · rw [e] at hperm
          have := hperm.length_eq
          simp at this
          omega
        · have := hLP.2 (hSP hs)
          rw [this] at h0
          simp at h0
        · have := hw.2 x (hperm.mem_iff.1 hx)
          omega
      have F := Lib.hid fin
      have h0 := hrow.cell (i := 0) (v := .func (.func 89) #[] #[]) rfl
      have h1 := hrow.cell (i := 1) (v := .func (.func 90) #[] #[]) rfl
      have h2 := hrow.cell (i := 2) (v := .func (.func 91) #[] #[]) rfl
      have h3 := hrow.cell (i := 3) (v := .func (.func 92) #[] #[]) rfl
      have h4 := hrow.cell (i := 4) (v := .func (.func 93) #[] #[]) rfl
      have h5 := hrow.cell (i := 5) (v := .func (.func 94) #[] #[]) rfl
      clear hrow hb hbw fin hok
      rcases (show k = 0 ∨ k = 1 ∨ k = 2 ∨ k = 3 ∨ k = 4 ∨ k = 5 by omega) with rfl | rfl | rfl | rfl | rfl | rfl
      · go_wp2_with fail
        refine (F.out _ 1 _ (by omega) (by omega) (fun hs => (surf_conds.1 hs).1) fun w h => cindex_any N ao cap T w h HTl.out).mono ?_
        rintro e w2 ⟨va, n, vc, rfl, hn, hX⟩
        clear h0 h1 h2 h3 h4 h5 hc0 hc1
        by_cases h0 : n = 0
        · subst h0
          have HN := Lib.hid (show CertOk N T 1 from ⟨fun _ => hX.2.2.1 rfl, fun h => by omega, fun h => by omega, fun h => by omega, fun h => by omega, fun h => by omega⟩)
          have HX := Lib.hid hX
          clear hX
          go_wp2
          go_roundw
          case rel => exact ⟨1, by omega, by go_num, HN.out, HX.out.2.1, HX.out.1⟩
          case measure => simp [intOf]
        · obtain ⟨gf, rfl, hso⟩ := hX.out.2.2.2 (by omega)
          have HSO := Lib.hid hso
          have hn0 : 0 < n := by omega
          clear hX hso h0
          go_wp2_with fail
          refine HSO.out.mono ?_
          rintro e w3 ⟨rfl, hpost⟩
          have HP := Lib.hid hpost
          clear hpost HSO
          go_wp2
          exact bodyPost_ret (v := .slice (some ⟨gf, 0, none⟩) n vc) (by simp [results, Tryz.results66, go_sem]) rfl HP.out.out
      · go_wp2_with fail
        refine (F.out _ 2 _ (by omega) (by omega) (fun hs => (surf_conds.1 hs).2.1) fun w h => cloop_any N ao cap T w h HTl.out).mono ?_
        rintro e w2 ⟨va, n, vc, rfl, hn, hX⟩
        clear h0 h1 h2 h3 h4 h5 hc0 hc1
        by_cases h0 : n = 0
        · subst h0
          have HN := Lib.hid (show CertOk N T 2 from ⟨fun _ => HOK.out.c0 (by omega), fun _ => hX.2.2.1 rfl, fun h => by omega, fun h => by omega, fun h => by omega, fun h => by omega⟩)
          have HX := Lib.hid hX
          clear hX
          go_wp2
          go_roundw
          case rel => exact ⟨2, by omega, by go_num, HN.out, HX.out.2.1, HX.out.1⟩
          case measure => simp [intOf]
        · obtain ⟨gf, rfl, hso⟩ := hX.out.2.2.2 (by omega)
          have HSO := Lib.hid hso
          have hn0 : 0 < n := by omega
          clear hX hso h0
          go_wp2_with fail
          refine HSO.out.mono ?_
          rintro e w3 ⟨rfl, hpost⟩
          have HP := Lib.hid hpost
          clear hpost HSO
          go_wp2
          exact bodyPost_ret (v := .slice (some ⟨gf, 0, none⟩) n vc) (by simp [results, Tryz.results66, go_sem]) rfl HP.out.out
      · go_wp2_with fail
        refine (F.out _ 3 _ (by omega) (by omega) (fun hs => (surf_conds.1 hs).2.2.1) fun w h => ctwice_any N ao cap T w h HTl.out (fun i hi j => I64.of_in ((HOK.out.c0 (by omega)).2.2.2 i hi j) (by have := (HOK.out.c0 (by omega)).2.1; omega))).mono ?_
        rintro e w2 ⟨va, n, vc, rfl, hn, hX⟩
        clear h0 h1 h2 h3 h4 h5 hc0 hc1
        by_cases h0 : n = 0
        · subst h0
          have HN := Lib.hid (show CertOk N T 3 from ⟨fun _ => HOK.out.c0 (by omega), fun _ => HOK.out.c1 (by omega), fun _ => hX.2.2.1 rfl, fun h => by omega, fun h => by omega, fun h => by omega⟩)
          have HX := Lib.hid hX
          clear hX
          go_wp2
          go_roundw
          case rel => exact ⟨3, by omega, by go_num, HN.out, HX.out.2.1, HX.out.1⟩
          case measure => simp [intOf]
        · obtain ⟨gf, rfl, hso⟩ := hX.out.2.2.2 (by omega)
          have HSO := Lib.hid hso
          have hn0 : 0 < n := by omega
          clear hX hso h0
          go_wp2_with fail
          refine HSO.out.mono ?_
          rintro e w3 ⟨rfl, hpost⟩
          have HP := Lib.hid hpost
          clear hpost HSO
          go_wp2
          exact bodyPost_ret (v := .slice (some ⟨gf, 0, none⟩) n vc) (by simp [results, Tryz.results66, go_sem]) rfl HP.out.out
      · go_wp2_with fail
        refine (F.out _ 4 _ (by omega) (by omega) (fun hs => (surf_conds.1 hs).2.2.2.1) fun w h => cmirrored_any N ao cap T w h HTl.out (fun i hi j => I64.of_in ((HOK.out.c0 (by omega)).2.2.2 i hi j) (by have := (HOK.out.c0 (by omega)).2.1; omega))).mono ?_
        rintro e w2 ⟨va, n, vc, rfl, hn, hX⟩
        clear h0 h1 h2 h3 h4 h5 hc0 hc1
        by_cases h0 : n = 0
        · subst h0
          have HN := Lib.hid (show CertOk N T 4 from ⟨fun _ => HOK.out.c0 (by omega), fun _ => HOK.out.c1 (by omega), fun _ => HOK.out.c2 (by omega), fun _ => hX.2.2.1 rfl, fun h => by omega, fun h => by omega⟩)
          have HX := Lib.hid hX
          clear hX
          go_wp2
          go_roundw
          case rel => exact ⟨4, by omega, by go_num, HN.out, HX.out.2.1, HX.out.1⟩
          case measure => simp [intOf]
        · obtain ⟨gf, rfl, hso⟩ := hX.out.2.2.2 (by omega)
          have HSO := Lib.hid hso
          have hn0 : 0 < n := by omega
          clear hX hso h0
          go_wp2_with fail
          refine HSO.out.mono ?_
          rintro e w3 ⟨rfl, hpost⟩
          have HP := Lib.hid hpost
          clear hpost HSO
          go_wp2
          exact bodyPost_ret (v := .slice (some ⟨gf, 0, none⟩) n vc) (by simp [results, Tryz.results66, go_sem]) rfl HP.out.out
      · go_wp2_with fail
        refine (F.out _ 5 _ (by omega) (by omega) (fun hs => (surf_conds.1 hs).2.2.2.2.1) fun w h => clonely_any N ao cap T w h HTl.out (HOK.out.c0 (by omega)).1 (HOK.out.c0 (by omega)).2.1 (HOK.out.c0 (by omega)).2.2.2).mono ?_
        rintro e w2 ⟨va, n, vc, rfl, hn, hX⟩
        clear h0 h1 h2 h3 h4 h5 hc0 hc1
        by_cases h0 : n = 0
        · subst h0
          have HN := Lib.hid (show CertOk N T 5 from ⟨fun _ => HOK.out.c0 (by omega), fun _ => HOK.out.c1 (by omega), fun _ => HOK.out.c2 (by omega), fun _ => HOK.out.c3 (by omega), fun _ => hX.2.2.1 rfl, fun h => by omega⟩)
          have HX := Lib.hid hX
          clear hX
          go_wp2
          go_roundw
          case rel => exact ⟨5, by omega, by go_num, HN.out, HX.out.2.1, HX.out.1⟩
          case measure => simp [intOf]
        · obtain ⟨gf, rfl, hso⟩ := hX.out.2.2.2 (by omega)
          have HSO := Lib.hid hso
          have hn0 : 0 < n := by omega
          clear hX hso h0
          go_wp2_with fail
          refine HSO.out.mono ?_
          rintro e w3 ⟨rfl, hpost⟩
          have HP := Lib.hid hpost
          clear hpost HSO
          go_wp2
          exact bodyPost_ret (v := .slice (some ⟨gf, 0, none⟩) n vc) (by simp [results, Tryz.results66, go_sem]) rfl HP.out.out
      · go_wp2_with fail
        refine (F.out _ 6 _ (by omega) (by omega) (fun hs => (surf_conds.1 hs).2.2.2.2.2) fun w h => cpinch_any N ao cap T w h HTl.out (HOK.out.c0 (by omega)).1 (HOK.out.c0 (by omega)).2.1 (HOK.out.c0 (by omega)).2.2.2 (HOK.out.c1 (by omega)) (HOK.out.c4 (by omega))).mono ?_
        rintro e w2 ⟨va, n, vc, rfl, hn, hX⟩
        clear h0 h1 h2 h3 h4 h5 hc0 hc1
        by_cases h0 : n = 0
        · subst h0
          have HN := Lib.hid (show CertOk N T 6 from ⟨fun _ => HOK.out.c0 (by omega), fun _ => HOK.out.c1 (by omega), fun _ => HOK.out.c2 (by omega), fun _ => HOK.out.c3 (by omega), fun _ => HOK.out.c4 (by omega), fun _ => hX.2.2.1 rfl⟩)
          have HX := Lib.hid hX
          clear hX
          go_wp2
          go_roundw
          case rel => exact ⟨6, by omega, by go_num, HN.out, HX.out.2.1, HX.out.1⟩
          case measure => simp [intOf]
        · obtain ⟨gf, rfl, hso⟩ := hX.out.2.2.2 (by omega)
          have HSO := Lib.hid hso
          have hn0 : 0 < n := by omega
          clear hX hso h0
          go_wp2_with fail
          refine HSO.out.mono ?_
          rintro e w3 ⟨rfl, hpost⟩
          have HP := Lib.hid hpost
          clear hpost HSO
          go_wp2
          exact bodyPost_ret (v := .slice (some ⟨gf, 0, none⟩) n vc) (by simp [results, Tryz.results66, go_sem]) rfl HP.out.out
    · obtain rfl : k = 6 := by omega
      have HF := Lib.hid (show AllPost w N T (.returned (.slice none 0 0)) wr from ⟨none, 0, [], rfl, fun h => absurd rfl h, by simp, by simp; exact hok.surf, by simp, hbw⟩)
      clear hb hbw hrow hok
      go_wp2
      go_ret
      exact HF.out
/-- What certify.Check tells. -/
def CheckPost (W : World) (N : Int) (T : List Tr) (e : Ending) (w' : World) : Prop := ∃ k a b : Int, e = .returned (.agg #[.int .i64 k, .int .i64 a, .int .i64 b]) ∧ ((Surf N T ∧ k = 0 ∧ a = 0 ∧ b = 0) ∨ (¬ Surf N T ∧ 1 ≤ k ∧ k ≤ 6)) ∧ Below W.heap.size W w'
set_option maxHeartbeats 1000000 in
theorem check_any (N : Int) (ao : Option Addr) (cap : Nat) (T : List Tr) (w : World) (hT : TrisAt w ao T) (hl : T.length ≤ 8192) :
    Calls Tryz.prog 39 #[.agg #[.int .i64 N, .slice ao T.length cap]] w (CheckPost w N T) := by
  have hb0 : Below w.heap.size w ((w.alloc (.cells #[.int .i64 N, .slice ao T.length cap] 24)).alloc (.cells #[.int .i64 0, .int .i64 0, .int .i64 0] 52)) := ((Below.refl _ _).alloc (Nat.le_refl _) _).alloc (by simp) _
  have HC := Lib.hid (call_any N ao cap T ((w.alloc (.cells #[.int .i64 N, .slice ao T.length cap] 24)).alloc (.cells #[.int .i64 0, .int .i64 0, .int .i64 0] 52)) (hT.mono (Nat.le_refl _) hb0) hl)
  have HB0 := Lib.hid hb0
  clear hb0 hT
  go_enter Tryz.func39, Tryz.ntmps39
  go_wp2_with fail
  refine HC.out.mono ?_
  rintro e w1 ⟨va, vc, L, rfl, htr, hLl, hLS, hLk, hb1⟩
  have HB1 := Lib.hid (below_more HB0.out hb1 (by simp; omega))
  have hr := RowIs.made (w.alloc (.cells #[.int .i64 N, .slice ao T.length cap] 24)) 52 [.int .i64 0, .int .i64 0, .int .i64 0]
  have e0 : (w.alloc (.cells #[.int .i64 N, .slice ao T.length cap] 24)).heap.size = w.heap.size + 1 := by simp
  rw [e0] at hr
  have hr1 := hr.below hb1 hr.lt
  have c0 := hr1.cell (i := 0) rfl
  have c1 := hr1.cell (i := 1) rfl
  have c2 := hr1.cell (i := 2) rfl
  have f0 := hr1.free 0
  have f1 := hr1.free 1
  have f2 := hr1.free 2
  by_cases h0 : L = []
  · subst h0
    have HS := Lib.hid (hLS.1 rfl)
    clear hb1 hr hr1 e0 htr hLl hLS hLk
    simp only [List.length_nil]
    go_wp2
    exact bodyPost_ret (v := .agg #[.int .i64 0, .int .i64 0, .int .i64 0]) (by simp [results, Tryz.results39, go_sem, c0, c1, c2]) rfl ⟨0, 0, 0, rfl, .inl ⟨HS.out, rfl, rfl, rfl⟩, ((HB1.out.setCell (p := ⟨w.heap.size + 1, 0, none⟩) (Nat.le_succ _) _).setCell (p := ⟨w.heap.size + 1, 1, none⟩) (Nat.le_succ _) _).setCell (p := ⟨w.heap.size + 1, 2, none⟩) (Nat.le_succ _) _⟩
  · have hpos := List.length_pos_iff.2 h0
    have HS := Lib.hid (show ¬ Surf N T from fun h => h0 (hLS.2 h))
    obtain ⟨b, off, x, y, z, rfl, ht, g0, g1, g2, hbs, -⟩ := htr.get (Nat.le_refl _) (Below.refl _ _) (i := 0) hpos
    have HK := Lib.hid (show 1 ≤ x ∧ x ≤ 6 from by
      have hm := hLk (T! L 0) (by
        unfold T!
        rw [List.getD_eq_getElem?_getD, List.getElem?_eq_getElem hpos]
        exact List.getElem_mem hpos)
      rw [ht.out] at hm
      exact hm)
    simp only [Nat.zero_mul, Nat.add_zero] at g0 g1 g2
    obtain ⟨n, hn⟩ : ∃ n, n = L.length := ⟨_, rfl⟩
    rw [← hn] at hpos hLl ⊢
    clear hb1 hr hr1 e0 htr hLS hLk h0 ht hbs hn
    go_wp2
    exact bodyPost_ret (v := .agg #[.int .i64 x, .int .i64 y, .int .i64 z]) (by simp [results, Tryz.results39, go_sem, c0, c1, c2]) rfl ⟨x, y, z, rfl, .inr ⟨HS.out, HK.out⟩, ((HB1.out.setCell (p := ⟨w.heap.size + 1, 0, none⟩) (Nat.le_succ _) _).setCell (p := ⟨w.heap.size + 1, 1, none⟩) (Nat.le_succ _) _).setCell (p := ⟨w.heap.size + 1, 2, none⟩) (Nat.le_succ _) _⟩
theorem check_ok (N : Int) (ao : Option Addr) (cap : Nat) (T : List Tr) (w : World) (hT : TrisAt w ao T) (hs : Surf N T) :
    Calls Tryz.prog 39 #[.agg #[.int .i64 N, .slice ao T.length cap]] w fun e w' => e = .returned (.agg #[.int .i64 0, .int .i64 0, .int .i64 0]) ∧ Below w.heap.size w w' := by
  refine Calls.mono (check_any N ao cap T w hT hs.t1) fun e w' ⟨k, a, b, he, h, hb⟩ => ⟨?_, hb⟩
  rcases h with ⟨-, rfl, rfl, rfl⟩ | ⟨h, -⟩
  · exact he
  · exact absurd hs h
end Go.Proofs.YtbeefabboabfgaaGreat

/- soup.Fits: of a surface it is true. soup.Join of two surfaces. -/
import Derived.Test.YtbeefabboabfgaaGreatOwnSort
import Derived.Test.YtbeefabboabfgaaGreatSurfDef
import Derived.Test.YtbeefabboabfgaaGreatSolid14
namespace Go.Proofs.YtbeefabboabfgaaGreat
set_option linter.unusedVariables false
set_option linter.unusedSimpArgs false
open Go.RowKit
set_option maxRecDepth 100000 in
set_option maxHeartbeats 1000000 in
theorem tfits_yes (x y z N : Int) (hin : ∀ j, j < 3 → 0 ≤ tg (x, y, z) j ∧ tg (x, y, z) j < N) (hl : loopB (x, y, z) = false) (w : World) :
    Calls Tryz.prog 72 #[.agg #[.int .i64 x, .int .i64 y, .int .i64 z], .int .i64 N] w fun e w' => e = .returned (.bool true) ∧ Below w.heap.size w w' := by
  have HI := Lib.hid hin
  have HB := Lib.hid (show Below w.heap.size w (w.alloc (.cells #[.int .i64 x, .int .i64 y, .int .i64 z] 62)) from (Below.refl _ _).alloc (Nat.le_refl _) _)
  unfold loopB at hl
  simp only [Bool.or_eq_false_iff] at hl
  obtain ⟨⟨l1, l2⟩, l3⟩ := hl
  have m1 : (x != y) = true := by simp [bne, l1]
  have m2 : (y != z) = true := by simp [bne, l2]
  have m3 : (z != x) = true := by simp [bne, l3]
  have HX := Lib.hid (RowIs.made w 62 [.int .i64 x, .int .i64 y, .int .i64 z])
  clear hin
  go_enter Tryz.func72, Tryz.ntmps72
  go_wp2
  obtain ⟨W0, hW0⟩ : ∃ W0, W0 = w.alloc (.cells #[.int .i64 x, .int .i64 y, .int .i64 z] 62) := ⟨_, rfl⟩
  rw [← hW0] at HB HX ⊢
  clear hW0
  go_loopw [8] (fun i ws => ∃ j : Nat, j ≤ 3 ∧ i = .int .i64 j ∧ ws = W0) (fun i _ => 3 - (intOf i).toNat)
  case atStart => exact ⟨0, by omega, rfl, rfl⟩
  case round =>
    obtain ⟨j, hj, rfl, rfl⟩ := hrel
    obtain ⟨W0, rfl⟩ : ∃ W0 : World, W0 = wr := ⟨_, rfl⟩
    by_cases hj3 : j < 3
    · have hix := index_tri x y z j hj3
      obtain ⟨h0, h1⟩ := HI.out j hj3
      obtain ⟨v, hv⟩ : ∃ v, v = tg (x, y, z) j := ⟨_, rfl⟩
      rw [← hv] at hix h0 h1
      have hd0 : decide (v < 0) = false := by simp; omega
      have hd1 : decide (v ≥ N) = false := by simp; omega
      clear hv h0 h1
      go_wp2
      go_roundw
      case rel => exact ⟨j + 1, by omega, by go_num, by trivial⟩
      case measure => simp [intOf]; omega
    · obtain rfl : j = 3 := by omega
      have x0 := HX.out.cell (i := 0) rfl
      have x1 := HX.out.cell (i := 1) rfl
      have x2 := HX.out.cell (i := 2) rfl
      go_wp2
      exact bodyPost_ret (v := .bool true) (by simp [results, Tryz.results72, go_sem]) rfl ⟨rfl, HB.out⟩
set_option maxRecDepth 100000 in
set_option maxHeartbeats 1000000 in
theorem fitsf_yes (x y z N : Int) (b : Nat) (hin : ∀ j, j < 3 → 0 ≤ tg (x, y, z) j ∧ tg (x, y, z) j < N) (hl : loopB (x, y, z) = false) (w : World) (hb : w.cell? ⟨b, 0, none⟩ = some (.int .i64 N)) (hbl : b < w.heap.size) :
    Calls Tryz.prog 71 #[.agg #[.int .i64 x, .int .i64 y, .int .i64 z], .pointer (some ⟨b, 0, none⟩)] w fun e w' => e = .returned (.bool false) ∧ Below w.heap.size w w' := by
  have hba : Below w.heap.size w (w.alloc (.cells #[.int .i64 x, .int .i64 y, .int .i64 z] 62)) := (Below.refl _ _).alloc (Nat.le_refl _) _
  have hb' := (hba.cell (p := ⟨b, 0, none⟩) hbl).trans hb
  have HB := Lib.hid hba
  have HF := Lib.hid (fun X => tfits_yes x y z N hin hl X)
  clear hin hl hb hba
  go_enter Tryz.func71, Tryz.ntmps71
  go_wp2_with fail
  refine (HF.out _).mono ?_
  rintro e w2 ⟨rfl, hb2⟩
  have HB2 := Lib.hid (below_more HB.out hb2 HB.out.size)
  clear hb2
  go_wp2
  exact bodyPost_ret (v := .bool false) (by simp [results, Tryz.results71, go_sem]) rfl ⟨rfl, HB2.out⟩
/-- The test that Fits hands on is false of each triangle of a surface. -/
def FitW (w : World) (b : Nat) (N : Int) : Prop := w.cell? ⟨b, 0, none⟩ = some (.int .i64 N) ∧ b < w.heap.size
theorem FitW.mono {w w' : World} {b : Nat} {N : Int} (h : FitW w b N) (hb : Below w.heap.size w w') : FitW w' b N := ⟨(hb.cell (p := ⟨b, 0, none⟩) h.2).trans h.1, by have := hb.size; have := h.2; omega⟩
set_option maxRecDepth 100000 in
set_option maxHeartbeats 1000000 in
theorem indexf_no (N : Int) (b : Nat) (ao : Option Addr) (cap : Nat) (T : List Tr) (w : World) (hs : Surf N T) (hT : TrisAt w ao T) (hf : FitW w b N) :
    Calls Tryz.prog 98 #[.slice ao T.length cap, .func (.func 71) #[] #[.pointer (some ⟨b, 0, none⟩)]] w fun e w' => e = .returned (.int .i64 (-1)) ∧ Below w.heap.size w w' := by
  have hl := hs.t1
  obtain ⟨n, hn⟩ : ∃ n, n = T.length := ⟨_, rfl⟩
  rw [← hn] at hl ⊢
  have HN := Lib.hid hn
  have HS := Lib.hid hs
  have HT := Lib.hid hT
  have HF := Lib.hid hf
  clear hn hs hT hf
  go_enter Tryz.func98, Tryz.ntmps98
  go_wp2
  go_loopw [8] (fun i ws => ∃ k : Nat, k ≤ n ∧ i = .int .i64 k ∧ Below w.heap.size w ws) (fun i _ => n - (intOf i).toNat)
  case atStart => exact ⟨0, by omega, rfl, Below.refl _ _⟩
  case round =>
    obtain ⟨k, hk, rfl, hb⟩ := hrel
    obtain ⟨W1, rfl⟩ : ∃ W1 : World, W1 = wr := ⟨_, rfl⟩
    have HB := Lib.hid hb
    by_cases hlt : k < n
    · obtain ⟨tb, off, x, y, z, rfl, ht, g0, g1, g2, -, -⟩ := HT.out.get (Nat.le_refl _) hb (i := k) (by have := HN.out; omega)
      have hin : ∀ j, j < 3 → 0 ≤ tg (x, y, z) j ∧ tg (x, y, z) j < N := fun j _ => by rw [← ht.out]; exact HS.out.vin k (by have := HN.out; omega) j
      have hlp : loopB (x, y, z) = false := by rw [← ht.out]; exact HS.out.noloop k (by have := HN.out; omega)
      have hfw := HF.out.mono hb
      have HC := Lib.hid (fitsf_yes x y z N b hin hlp W1 hfw.1 hfw.2)
      clear ht hin hlp hfw hb
      go_wp2_with fail
      refine HC.out.mono ?_
      rintro e w2 ⟨rfl, hb2⟩
      have HB2 := Lib.hid (below_more HB.out hb2 HB.out.size)
      clear hb2 g0 g1 g2
      go_wp2
      go_roundw
      case rel => exact ⟨k + 1, by omega, by go_num, HB2.out⟩
      case measure => simp [intOf]; omega
    · obtain rfl : k = n := by omega
      clear hb
      go_wp2
      exact bodyPost_ret (v := .int .i64 (-1)) (by simp [results, Tryz.results98, go_sem]) rfl ⟨rfl, HB.out⟩
set_option maxRecDepth 100000 in
set_option maxHeartbeats 1000000 in
theorem containsf_no (N : Int) (b : Nat) (ao : Option Addr) (cap : Nat) (T : List Tr) (w : World) (hs : Surf N T) (hT : TrisAt w ao T) (hf : FitW w b N) :
    Calls Tryz.prog 70 #[.slice ao T.length cap, .func (.func 71) #[] #[.pointer (some ⟨b, 0, none⟩)]] w fun e w' => e = .returned (.bool false) ∧ Below w.heap.size w w' := by
  have HC := Lib.hid (indexf_no N b ao cap T w hs hT hf)
  clear hs hT hf
  go_enter Tryz.func70, Tryz.ntmps70
  go_wp2_with fail
  refine HC.out.mono ?_
  rintro e w2 ⟨rfl, hb2⟩
  have HB2 := Lib.hid hb2
  clear hb2
  go_wp2
  exact bodyPost_ret (v := .bool false) (by simp [results, Tryz.results70, go_sem]) rfl ⟨rfl, HB2.out⟩
set_option maxRecDepth 100000 in
set_option maxHeartbeats 1000000 in
theorem soupfits_yes (N : Int) (ao : Option Addr) (cap : Nat) (T : List Tr) (w : World) (hs : Surf N T) (hT : TrisAt w ao T) :
    Calls Tryz.prog 42 #[.agg #[.int .i64 N, .slice ao T.length cap]] w fun e w' => e = .returned (.bool true) ∧ Below w.heap.size w w' := by
  have h0 := hs.n0
  have h1 := hs.n1
  have h2 := hs.t1
  have hmf : ∀ (fn : Fn) (first cap : Array Value) (w : World), (Instr.makeFunc fn first cap).run Tryz.prog w = .ok (.func fn first cap) w := fun _ _ _ _ => rfl
  have hba : Below w.heap.size w (w.alloc (.cells #[.int .i64 N, .slice ao T.length cap] 24)) := (Below.refl _ _).alloc (Nat.le_refl _) _
  have hx := RowIs.made w 24 [.int .i64 N, .slice ao T.length cap]
  have HC := Lib.hid (containsf_no N w.heap.size ao cap T _ hs (hT.mono (Nat.le_refl _) hba) ⟨hx.cell (i := 0) rfl, hx.lt⟩)
  have HB := Lib.hid hba
  obtain ⟨n, hn⟩ : ∃ n, n = T.length := ⟨_, rfl⟩
  rw [← hn] at HC HB h2 ⊢
  have hd0 : decide (N < 0) = false := by simp; omega
  have hd1 : decide (N > 4096) = false := by simp; omega
  have hd2 : decide ((n : Int) > 8192) = false := by simp; omega
  clear hs hT hba hx hn
  go_enter Tryz.func42, Tryz.ntmps42
  go_wp2_with fail
  refine HC.out.mono ?_
  rintro e w2 ⟨rfl, hb2⟩
  have HB2 := Lib.hid (below_more HB.out hb2 HB.out.size)
  clear hb2
  go_wp2
  exact bodyPost_ret (v := .bool true) (by simp [results, Tryz.results42, go_sem]) rfl ⟨rfl, HB2.out⟩
theorem row_own_ne {w : World} {p base n sz : Nat} {e e' : TypeId} {ys xs : List Value} {v : Value} (h : RowIs w p e ys) (k : w.ownsRow base e' sz v n xs) (hne : e ≠ e') : some p ≠ v.ownBlock := by
  obtain ⟨_, k2⟩ := k
  rcases k2 with ⟨k2, _⟩ | ⟨g2, cap', cur', rfl, _, kk, _⟩
  · subst k2; simp [Value.ownBlock]
  · intro e
    simp [Value.ownBlock] at e
    subst e
    unfold RowIs at h
    rw [h] at kk
    simp at kk
    exact hne kk.2
theorem row_two (w : World) (o : Obj) (e : TypeId) (xs : List Value) : RowIs ((w.alloc o).alloc (.cells xs.toArray e)) (w.heap.size + 1) e xs := by simpa using RowIs.made (w.alloc o) e xs
def accN (Nf : Nat → Int) : Nat → Int
  | 0 => 0
  | k + 1 => accN Nf k + Nf k
def accT (Nf : Nat → Int) (Tf : Nat → List Tr) : Nat → List Tr
  | 0 => []
  | k + 1 => accT Nf Tf k ++ (Tf k).map (sh (accN Nf k))
/-- In the middle of soup k. -/
def midT (Nf : Nat → Int) (Tf : Nat → List Tr) (k q : Nat) : List Tr := accT Nf Tf k ++ ((Tf k).take q).map (sh (accN Nf k))
theorem midT_zero (Nf : Nat → Int) (Tf : Nat → List Tr) (k : Nat) : midT Nf Tf k 0 = accT Nf Tf k := by simp [midT]
theorem midT_full (Nf : Nat → Int) (Tf : Nat → List Tr) (k : Nat) : midT Nf Tf k (Tf k).length = accT Nf Tf (k + 1) := by simp [midT, accT]
theorem midT_succ (Nf : Nat → Int) (Tf : Nat → List Tr) {k q : Nat} {t : Tr} (hq : q < (Tf k).length) (h : T! (Tf k) q = t) : midT Nf Tf k (q + 1) = midT Nf Tf k q ++ [sh (accN Nf k) t] := by
  have e : (Tf k)[q]? = some t := by rw [← h]; simp [T!, List.getD_eq_getElem?_getD, List.getElem?_eq_getElem hq]
  simp [midT, List.take_add_one, e]
theorem midT_length (Nf : Nat → Int) (Tf : Nat → List Tr) {k q : Nat} (hq : q ≤ (Tf k).length) : (midT Nf Tf k q).length = (accT Nf Tf k).length + q := by simp [midT]; omega
set_option maxRecDepth 100000 in
set_option maxHeartbeats 1500000 in
theorem sjoin_two (Nf : Nat → Int) (Tf : Nat → List Tr) (aof : Nat → Option Addr) (cf : Nat → Nat) (lb : Nat) (w : World) (hs : ∀ k, k < 2 → Surf (Nf k) (Tf k) ∧ Nf k ≤ 90 ∧ (Tf k).length ≤ 30 ∧ TrisAt w (aof k) (Tf k))
    (hc : ∀ k, k < 2 → w.cell? ⟨lb, k * 2, none⟩ = some (.int .i64 (Nf k)) ∧ w.cell? ⟨lb, k * 2 + 1, none⟩ = some (.slice (aof k) (Tf k).length (cf k))) (hl : lb < w.heap.size) :
    Calls Tryz.prog 25 #[.slice (some ⟨lb, 0, none⟩) 2 2] w fun e w' => ∃ ao cap, e = .returned (.tuple #[.agg #[.int .i64 (accN Nf 2), .slice ao (accT Nf Tf 2).length cap], .int .i64 0]) ∧ TrisAt w' ao (accT Nf Tf 2) ∧ Below w.heap.size w w' := by
  obtain ⟨i4, hi4, hx0, hx1, hx2⟩ := info_parts info49
  obtain ⟨B, hB⟩ : ∃ B, B = w.heap.size := ⟨_, rfl⟩
  obtain ⟨W0, hW0⟩ : ∃ W0, W0 = (w.alloc (.cells #[.int .i64 0, .slice none 0 0] 24)).alloc (.cells #[.int .i64 0, .slice none 0 0] 24) := ⟨_, rfl⟩
  have HB0 := Lib.hid (show Below B w W0 from by rw [hW0, hB]; exact ((Below.refl _ _).alloc (Nat.le_refl _) _).alloc (by simp) _)
  have HR0 := Lib.hid (show RowIs W0 B 24 [.int .i64 0, .slice none 0 0] from by rw [hW0, hB]; exact (RowIs.made w 24 [.int .i64 0, .slice none 0 0]).alloc _)
  have HX0 := Lib.hid (show RowIs W0 (B + 1) 24 [.int .i64 0, .slice none 0 0] from by rw [hW0, hB]; exact row_two w _ 24 [.int .i64 0, .slice none 0 0])
  have HBB := Lib.hid hB
  have HS := Lib.hid hs
  have HC := Lib.hid (show ∀ X k, Below B w X → k < 2 → X.cell? ⟨lb, k * 2, none⟩ = some (.int .i64 (Nf k)) ∧ X.cell? ⟨lb, k * 2 + 1, none⟩ = some (.slice (aof k) (Tf k).length (cf k)) from fun X k hX hk => by
    obtain ⟨h0, h1⟩ := hc k hk
    exact ⟨(hX.cell (p := ⟨lb, _, none⟩) (by rw [hB]; exact hl)).trans h0, (hX.cell (p := ⟨lb, _, none⟩) (by rw [hB]; exact hl)).trans h1⟩)
  have HT := Lib.hid (show ∀ X k, Below B w X → k < 2 → TrisAt X (aof k) (Tf k) from fun X k hX hk => (hs k hk).2.2.2.mono (by rw [hB]; exact Nat.le_refl _) hX)
  have HAN := Lib.hid (show ∀ k, k ≤ 2 → 0 ≤ accN Nf k ∧ accN Nf k ≤ 90 * k ∧ (accT Nf Tf k).length ≤ 30 * k from fun k hk => by
    induction k with
    | zero => exact ⟨Int.le_refl _, by simp [accN], by simp [accT]⟩
    | succ k ih =>
      obtain ⟨a1, a2, a3⟩ := ih (by omega)
      obtain ⟨b0, b1, b2, _⟩ := hs k (by omega)
      have := b0.n0
      refine ⟨?_, ?_, ?_⟩
      · show 0 ≤ accN Nf k + Nf k; omega
      · show accN Nf k + Nf k ≤ _; omega
      · show (accT Nf Tf k ++ (Tf k).map (sh (accN Nf k))).length ≤ _
        simp; omega)
  clear hs hc hl
  go_enter Tryz.func25, Tryz.ntmps25
  go_wp2
  rw [← hW0]
  rw [← hB]
  have HS0 := Lib.hid (show B + 2 = W0.heap.size from by rw [hW0, hB]; simp)
  clear hW0 hB
  go_loopw [13] (fun i ws => ∃ k : Nat, k ≤ 2 ∧ i = .int .i64 k ∧ Below W0.heap.size W0 ws) (fun i _ => 2 - (intOf i).toNat)
  case atStart => exact ⟨0, by omega, rfl, Below.refl _ _⟩
  case round =>
    obtain ⟨k, hk, rfl, hb⟩ := hrel
    obtain ⟨W1, rfl⟩ : ∃ W1 : World, W1 = wr := ⟨_, rfl⟩
    have HB := Lib.hid hb
    by_cases hk2 : k < 2
    · have hbw : Below B w W1 := HB0.out.trans (hb.mono (by have := HS0.out; omega))
      obtain ⟨c0, c1⟩ := HC.out W1 k hbw hk2
      obtain ⟨b0, b1, b2, -⟩ := HS.out k hk2
      have hba : Below W1.heap.size W1 (W1.alloc (.cells #[.int .i64 (Nf k), .slice (aof k) (Tf k).length (cf k)] 24)) := (Below.refl _ _).alloc (Nat.le_refl _) _
      have HF := Lib.hid (soupfits_yes (Nf k) (aof k) (cf k) (Tf k) _ b0 ((HT.out W1 k hbw hk2).mono (Nat.le_refl _) hba))
      have HBA := Lib.hid (below_more HB.out hba HB.out.size)
      obtain ⟨l, hl⟩ : ∃ l, l = (Tf k).length := ⟨_, rfl⟩
      obtain ⟨Nk, hNk⟩ : ∃ l, l = Nf k := ⟨_, rfl⟩
      rw [← hl] at HF HBA c1
      rw [← hNk] at HF HBA c0
      clear hb hbw b0 b1 b2 hba hl hNk
      go_wp2_with fail
      refine HF.out.mono ?_
      rintro e w2 ⟨rfl, hb2⟩
      have HB2 := Lib.hid (below_more HBA.out hb2 HBA.out.size)
      clear hb2 c0 c1
      go_wp2
      go_roundw
      case rel => exact ⟨k + 1, by omega, by go_num, HB2.out⟩
      case measure => simp [intOf]; omega
    · have hdk : decide ((k : Int) < 2) = false := by simp; omega
      have hdk2 : decide (k < 2) = false := by simp; omega
      have HR1 := Lib.hid (HR0.out.below hb HR0.out.lt)
      have HX1 := Lib.hid (HX0.out.below hb HX0.out.lt)
      have HB1 := Lib.hid (HB0.out.trans (hb.mono (by have := HS0.out; omega)))
      have hs1 : B + 2 ≤ W1.heap.size := by have := hb.size; have := HS0.out; omega
      clear hb HR0 HX0 HB0 HB
      go_wp2
      clear hdk hdk2 hk2 hk
      go_loopw [24] (fun i ws => ∃ (k : Nat) (v : Value), k ≤ 2 ∧ i = .int .i64 k ∧ RowIs ws (B + 1) 24 [.int .i64 (accN Nf k), v] ∧ RowIs ws B 24 [.int .i64 0, .slice none 0 0] ∧ ws.ownsRow (B + 2) 62 3 v (accT Nf Tf k).length (tcells (accT Nf Tf k)) ∧ Below B w ws) (fun i _ => 2 - (intOf i).toNat)
      case atStart => exact ⟨0, _, by omega, rfl, HX1.out, HR1.out, World.ownsRow_nil _ _ _ _, HB1.out⟩
      case round =>
        clear HR1 HX1 HB1
        obtain ⟨k, v, hk, rfl, hxr, hrr, hown, hbw⟩ := hrel
        obtain ⟨W2, rfl⟩ : ∃ W2 : World, W2 = wr := ⟨_, rfl⟩
        have HXR := Lib.hid hxr
        have HRR := Lib.hid hrr
        have HOW := Lib.hid hown
        have HBW := Lib.hid hbw
        by_cases hk2 : k < 2
        · obtain ⟨c0, c1⟩ := HC.out W2 k hbw hk2
          obtain ⟨b0, b1, b2, -⟩ := HS.out k hk2
          obtain ⟨a1, a2, a3⟩ := HAN.out k hk
          obtain ⟨aoA, capA, rfl⟩ := owns_slice hown
          have HTK2 := Lib.hid (fun X hX => HT.out X k hX hk2)
          obtain ⟨ak, hak⟩ : ∃ a, a = aof k := ⟨_, rfl⟩
          rw [← hak] at c1 HTK2
          obtain ⟨l, hl⟩ : ∃ l, l = (Tf k).length := ⟨_, rfl⟩
          obtain ⟨Nk, hNk⟩ : ∃ l, l = Nf k := ⟨_, rfl⟩
          obtain ⟨nA, hnA⟩ : ∃ l, l = (accT Nf Tf k).length := ⟨_, rfl⟩
          obtain ⟨NA, hNA⟩ : ∃ l, l = accN Nf k := ⟨_, rfl⟩
          have h0 := b0.n0
          rw [← hl] at c1 b2
          rw [← hNk] at c0 b1 h0
          rw [← hnA] at a3
          rw [← hNA] at a1 a2
          rw [← hnA] at hxr HXR HOW
          rw [← hNA] at hxr HXR
          have HL := Lib.hid hl
          have HNA := Lib.hid hNA
          have HnA := Lib.hid hnA
          have HNK := Lib.hid hNk
          have hba : Below W2.heap.size W2 (W2.alloc (.cells #[.int .i64 Nk, .slice ak l (cf k)] 24)) := (Below.refl _ _).alloc (Nat.le_refl _) _
          obtain ⟨pb, hpb⟩ : ∃ b, b = W2.heap.size := ⟨_, rfl⟩
          obtain ⟨W3, hW3⟩ : ∃ W3, W3 = W2.alloc (.cells #[.int .i64 Nk, .slice ak l (cf k)] 24) := ⟨_, rfl⟩
          rw [← hW3] at hba
          have HX3 := Lib.hid (HXR.out.after hba)
          have HR3 := Lib.hid (HRR.out.after hba)
          have HO3 := Lib.hid (owns_below HOW.out hba)
          have HB3 := Lib.hid (below_more HBW.out hba (by have := HRR.out.lt; omega))
          have HP3 := Lib.hid (show RowIs W3 pb 24 [.int .i64 Nk, .slice ak l (cf k)] from by rw [hW3, hpb]; exact RowIs.made W2 24 [.int .i64 Nk, .slice ak l (cf k)])
          have x0 := HX3.out.cell (i := 0) rfl
          have x1 := HX3.out.cell (i := 1) rfl
          have y0 := HP3.out.cell (i := 0) rfl
          have y1 := HP3.out.cell (i := 1) rfl
          have hpB : B + 1 < pb := by have := HXR.out.lt; omega
          have hdk : decide ((k : Int) < 2) = true := by simp; omega
          have hdk2 : decide (k < 2) = true := by simp; omega
          have hd0 : decide (NA + Nk > 4096) = false := by simp; omega
          have hd1 : decide ((nA : Int) + (l : Int) > 8192) = false := by simp; omega
          have hd2 : decide (((nA + l : Nat) : Int) > 8192) = false := by simp; omega
          rw [hW3] at x0 x1
          rw [hW3, hpb] at y0 y1
          clear hxr hrr hown hbw b0 hba hak hl hNk hnA hNA HXR HRR HOW HBW
          go_wp2
          rw [← hW3]
          rw [← hpb]
          clear hW3 hpb x0 x1 y0 y1 c0 c1
          go_loopw [48] (fun i ws => ∃ (q : Nat) (v : Value), q ≤ l ∧ i = .int .i64 q ∧ RowIs ws (B + 1) 24 [.int .i64 NA, v] ∧ RowIs ws B 24 [.int .i64 0, .slice none 0 0] ∧ RowIs ws pb 24 [.int .i64 Nk, .slice ak l (cf k)] ∧
              ws.ownsRow (B + 2) 62 3 v (nA + q) (tcells (midT Nf Tf k q)) ∧ Below B w ws) (fun i _ => l - (intOf i).toNat)
          case atStart => exact ⟨0, _, by omega, rfl, HX3.out, HR3.out, HP3.out, by rw [midT_zero]; exact HO3.out, HB3.out⟩
          case round =>
            clear HX3 HR3 HP3 HO3 HB3
            obtain ⟨q, v, hq, rfl, hx, hr, hp, ho, hb⟩ := hrel
            obtain ⟨W4, rfl⟩ : ∃ W4 : World, W4 = wr := ⟨_, rfl⟩
            have HX := Lib.hid hx
            have HR := Lib.hid hr
            have HP := Lib.hid hp
            have HO := Lib.hid ho
            have HB := Lib.hid hb
            obtain ⟨ao, cap, rfl⟩ := owns_slice ho
            by_cases hql : q < l
            · obtain ⟨tb, off, x, y, z, rfl, ht, g0, g1, g2, -, -⟩ := (HTK2.out W4 hb).get (Nat.le_refl _) (Below.refl _ _) (i := q) (by have := HL.out; omega)
              have HTK := Lib.hid (show midT Nf Tf k (q + 1) = midT Nf Tf k q ++ [(x + NA, y + NA, z + NA)] from by
                rw [midT_succ Nf Tf (by have := HL.out; omega) ht.out, HNA.out]; rfl)
              have hB2 : B + 2 ≤ W4.heap.size := hx.lt
              have hvi := fun j => (HS.out k hk2).1.vin q (by have := HL.out; omega) j
              rw [ht.out] at hvi
              have v0 := hvi 0
              have v1 := hvi 1
              have v2 := hvi 2
              simp only [tg] at v0 v1 v2
              rw [← HNK.out] at v0 v1 v2
              have hx0' : 0 ≤ x := v0.1
              have hx1' : x ≤ 90 := by omega
              have hy0' : 0 ≤ y := v1.1
              have hy1' : y ≤ 90 := by omega
              have hz0' : 0 ≤ z := v2.1
              have hz1' : z ≤ 90 := by omega
              have hNA1 : NA ≤ 180 := by omega
              clear hvi v0 v1 v2
              clear hx hr hp ho hb ht
              have x0 := HX.out.cell (i := 0) rfl
              have x1 := HX.out.cell (i := 1) rfl
              have x0' : ∀ o, (W4.alloc o).cell? ⟨B + 1, 0, none⟩ = some (.int .i64 NA) := fun o => (((Below.refl _ _).alloc (Nat.le_refl W4.heap.size) o).cell (p := ⟨B + 1, 0, none⟩) HX.out.lt).trans x0
              have x1' : ∀ o, (W4.alloc o).cell? ⟨B + 1, 1, none⟩ = some (.slice ao (nA + q) cap) := fun o => (((Below.refl _ _).alloc (Nat.le_refl W4.heap.size) o).cell (p := ⟨B + 1, 1, none⟩) HX.out.lt).trans x1
              have HO4 := Lib.hid (HO.out.alloc (.cells #[.int .i64 x, .int .i64 y, .int .i64 z] 62))
              have HX4 := Lib.hid (HX.out.alloc (.cells #[.int .i64 x, .int .i64 y, .int .i64 z] 62))
              have HR4 := Lib.hid (HR.out.alloc (.cells #[.int .i64 x, .int .i64 y, .int .i64 z] 62))
              have HP4 := Lib.hid (HP.out.alloc (.cells #[.int .i64 x, .int .i64 y, .int .i64 z] 62))
              have HB4 := Lib.hid (HB.out.alloc (by omega) (.cells #[.int .i64 x, .int .i64 y, .int .i64 z] 62))
              go_wp2_with (at_builtin; refine wpList_append_new _ rfl _ _ 22 rfl (B + 2) 62 i4 _ 3 24 (by kernel_rfl) hi4 hx0 hx1 hx2 rfl (by decide) _ _ _ rfl HO4.out _ _ _ rfl (by first | rfl | simp) rfl ?_ ?_ ?_ ?_ ?_)
              · exact ⟨rfl, rfl, rfl⟩
              · unfold maxLen; omega
              · omega
              · simp; omega
              · intro v' w5 hown hbel hgr
                obtain ⟨ao5, cap5, rfl⟩ := owns_slice hown
                have hx5 := RowIs.grown (HX4.out.alloc _) hgr (row_own_ne HX4.out HO4.out (by decide))
                have hr5 := RowIs.grown (HR4.out.alloc _) hgr (row_own_ne HR4.out HO4.out (by decide))
                have hp5 := RowIs.grown (HP4.out.alloc _) hgr (row_own_ne HP4.out HO4.out (by decide))
                have x5 := hx5.cell (i := 1) rfl
                have f5 := hx5.free 1
                have HX6 := Lib.hid (hx5.set 1 (.slice ao5 (nA + q + 1) cap5))
                have HR6 := Lib.hid (hr5.other (p := ⟨B + 1, 1, none⟩) (by simp) (.slice ao5 (nA + q + 1) cap5))
                have HP6 := Lib.hid (hp5.other (p := ⟨B + 1, 1, none⟩) (by simp; omega) (.slice ao5 (nA + q + 1) cap5))
                have HB6 := Lib.hid ((hbel B w (by omega) HB4.out).setCell (p := ⟨B + 1, 1, none⟩) (Nat.le_succ _) (.slice ao5 (nA + q + 1) cap5))
                have HO6 := Lib.hid (show (w5.setCell ⟨B + 1, 1, none⟩ (.slice ao5 (nA + q + 1) cap5)).ownsRow (B + 2) 62 3 (.slice ao5 (nA + q + 1) cap5) (nA + (q + 1)) (tcells (midT Nf Tf k (q + 1))) from by
                  rw [HTK.out, tcells_snoc]
                  exact hown.kept (grown_set w5 (B + 1) 1 _) (by
                    have := row_own_ne hx5 hown (by decide)
                    exact .inr fun e => this e.symm))
                clear hown hbel hgr hx5 hr5 hp5 x0 x1 x0' x1' g0 g1 g2
                go_wp2
                go_roundw
                case rel => exact ⟨q + 1, _, by omega, by go_num, HX6.out, HR6.out, HP6.out, HO6.out, HB6.out⟩
                case measure => simp [intOf]; omega
            · obtain rfl : q = l := by omega
              have x0 := hx.cell (i := 0) rfl
              have f0 := hx.free 0
              have y0 := hp.cell (i := 0) rfl
              have HX6 := Lib.hid (show RowIs (W4.setCell ⟨B + 1, 0, none⟩ (.int .i64 (NA + Nk))) (B + 1) 24 [.int .i64 (accN Nf (k + 1)), .slice ao (nA + q) cap] from by
                have := hx.set 0 (.int .i64 (NA + Nk))
                have e : accN Nf (k + 1) = NA + Nk := by rw [HNA.out, HNK.out]; rfl
                rw [e]; exact this)
              have HR6 := Lib.hid (hr.other (p := ⟨B + 1, 0, none⟩) (by simp) (.int .i64 (NA + Nk)))
              have HB6 := Lib.hid (hb.setCell (p := ⟨B + 1, 0, none⟩) (Nat.le_succ _) (.int .i64 (NA + Nk)))
              have HO6 := Lib.hid (show (W4.setCell ⟨B + 1, 0, none⟩ (.int .i64 (NA + Nk))).ownsRow (B + 2) 62 3 (.slice ao (nA + q) cap) (accT Nf Tf (k + 1)).length (tcells (accT Nf Tf (k + 1))) from by
                have e1 : midT Nf Tf k q = accT Nf Tf (k + 1) := by rw [HL.out]; exact midT_full Nf Tf k
                have e2 : (accT Nf Tf (k + 1)).length = nA + q := by rw [← e1, midT_length Nf Tf (by have := HL.out; omega), HnA.out]
                rw [e2, ← e1]
                exact ho.kept (grown_set W4 (B + 1) 0 _) (by
                  have := row_own_ne hx ho (by decide)
                  exact .inr fun e => this e.symm))
              clear hx hr hp ho hb HX HR HP HO HB
              go_wp2
              go_roundw
              case rel => exact ⟨k + 1, _, by omega, by go_num, HX6.out, HR6.out, HO6.out, HB6.out⟩
              case measure => simp [intOf]; omega
        · obtain rfl : k = 2 := by omega
          obtain ⟨ao9, cap9, rfl, htr⟩ := owns_tris hown
          have x0 := hxr.cell (i := 0) rfl
          have x1 := hxr.cell (i := 1) rfl
          have d0 := hrr.cell (i := 0) rfl
          have d1 := hrr.cell (i := 1) rfl
          have f0 := hrr.free 0
          have f1 := hrr.free 1
          obtain ⟨lA, hlA⟩ : ∃ l, l = (accT Nf Tf 2).length := ⟨_, rfl⟩
          obtain ⟨NA, hNA⟩ : ∃ l, l = accN Nf 2 := ⟨_, rfl⟩
          rw [← hlA] at x1
          rw [← hNA] at x0
          have hr9 := (hrr.set 0 (.int .i64 NA)).set 1 (.slice ao9 lA cap9)
          have k0 := hr9.cell (i := 0) rfl
          have k1 := hr9.cell (i := 1) rfl
          have HBF := Lib.hid ((hbw.setCell (p := ⟨B, 0, none⟩) (Nat.le_refl _) (.int .i64 NA)).setCell (p := ⟨B, 1, none⟩) (Nat.le_refl _) (.slice ao9 lA cap9))
          have HTF := Lib.hid (show TrisAt ((W2.setCell ⟨B, 0, none⟩ (.int .i64 NA)).setCell ⟨B, 1, none⟩ (.slice ao9 lA cap9)) ao9 (accT Nf Tf 2) from by
            have h1 := hown.kept (grown_set W2 B 0 (.int .i64 NA)) (by
              have := row_own_ne hrr hown (by decide)
              exact .inr fun e => this e.symm)
            have h2 := h1.kept (grown_set _ B 1 (.slice ao9 lA cap9)) (by
              have := row_own_ne hrr hown (by decide)
              exact .inr fun e => this e.symm)
            obtain ⟨ao', cap', e, h⟩ := owns_tris h2
            cases e
            exact h)
          have HLA := Lib.hid hlA
          have HNA := Lib.hid hNA
          clear hown hxr hrr hbw hr9 htr HXR HRR HOW HBW hlA hNA
          go_wp2
          refine bodyPost_ret (v := .tuple #[.agg #[.int .i64 NA, .slice ao9 lA cap9], .int .i64 0]) (by simp [results, Tryz.results25, go_sem, k0, k1]) rfl ⟨ao9, cap9, by rw [← HNA.out, ← HLA.out], HTF.out, ?_⟩
          rw [← HBB.out]
          exact HBF.out
def two {α : Type} (a b : α) : Nat → α := fun k => if k = 0 then a else b
theorem sh_zero (t : Tr) : sh 0 t = t := by unfold sh; simp
theorem acc_two (N1 N2 : Int) (T1 T2 : List Tr) : accN (two N1 N2) 2 = N1 + N2 ∧ accT (two N1 N2) (two T1 T2) 2 = side T1 T2 N1 := by
  have e0 : two N1 N2 0 = N1 := rfl
  have e1 : two N1 N2 1 = N2 := rfl
  have t0 : two T1 T2 0 = T1 := rfl
  have t1 : two T1 T2 1 = T2 := rfl
  constructor
  · show accN _ 0 + two N1 N2 0 + two N1 N2 1 = _
    rw [e0, e1]
    simp [accN]
  · show (accT _ _ 0 ++ (two T1 T2 0).map (sh (accN _ 0))) ++ (two T1 T2 1).map (sh (accN (two N1 N2) 1)) = _
    have h1 : accN (two N1 N2) 1 = N1 := by
      show accN _ 0 + two N1 N2 0 = _
      rw [e0]; simp [accN]
    rw [h1, t0, t1]
    have h2 : T1.map (sh 0) = T1 := by
      have : sh 0 = id := funext sh_zero
      rw [this, List.map_id]
    show ([] ++ T1.map (sh 0)) ++ _ = _
    rw [h2]
    rfl
end Go.Proofs.YtbeefabboabfgaaGreat

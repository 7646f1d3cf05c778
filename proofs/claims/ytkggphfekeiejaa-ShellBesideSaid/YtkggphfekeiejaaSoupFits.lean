/- soup.Fits: of a surface it is true. -/
import Derived.Test.YtkggphfekeiejaaBeside
import Derived.Test.YtkggphfekeiejaaCert1
namespace Go.Proofs.Ytkggphfekeiejaa
set_option linter.unusedVariables false
set_option linter.unusedSimpArgs false
open Go.RowKit
set_option maxRecDepth 100000 in
set_option maxHeartbeats 1000000 in
theorem tfits_yes (x y z N : Int) (hin : ∀ j, j < 3 → 0 ≤ tg (x, y, z) j ∧ tg (x, y, z) j < N) (hl : loopB (x, y, z) = false) (w : World) :
    Calls Try.prog 56 #[.agg #[.int .i64 x, .int .i64 y, .int .i64 z], .int .i64 N] w fun e w' => e = .returned (.bool true) ∧ Below w.heap.size w w' := by
  have HI := Lib.hid hin
  have HB := Lib.hid (show Below w.heap.size w (w.alloc (.cells #[.int .i64 x, .int .i64 y, .int .i64 z] 49)) from (Below.refl _ _).alloc (Nat.le_refl _) _)
  unfold loopB at hl
  simp only [Bool.or_eq_false_iff] at hl
  obtain ⟨⟨l1, l2⟩, l3⟩ := hl
  have m1 : (x != y) = true := by simp [bne, l1]
  have m2 : (y != z) = true := by simp [bne, l2]
  have m3 : (z != x) = true := by simp [bne, l3]
  have HX := Lib.hid (RowIs.made w 49 [.int .i64 x, .int .i64 y, .int .i64 z])
  clear hin
  go_enter Try.func56, Try.ntmps56
  go_wp2
  obtain ⟨W0, hW0⟩ : ∃ W0, W0 = w.alloc (.cells #[.int .i64 x, .int .i64 y, .int .i64 z] 49) := ⟨_, rfl⟩
  rw [← hW0] at HB HX ⊢
  clear hW0
  go_loopw [8] (fun i ws => ∃ j : Nat, j ≤ 3 ∧ i = .int .i64 j ∧ ws = W0) (fun i _ => 3 - (intOf i).toNat)
  case atStart => exact ⟨0, by omega, rfl, rfl⟩
  case round =>
    obtain ⟨j, hj, rfl, rfl⟩ := hrel
    obtain ⟨W0, rfl⟩ : ∃ W0 : World, W0 = wr := ⟨_, rfl⟩
    by_cases hj3 : j < 3
    · have hix := index_tri x y z j hj3
      obtain ⟨h0, h1⟩ := HI.out j hj3
      obtain ⟨v, hv⟩ : ∃ v, v = tg (x, y, z) j := ⟨_, rfl⟩
      rw [← hv] at hix h0 h1
      have hd0 : decide (v < 0) = false := by simp; omega
      have hd1 : decide (v ≥ N) = false := by simp; omega
      clear hv h0 h1
      go_wp2
      go_roundw
      case rel => exact ⟨j + 1, by omega, by go_num, by trivial⟩
      case measure => simp [intOf]; omega
    · obtain rfl : j = 3 := by omega
      have x0 := HX.out.cell (i := 0) rfl
      have x1 := HX.out.cell (i := 1) rfl
      have x2 := HX.out.cell (i := 2) rfl
      go_wp2
      exact bodyPost_ret (v := .bool true) (by simp [results, Try.results56, go_sem]) rfl ⟨rfl, HB.out⟩
set_option maxRecDepth 100000 in
set_option maxHeartbeats 1000000 in
theorem fitsf_yes (x y z N : Int) (b : Nat) (hin : ∀ j, j < 3 → 0 ≤ tg (x, y, z) j ∧ tg (x, y, z) j < N) (hl : loopB (x, y, z) = false) (w : World) (hb : w.cell? ⟨b, 0, none⟩ = some (.int .i64 N)) (hbl : b < w.heap.size) :
    Calls Try.prog 55 #[.agg #[.int .i64 x, .int .i64 y, .int .i64 z], .pointer (some ⟨b, 0, none⟩)] w fun e w' => e = .returned (.bool false) ∧ Below w.heap.size w w' := by
  have hba : Below w.heap.size w (w.alloc (.cells #[.int .i64 x, .int .i64 y, .int .i64 z] 49)) := (Below.refl _ _).alloc (Nat.le_refl _) _
  have hb' := (hba.cell (p := ⟨b, 0, none⟩) hbl).trans hb
  have HB := Lib.hid hba
  have HF := Lib.hid (fun X => tfits_yes x y z N hin hl X)
  clear hin hl hb hba
  go_enter Try.func55, Try.ntmps55
  go_wp2_with fail
  refine (HF.out _).mono ?_
  rintro e w2 ⟨rfl, hb2⟩
  have HB2 := Lib.hid (below_more HB.out hb2 HB.out.size)
  clear hb2
  go_wp2
  exact bodyPost_ret (v := .bool false) (by simp [results, Try.results55, go_sem]) rfl ⟨rfl, HB2.out⟩
/-- The test that Fits hands on is false of each triangle of a surface. -/
def FitW (w : World) (b : Nat) (N : Int) : Prop := w.cell? ⟨b, 0, none⟩ = some (.int .i64 N) ∧ b < w.heap.size
theorem FitW.mono {w w' : World} {b : Nat} {N : Int} (h : FitW w b N) (hb : Below w.heap.size w w') : FitW w' b N := ⟨(hb.cell (p := ⟨b, 0, none⟩) h.2).trans h.1, by have := hb.size; have := h.2; omega⟩
set_option maxRecDepth 100000 in
set_option maxHeartbeats 1000000 in
theorem indexf_no (N : Int) (b : Nat) (ao : Option Addr) (cap : Nat) (T : List Tr) (w : World) (hs : Surf N T) (hT : TrisAt w ao T) (hf : FitW w b N) :
    Calls Try.prog 83 #[.slice ao T.length cap, .func (.func 55) #[] #[.pointer (some ⟨b, 0, none⟩)]] w fun e w' => e = .returned (.int .i64 (-1)) ∧ Below w.heap.size w w' := by
  have hl := hs.t1
  obtain ⟨n, hn⟩ : ∃ n, n = T.length := ⟨_, rfl⟩
  rw [← hn] at hl ⊢
  have HN := Lib.hid hn
  have HS := Lib.hid hs
  have HT := Lib.hid hT
  have HF := Lib.hid hf
  clear hn hs hT hf
  go_enter Try.func83, Try.ntmps83
  go_wp2
  go_loopw [8] (fun i ws => ∃ k : Nat, k ≤ n ∧ i = .int .i64 k ∧ Below w.heap.size w ws) (fun i _ => n - (intOf i).toNat)
  case atStart => exact ⟨0, by omega, rfl, Below.refl _ _⟩
  case round =>
    obtain ⟨k, hk, rfl, hb⟩ := hrel
    obtain ⟨W1, rfl⟩ : ∃ W1 : World, W1 = wr := ⟨_, rfl⟩
    have HB := Lib.hid hb
    by_cases hlt : k < n
    · obtain ⟨tb, off, x, y, z, rfl, ht, g0, g1, g2, -, -⟩ := HT.out.get (Nat.le_refl _) hb (i := k) (by have := HN.out; omega)
      have hin : ∀ j, j < 3 → 0 ≤ tg (x, y, z) j ∧ tg (x, y, z) j < N := fun j _ => by rw [← ht.out]; exact HS.out.vin k (by have := HN.out; omega) j
      have hlp : loopB (x, y, z) = false := by rw [← ht.out]; exact HS.out.noloop k (by have := HN.out; omega)
      have hfw := HF.out.mono hb
      have HC := Lib.hid (fitsf_yes x y z N b hin hlp W1 hfw.1 hfw.2)
      clear ht hin hlp hfw hb
      go_wp2_with fail
      refine HC.out.mono ?_
      rintro e w2 ⟨rfl, hb2⟩
      have HB2 := Lib.hid (below_more HB.out hb2 HB.out.size)
      clear hb2 g0 g1 g2
      go_wp2
      go_roundw
      case rel => exact ⟨k + 1, by omega, by go_num, HB2.out⟩
      case measure => simp [intOf]; omega
    · obtain rfl : k = n := by omega
      clear hb
      go_wp2
      exact bodyPost_ret (v := .int .i64 (-1)) (by simp [results, Try.results83, go_sem]) rfl ⟨rfl, HB.out⟩
set_option maxRecDepth 100000 in
set_option maxHeartbeats 1000000 in
theorem containsf_no (N : Int) (b : Nat) (ao : Option Addr) (cap : Nat) (T : List Tr) (w : World) (hs : Surf N T) (hT : TrisAt w ao T) (hf : FitW w b N) :
    Calls Try.prog 54 #[.slice ao T.length cap, .func (.func 55) #[] #[.pointer (some ⟨b, 0, none⟩)]] w fun e w' => e = .returned (.bool false) ∧ Below w.heap.size w w' := by
  have HC := Lib.hid (indexf_no N b ao cap T w hs hT hf)
  clear hs hT hf
  go_enter Try.func54, Try.ntmps54
  go_wp2_with fail
  refine HC.out.mono ?_
  rintro e w2 ⟨rfl, hb2⟩
  have HB2 := Lib.hid hb2
  clear hb2
  go_wp2
  exact bodyPost_ret (v := .bool false) (by simp [results, Try.results54, go_sem]) rfl ⟨rfl, HB2.out⟩
set_option maxRecDepth 100000 in
set_option maxHeartbeats 1000000 in
theorem soupfits_yes (N : Int) (ao : Option Addr) (cap : Nat) (T : List Tr) (w : World) (hs : Surf N T) (hT : TrisAt w ao T) :
    Calls Try.prog 42 #[.agg #[.int .i64 N, .slice ao T.length cap]] w fun e w' => e = .returned (.bool true) ∧ Below w.heap.size w w' := by
  have h0 := hs.n0
  have h1 := hs.n1
  have h2 := hs.t1
  have hmf : ∀ (fn : Fn) (first cap : Array Value) (w : World), (Instr.makeFunc fn first cap).run Try.prog w = .ok (.func fn first cap) w := fun _ _ _ _ => rfl
  have hba : Below w.heap.size w (w.alloc (.cells #[.int .i64 N, .slice ao T.length cap] 24)) := (Below.refl _ _).alloc (Nat.le_refl _) _
  have hx := RowIs.made w 24 [.int .i64 N, .slice ao T.length cap]
  have HC := Lib.hid (containsf_no N w.heap.size ao cap T _ hs (hT.mono (Nat.le_refl _) hba) ⟨hx.cell (i := 0) rfl, hx.lt⟩)
  have HB := Lib.hid hba
  obtain ⟨n, hn⟩ : ∃ n, n = T.length := ⟨_, rfl⟩
  rw [← hn] at HC HB h2 ⊢
  have hd0 : decide (N < 0) = false := by simp; omega
  have hd1 : decide (N > 4096) = false := by simp; omega
  have hd2 : decide ((n : Int) > 8192) = false := by simp; omega
  clear hs hT hba hx hn
  go_enter Try.func42, Try.ntmps42
  go_wp2_with fail
  refine HC.out.mono ?_
  rintro e w2 ⟨rfl, hb2⟩
  have HB2 := Lib.hid (below_more HB.out hb2 HB.out.size)
  clear hb2
  go_wp2
  exact bodyPost_ret (v := .bool true) (by simp [results, Try.results42, go_sem]) rfl ⟨rfl, HB2.out⟩
end Go.Proofs.Ytkggphfekeiejaa

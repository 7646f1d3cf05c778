/- certify.lonely: of a surface nothing is told. -/
import Derived.Test.YtknioobpoieohaaCert1
import Derived.Test.YtknioobpoieohaaPinch
namespace Go.Proofs.Ytknioobpoieohaa
set_option linter.unusedVariables false
set_option linter.unusedSimpArgs false
open Go.RowKit
theorem nat_of_in {x N : Int} {n : Nat} (h : 0 ≤ x ∧ x < N) (hn : N = n) : ∃ u : Nat, x = u ∧ u < n := ⟨x.toNat, by omega, by omega⟩
set_option maxRecDepth 100000 in
set_option maxHeartbeats 1000000 in
theorem clonely_ok (N : Int) (ao : Option Addr) (cap : Nat) (T : List Tr) (w : World) (hT : TrisAt w ao T) (hs : Surf N T) :
    Calls Try.prog 65 #[.agg #[.int .i64 N, .slice ao T.length cap]] w fun e w' => e = .returned (.slice none 0 0) ∧ Below w.heap.size w w' := by
  obtain ⟨i0, hi, hz0, hz1, hz2⟩ := info_parts info4
  obtain ⟨n, hn⟩ : ∃ n : Nat, N = n := ⟨N.toNat, by have := hs.n0; omega⟩
  subst hn
  have hn4 : n ≤ 4096 := by have := hs.n1; omega
  have ht8 := hs.t1
  have HV := Lib.hid hs.vin
  have HU := Lib.hid hs.used
  obtain ⟨len, hlen⟩ : ∃ n, n = T.length := ⟨_, rfl⟩
  rw [← hlen] at ht8 ⊢
  have HL := Lib.hid hlen
  have HT := Lib.hid (hT.mono (Nat.le_refl _) ((Below.refl _ _).alloc (Nat.le_refl _) (.cells #[.int .i64 (n : Int), .slice ao len cap] 24)))
  clear hlen hT hs
  go_enter Try.func65, Try.ntmps65
  go_wp2_with (at_make; refine wpList_make_full _ rfl _ _ _ rfl (w.heap.size + 1) 4 i0 (.bool false) 1 (by kernel_rfl) hi hz0 hz1 _ _ _ _ n rfl rfl rfl rfl (by rw [hz2]; omega) (by unfold maxLen; omega) (by simp) ?_)
  intro w1 hown hgr
  rw [madeCells_bv] at hown
  have hrow := RowIs.of_owns hown
  have HB1 := Lib.hid (show Below (w.heap.size + 1) (w.alloc (.cells #[.int .i64 (n : Int), .slice ao len cap] 24)) w1 from (Below.refl _ _).grown hgr (by simp) (by simp))
  obtain ⟨hc0, hc1, hbw, hsz⟩ := box_soup HB1.out
  have HR := Lib.hid hrow
  clear hown hgr hrow hbw
  go_wp2
  clear hc0 hc1
  go_loopw [17] (fun i ws => ∃ (k : Nat) (β : Nat → Bool), k ≤ len ∧ i = .int .i64 k ∧ RowIs ws (w.heap.size + 1) 4 (bv β n) ∧ (∀ i j u : Nat, i < k → j < 3 → tg (T! T i) j = u → β u = true) ∧
      Below (w.heap.size + 1) (w.alloc (.cells #[.int .i64 (n : Int), .slice ao len cap] 24)) ws) (fun i _ => len - (intOf i).toNat)
  case atStart => exact ⟨0, _, by omega, rfl, HR.out, fun i j u h => by omega, HB1.out⟩
  case round =>
    clear HR HB1
    obtain ⟨k, β, hk, rfl, hrow, hall, hb⟩ := hrel
    have hbs := hb.size
    simp at hbs
    by_cases hlt : k < len
    · obtain ⟨b, off, x, y, z, rfl, ht, g0, g1, g2, -, -⟩ := HT.out.get (by simp) hb (i := k) (by have := HL.out; omega)
      have HVk := Lib.hid (fun j => HV.out k (by have := HL.out; omega) j)
      rw [ht.out] at HVk
      have HR := Lib.hid (hrow.alloc (.cells #[.int .i64 x, .int .i64 y, .int .i64 z] 42))
      have HB := Lib.hid (hb.alloc (by omega) (.cells #[.int .i64 x, .int .i64 y, .int .i64 z] 42))
      have HA := Lib.hid hall
      obtain ⟨W1, rfl⟩ : ∃ W1 : World, W1 = wr := ⟨_, rfl⟩
      clear hrow hb hall
      go_wp2
      go_loopw [22] (fun i ws => ∃ (j : Nat) (β : Nat → Bool), j ≤ 3 ∧ i = .int .i64 j ∧ RowIs ws (w.heap.size + 1) 4 (bv β n) ∧ (∀ i j u : Nat, i < k → j < 3 → tg (T! T i) j = u → β u = true) ∧ (∀ l u : Nat, l < j → tg (T! T k) l = u → β u = true) ∧
          Below (w.heap.size + 1) (w.alloc (.cells #[.int .i64 (n : Int), .slice (some ⟨b, off, none⟩) len cap] 24)) ws) (fun i _ => 3 - (intOf i).toNat)
      case atStart => exact ⟨0, β, by omega, rfl, HR.out, HA.out, fun l u h => by omega, HB.out⟩
      case round =>
        clear HR HB HA
        obtain ⟨j, β, hj, rfl, hrow, hall, hdone, hb⟩ := hrel
        by_cases hj3 : j < 3
        · have hix := index_tri x y z j hj3
          obtain ⟨u, hu, hun⟩ := nat_of_in (HVk.out j) rfl
          rw [hu] at hix
          have hc := hrow.cell (bv_get β hun)
          have hf := hrow.free u
          have hr2 := hrow.set u (.bool true)
          rw [bv_set] at hr2
          have HR := Lib.hid hr2
          have HB := Lib.hid (hb.setCell (p := ⟨w.heap.size + 1, u, none⟩) (Nat.le_refl _) (.bool true))
          have HA := Lib.hid (show ∀ i j q : Nat, i < k → j < 3 → tg (T! T i) j = q → updB β u true q = true from fun i j q h1 h2 h3 => by
            unfold updB
            split
            · rfl
            · exact hall i j q h1 h2 h3)
          have HD := Lib.hid (show ∀ l q : Nat, l < j + 1 → tg (T! T k) l = q → updB β u true q = true from fun l q h1 h2 => by
            unfold updB
            split
            · rfl
            · rename_i hne
              by_cases e : l = j
              · subst e
                rw [ht.out, hu] at h2
                exact absurd (by omega) hne
              · exact hdone l q (by omega) h2)
          clear hrow hall hdone hb hr2 hu
          generalize β u = bu at *
          go_wp2
          go_roundw
          case rel => exact ⟨j + 1, _, by omega, by go_num, HR.out, HA.out, HD.out, HB.out⟩
          case measure => simp [intOf]; omega
        · obtain rfl : j = 3 := by omega
          have HR := Lib.hid hrow
          have HB := Lib.hid hb
          have HA := Lib.hid (show ∀ i j q : Nat, i < k + 1 → j < 3 → tg (T! T i) j = q → β q = true from fun i j q h1 h2 h3 => by
            by_cases e : i = k
            · subst e; exact hdone j q h2 h3
            · exact hall i j q (by omega) h2 h3)
          clear hrow hall hdone hb
          go_wp2
          go_roundw
          case rel => exact ⟨k + 1, β, by omega, by go_num, HR.out, HA.out, HB.out⟩
          case measure => simp [intOf]; omega
    · obtain rfl : len = k := by omega
      have HR := Lib.hid hrow
      have HB := Lib.hid hb
      have HALL := Lib.hid (show ∀ u : Nat, u < n → β u = true from fun u hu => by
        obtain ⟨i, hi, hh⟩ := HU.out u (by omega) (by omega)
        unfold hasB at hh
        simp only [Bool.or_eq_true, beq_iff_eq] at hh
        rcases hh with (hh | hh) | hh
        · exact hall i 0 u (by have := HL.out; omega) (by omega) hh
        · exact hall i 1 u (by have := HL.out; omega) (by omega) hh
        · exact hall i 2 u (by have := HL.out; omega) (by omega) hh)
      obtain ⟨W2, rfl⟩ : ∃ W2 : World, W2 = wr := ⟨_, rfl⟩
      clear hrow hb hall
      go_wp2
      go_loopw [32, 8] (fun i v ws => ∃ (k : Nat), k ≤ n ∧ i = .int .i64 k ∧ v = .slice none 0 0 ∧ ws = W2) (fun i _ _ => n - (intOf i).toNat)
      case atStart => exact ⟨0, by omega, rfl, rfl, rfl⟩
      case round =>
        obtain ⟨k, hk, rfl, rfl, rfl⟩ := hrel
        by_cases hkn : k < n
        · have hc := HR.out.cell (bv_get β hkn)
          rw [HALL.out k hkn] at hc
          go_wp2
          go_roundw
          case rel => exact ⟨k + 1, by omega, by go_num, rfl, by trivial⟩
          case measure => simp [intOf]; omega
        · have HBw := Lib.hid (show Below w.heap.size w wr from ((Below.refl _ _).alloc (Nat.le_refl _) _).trans (HB.out.mono (by omega)))
          go_wp2
          go_ret
          exact ⟨rfl, HBw.out⟩
end Go.Proofs.Ytknioobpoieohaa

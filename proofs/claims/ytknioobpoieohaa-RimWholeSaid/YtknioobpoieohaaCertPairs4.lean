/- certify.pairs with the keys of certify.mirrored: where all keys are unlike, nothing is told. -/
import Derived.Test.YtknioobpoieohaaCertPairs3
import Derived.Test.YtknioobpoieohaaMapLaw
namespace Go.Proofs.Ytknioobpoieohaa
set_option linter.unusedVariables false
set_option linter.unusedSimpArgs false
open Go.RowKit Go.Maps

set_option maxRecDepth 100000 in
set_option maxHeartbeats 2000000 in
theorem cpairs4 (N : Int) (ao : Option Addr) (cap : Nat) (T : List Tr) (w : World) (hT : TrisAt w ao T) (hl : T.length ≤ 10000) (hI : ∀ i, i < T.length → ∀ j, I64 (tg (T! T i) j)) (hd : KeysApart T keys4) :
    Calls Try.prog 70 #[.agg #[.int .i64 N, .slice ao T.length cap], .int .i64 4, .func (.func 72) #[] #[]] w fun e w' => e = .returned (.slice none 0 0) ∧ Below w.heap.size w w' := by
  obtain ⟨i0, hi, hz0, hz1, hz2⟩ := info_parts info3
  obtain ⟨len, hlen⟩ : ∃ n, n = T.length := ⟨_, rfl⟩
  rw [← hlen] at hl ⊢
  have HL := Lib.hid hlen
  have HT := Lib.hid hT
  have HD := Lib.hid hd
  have HI := Lib.hid (show ∀ i, i < T.length → ∀ k, k ∈ keys4 (T! T i) → I64 k.1 ∧ I64 k.2.1 ∧ I64 k.2.2 from fun i hi k hk => keys4_in (hI i hi) hk)
  have hmm := @run_makeMap Try.prog
  clear hlen hT hd hI
  go_enter Try.func70, Try.ntmps70
  have HM0 := Lib.hid (show MapIs triFam ((((w.alloc (.cells #[.int .i64 N, .slice ao len cap] 24)).alloc (.map #[] 0)).alloc (.map #[] 0))) (w.heap.size + 1) 0 (fun _ => none) from by
    have h := MapIs.made (F := triFam) (w.alloc (.cells #[.int .i64 N, .slice ao len cap] 24))
    have e : (w.alloc (.cells #[.int .i64 N, .slice ao len cap] 24)).heap.size = w.heap.size + 1 := by simp
    rw [e] at h
    exact h.below (Nat.le_refl _) ((Below.refl _ _).alloc (Nat.le_refl _) _))
  have HB0 := Lib.hid (show Below (w.heap.size + 1) (w.alloc (.cells #[.int .i64 N, .slice ao len cap] 24)) ((((w.alloc (.cells #[.int .i64 N, .slice ao len cap] 24)).alloc (.map #[] 0)).alloc (.map #[] 0))) from
    ((Below.refl _ _).alloc (by simp) _).alloc (by simp) _)
  go_wp2
  go_loopw [22, 7] (fun i v ws => ∃ (k n : Nat) (C : Ky → Option Value), k ≤ len ∧ i = .int .i64 k ∧ v = .slice none 0 0 ∧ MapIs triFam ws (w.heap.size + 1) n C ∧ (∀ (i p : Nat) (a : Ky), k ≤ i → i < len → (keys4 (T! T i))[p]? = some a → C a = none) ∧
      Below (w.heap.size + 1) (w.alloc (.cells #[.int .i64 N, .slice ao len cap] 24)) ws) (fun i _ _ => len - (intOf i).toNat)
  case atStart => exact ⟨0, 0, _, by omega, rfl, rfl, HM0.out, fun _ _ _ _ _ _ => rfl, HB0.out⟩
  case round =>
    clear HM0 HB0
    obtain ⟨k, n, C, hk, rfl, rfl, hm, hno, hb⟩ := hrel
    obtain ⟨hc0, hc1, hbw, hsz⟩ := box_soup hb
    have HM := Lib.hid hm
    have HN := Lib.hid hno
    have HB := Lib.hid hb
    obtain ⟨W1, rfl⟩ : ∃ W1 : World, W1 = wr := ⟨_, rfl⟩
    by_cases hlt : k < len
    · obtain ⟨b, off, x, y, z, rfl, ht, g0, g1, g2, hbs, hbs'⟩ := HT.out.get (Nat.le_refl _) hbw (i := k) (by have := HL.out; omega)
      clear hb hbw hbs hm hno
      go_wp2_with fail
      refine (mirrored_keys x y z _).mono ?_
      rintro e w2 ⟨g, rfl, hg, hrow, hb2⟩
      have H2 := Lib.hid (show Below W1.heap.size W1 w2 from ((Below.refl _ _).alloc (Nat.le_refl _) (.cells #[.int .i64 x, .int .i64 y, .int .i64 z] 42)).trans (hb2.mono (by simp)))
      have HM2 := Lib.hid (HM.out.below (Nat.le_refl _) H2.out)
      have HB2 := Lib.hid (below_more HB.out H2.out (by omega))
      have HR2 := Lib.hid hrow
      have HG2 := Lib.hid hrow.lt
      have hgB : w.heap.size + 1 < g := by have := HM.out.lt; simp at hg; omega
      clear hb2 hrow H2 HM hg g0 g1 g2
      obtain ⟨W2, rfl⟩ : ∃ W2 : World, W2 = w2 := ⟨_, rfl⟩
      go_wp2
      clear hc0 hc1
      go_loopw [31, 7] (fun i v ws => ∃ (p n : Nat) (C : Ky → Option Value), p ≤ 1 ∧ i = .int .i64 p ∧ v = .slice none 0 0 ∧ MapIs triFam ws (w.heap.size + 1) n C ∧
          (∀ (i q : Nat) (a : Ky), k ≤ i → i < len → (i = k → p ≤ q) → (keys4 (T! T i))[q]? = some a → C a = none) ∧ RowIs ws g 41 (kcells (keys4 (x, y, z))) ∧
          Below (w.heap.size + 1) (w.alloc (.cells #[.int .i64 N, .slice (some ⟨b, off, none⟩) len cap] 24)) ws) (fun i _ _ => 1 - (intOf i).toNat)
      case atStart => exact ⟨0, n, C, by omega, rfl, rfl, HM2.out, fun i q a h1 h2 _ h3 => HN.out i q a h1 h2 h3, HR2.out, HB2.out⟩
      case round =>
        clear HM2 HB2 HR2 HN HB
        obtain ⟨p, n, C, hp, rfl, rfl, hm, hno, hrow, hb⟩ := hrel
        obtain ⟨hc0, hc1, hbw, hsz'⟩ := box_soup hb
        clear hc0 hc1
        by_cases hp3 : p < 1
        · obtain ⟨ky, hky⟩ : ∃ ky, (keys4 (x, y, z))[p]? = some ky := ⟨_, List.getElem?_eq_getElem hp3⟩
          obtain ⟨c0, c1, c2⟩ := kcells_get (L := keys4 (x, y, z)) hky
          have hk0 := hrow.cell c0
          have hk1 := hrow.cell c1
          have hk2 := hrow.cell c2
          have hCk : C ky = none := hno k p ky (Nat.le_refl _) hlt (fun _ => Nat.le_refl _) (by rw [ht.out]; exact hky)
          have hok : triFam.ok ky := HI.out k (by have := HL.out; omega) ky (by rw [ht.out]; exact List.mem_of_getElem? hky)
          have HNO := Lib.hid (show ∀ v, ∀ (i q : Nat) (a : Ky), k ≤ i → i < len → (i = k → p + 1 ≤ q) → (keys4 (T! T i))[q]? = some a → (if a = ky then some v else C a) = none from fun v i q a h1 h2 h3 h4 => by
            have hne : a ≠ ky := fun e => by
              have := HD.out i k q p a (by have := HL.out; omega) (by have := HL.out; omega) h4 (by rw [ht.out, hky, e])
              have h5 := h3 this.1
              omega
            rw [if_neg hne]
            exact hno i q a h1 h2 (fun e => by have := h3 e; omega) h4)
          obtain ⟨a1, a2, a3⟩ := ky
          have hlk := fun (W : World) (e : W.heap[w.heap.size + 1]? = wr.heap[w.heap.size + 1]?) => (hm.same e).look 116 25 (by kernel_rfl) zero_ints (a1, a2, a3) hok false
          have hmlt := hm.lt
          have hk3 := hlk (wr.alloc (.cells #[.int .i64 a1, .int .i64 a2, .int .i64 a3] 41)) (Below.heap_alloc _ _ _ hmlt)
          rw [hCk] at hk3
          simp only [triFam, Option.getD_none, Bool.false_eq_true, if_false] at hk3
          obtain ⟨w3, cl, hent, hfr, hg3⟩ := ((hm.below (Nat.le_refl _) ((Below.refl _ _).alloc (Nat.le_refl _) (.cells #[.int .i64 a1, .int .i64 a2, .int .i64 a3] 41))).below (Nat.le_refl _) ((Below.refl _ _).alloc (Nat.le_refl _) (.cells #[.int .i64 k] 3))).entry 116 25 (by kernel_rfl) zero_ints (a1, a2, a3) hok hCk
          simp only [triFam] at hent
          have HB3 := Lib.hid (((hb.alloc (by omega) (.cells #[.int .i64 a1, .int .i64 a2, .int .i64 a3] 41)).alloc (by simp; omega) (.cells #[.int .i64 k] 3)).grown hg3 (by simp; omega) (by intro q hq; cases hq; omega))
          have HR3 := Lib.hid (((hrow.alloc (.cells #[.int .i64 a1, .int .i64 a2, .int .i64 a3] 41)).alloc (.cells #[.int .i64 k] 3)).grown hg3 (by simp; omega))
          have hcell3 : w3.cell? ⟨wr.heap.size + 1, 0, none⟩ = some (.int .i64 k) := by
            have h1 := RowIs.made (wr.alloc (.cells #[.int .i64 a1, .int .i64 a2, .int .i64 a3] 41)) 3 [.int .i64 (k : Int)]
            have h2 := h1.grown hg3 (by simp; omega)
            have := h2.cell (i := 0) rfl
            simpa using this
          have HF := Lib.hid hfr
          have hs3 := hg3.size
          simp at hs3
          clear hm hno hrow hb hfr hg3 hlk hbw hCk
          go_wp2
          refine wp_loop_once ?_
          clear hk3
          go_wp2_with (at_builtin; refine wpList_append_own _ rfl _ _ 25 rfl (w.heap.size + 2) 3 i0 (.int .i64 0) 1 8 (by kernel_rfl) hi hz0 hz1 hz2 rfl (by decide) _ _ _ rfl (World.ownsRow_nil _ _ _ _) ⟨wr.heap.size + 1, 0, none⟩ 1 1 [.int .i64 (k : Int)] rfl rfl ?c1 ?c2 ?c3 ?c4 ?c5 ?_)
          case c1 =>
            intro j u hj
            match j, hj with
            | 0, hj => simp at hj; subst hj; exact hcell3
          case c2 => intro u hu; simp at hu; subst hu; rfl
          case c3 => decide
          case c4 => decide
          case c5 => omega
          intro v' w4 hown4 hgr4 _
          have hF4 := HF.out.same (w' := w4) (hgr4.block _ HF.out.lt (by simp [Value.ownBlock]))
          obtain ⟨w5, hst, hm5, hg5⟩ := hF4.store 116 v'
          have HM5 := Lib.hid hm5
          have HB5 := Lib.hid ((HB3.out.grown hgr4 (by have := HB3.out.size; simp at this; omega) (by simp [Value.ownBlock])).grown hg5 (by have := HB3.out.size; have := hgr4.size; simp at *; omega) (by intro q hq; cases hq; omega))
          have HR5 := Lib.hid ((HR3.out.grown hgr4 (by simp [Value.ownBlock])).grown hg5 (by simp; omega))
          clear hown4 hgr4 hF4 hm5 hg5 hent hcell3 hk0 hk1 hk2
          go_wp2
          go_roundw
          case rel => exact ⟨p + 1, _, _, by omega, by go_num, rfl, HM5.out, HNO.out v', HR5.out, HB5.out⟩
          case measure => simp [intOf]; omega
        · obtain rfl : p = 1 := by omega
          have HM := Lib.hid hm
          have HN := Lib.hid (show ∀ (i q : Nat) (a : Ky), k + 1 ≤ i → i < len → (keys4 (T! T i))[q]? = some a → C a = none from fun i q a h1 h2 h3 => hno i q a (by omega) h2 (fun e => by omega) h3)
          have HB := Lib.hid hb
          clear hm hno hb hrow hbw
          go_wp2
          go_roundw
          case rel => exact ⟨k + 1, n, C, by omega, by go_num, rfl, HM.out, HN.out, HB.out⟩
          case measure => simp [intOf]; omega
    · have HBw := Lib.hid hbw
      clear hb hbw hm hno
      go_wp2
      go_ret
      exact ⟨rfl, HBw.out⟩
end Go.Proofs.Ytknioobpoieohaa

/- certify.pairs with the keys of certify.twice, and of certify.mirrored: something is told just if two keys are like. certify.twice, mirrored, All, Check, Is: of any triangles: nothing is told just of a surface. -/
import Derived.Test.YtkjamheoihlekaaGreatPairsLaw
import Derived.Maps.AppendAt
import Derived.Deep.DeepCutAuto
import Derived.Test.YtkjamheoihlekaaGreatCertAny1
namespace Go.Proofs.YtkjamheoihlekaaGreat
set_option linter.unusedVariables false
set_option linter.unusedSimpArgs false
open Go.RowKit Go.Maps
open Go.RowKit
theorem keys3_len (T : List Tr) (k : Nat) : (KL keys3 T k).length = 3 * k := by
  induction k with
  | zero => rfl
  | succ k ih => rw [KL_succ, List.length_append, ih]; simp [keys3]; omega
theorem keys4_len (T : List Tr) (k : Nat) : (KL keys4 T k).length = 1 * k := by
  induction k with
  | zero => rfl
  | succ k ih => rw [KL_succ, List.length_append, ih]; simp [keys4]

set_option maxRecDepth 100000 in
set_option maxHeartbeats 4000000 in
theorem cpairs3 (N : Int) (ao : Option Addr) (cap : Nat) (T : List Tr) (w : World) (hT : TrisAt w ao T) (hl : T.length ≤ 8192) (hI : ∀ i, i < T.length → ∀ j, I64 (tg (T! T i) j)) :
    Calls Tryz.prog 156 #[.agg #[.int .i64 N, .slice ao T.length cap], .int .i64 3, .func (.func 157) #[] #[]] w (WitPost w 3 (KeysApart T keys3)) := by
  obtain ⟨i0, hi, hz0, hz1, hz2⟩ := info_parts info3
  obtain ⟨u0, gi, gz0, gz1, gz2⟩ := info_parts infoWit
  obtain ⟨len, hlen⟩ : ∃ n, n = T.length := ⟨_, rfl⟩
  rw [← hlen] at hl ⊢
  have HL := Lib.hid hlen
  have HT := Lib.hid hT
  have HI := Lib.hid (show ∀ i, i < T.length → ∀ k, k ∈ keys3 (T! T i) → I64 k.1 ∧ I64 k.2.1 ∧ I64 k.2.2 from fun i hi k hk => keys3_in (hI i hi) hk)
  have HKL := Lib.hid (show ∀ k, (KL keys3 T k).length = 3 * k from keys3_len T)
  have hmm := @run_makeMap Tryz.prog
  clear hlen hT hI
  go_enter Tryz.func156, Tryz.ntmps156
  have HM0 := Lib.hid (show MapB triFam ((((w.alloc (.cells #[.int .i64 N, .slice ao len cap] 24)).alloc (.map #[] 0)).alloc (.map #[] 0))) (w.heap.size + 1) 0 (fun _ => none) from by
    have h := MapB.made (F := triFam) (w.alloc (.cells #[.int .i64 N, .slice ao len cap] 24))
    have e : (w.alloc (.cells #[.int .i64 N, .slice ao len cap] 24)).heap.size = w.heap.size + 1 := by simp
    rw [e] at h
    exact h.below (Nat.le_refl _) ((Below.refl _ _).alloc (Nat.le_refl _) _))
  have HS0 := Lib.hid (show Seen ((((w.alloc (.cells #[.int .i64 N, .slice ao len cap] 24)).alloc (.map #[] 0)).alloc (.map #[] 0))) (w.heap.size + 2) [] from by
    have h := MapIs.made (F := pairFam) ((w.alloc (.cells #[.int .i64 N, .slice ao len cap] 24)).alloc (.map #[] 0))
    have e : ((w.alloc (.cells #[.int .i64 N, .slice ao len cap] 24)).alloc (.map #[] 0)).heap.size = w.heap.size + 2 := by simp
    rw [e] at h
    exact ⟨0, _, h, fun _ _ => rfl, fun a v h => by cases h⟩)
  have HB0 := Lib.hid (show Below (w.heap.size + 1) (w.alloc (.cells #[.int .i64 N, .slice ao len cap] 24)) ((((w.alloc (.cells #[.int .i64 N, .slice ao len cap] 24)).alloc (.map #[] 0)).alloc (.map #[] 0))) from
    ((Below.refl _ _).alloc (by simp) _).alloc (by simp) _)
  go_wp2
  go_loopw [22, 7] (fun i v ws => ∃ (k n : Nat) (C : Ky → Option Value) (E : Ky → List Nat) (L : List Ky), k ≤ len ∧ i = .int .i64 k ∧ MapB triFam ws (w.heap.size + 1) n C ∧ Fam ws (w.heap.size + 3) (fun x => (C x).getD (.slice none 0 0)) E ∧
      PairSt (KL keys3 T k) k E L ∧ Seen ws (w.heap.size + 2) L ∧ WitRow ws (w.heap.size + 3) v 3 L ∧ L.length ≤ 24576 * (3 * k) ∧
      Below (w.heap.size + 1) (w.alloc (.cells #[.int .i64 N, .slice ao len cap] 24)) ws) (fun i _ _ => len - (intOf i).toNat)
  case atStart => exact ⟨0, 0, _, _, [], by omega, rfl, HM0.out, Fam.nil _ _, PairSt.start _ (fun _ => rfl), HS0.out, WitRow.nil _ _ _, by simp, HB0.out⟩
  case round =>
    clear HM0 HB0 HS0
    obtain ⟨k, n, C, E, L, hk, rfl, hm, hfam, hst, hseen, hwit, hLl, hb⟩ := hrel
    obtain ⟨hc0, hc1, hbw, hsz⟩ := box_soup hb
    have HM := Lib.hid hm
    have HF := Lib.hid hfam
    have HST := Lib.hid hst
    have HSE := Lib.hid hseen
    have HWI := Lib.hid hwit
    have HB := Lib.hid hb
    obtain ⟨W1, rfl⟩ : ∃ W1 : World, W1 = wr := ⟨_, rfl⟩
    by_cases hlt : k < len
    · obtain ⟨b, off, x, y, z, rfl, ht, g0, g1, g2, hbs, hbs'⟩ := HT.out.get (Nat.le_refl _) hbw (i := k) (by have := HL.out; omega)
      clear hb hbw hbs hm hfam hst hseen hwit
      go_wp2_with fail
      refine (twice_keys x y z _).mono ?_
      rintro e w2 ⟨g, rfl, hg, hrow, hb2⟩
      have H2 := Lib.hid (show Below W1.heap.size W1 w2 from ((Below.refl _ _).alloc (Nat.le_refl _) (.cells #[.int .i64 x, .int .i64 y, .int .i64 z] 72)).trans (hb2.mono (by simp)))
      have HM2 := Lib.hid (HM.out.below (Nat.le_refl _) H2.out)
      have HF2 := Lib.hid (HF.out.more H2.out)
      have HSE2 := Lib.hid (HSE.out.below H2.out)
      have HWI2 := Lib.hid (HWI.out.below H2.out)
      have HB2 := Lib.hid (below_more HB.out H2.out (by omega))
      have HR2 := Lib.hid hrow
      have hgB : w.heap.size + 2 < g := by obtain ⟨_, _, h3, -⟩ := HSE.out; have := h3.lt; simp at hg; omega
      clear hb2 hrow H2 HM HF HSE HWI hg g0 g1 g2 hc0 hc1
      obtain ⟨W2, rfl⟩ : ∃ W2 : World, W2 = w2 := ⟨_, rfl⟩
      go_wp2
      go_loopw [31, 7] (fun i v ws => ∃ (p n : Nat) (C : Ky → Option Value) (E : Ky → List Nat) (L : List Ky), p ≤ 3 ∧ i = .int .i64 p ∧ MapB triFam ws (w.heap.size + 1) n C ∧ Fam ws (w.heap.size + 3) (fun x => (C x).getD (.slice none 0 0)) E ∧
          PairSt (KL keys3 T k ++ (keys3 (x, y, z)).take p) k E L ∧ Seen ws (w.heap.size + 2) L ∧ WitRow ws (w.heap.size + 3) v 3 L ∧ L.length ≤ 24576 * (3 * k + p) ∧ RowIs ws g 71 (kcells (keys3 (x, y, z))) ∧
          Below (w.heap.size + 1) (w.alloc (.cells #[.int .i64 N, .slice (some ⟨b, off, none⟩) len cap] 24)) ws) (fun i _ _ => 3 - (intOf i).toNat)
      case atStart => exact ⟨0, n, C, E, L, by omega, rfl, HM2.out, HF2.out, by simpa using HST.out, HSE2.out, HWI2.out, by omega, HR2.out, HB2.out⟩
      case round =>
        clear HM2 HB2 HR2 HF2 HSE2 HWI2 HST HB
        obtain ⟨p, n, C, E, L, hp, rfl, hm, hfam, hst, hseen, hwit, hLl, hrow, hb⟩ := hrel
        by_cases hp3 : p < 3
        · obtain ⟨ky, hky⟩ : ∃ ky, (keys3 (x, y, z))[p]? = some ky := ⟨_, List.getElem?_eq_getElem hp3⟩
          obtain ⟨c0, c1, c2⟩ := kcells_get (L := keys3 (x, y, z)) hky
          have hk0 := hrow.cell c0
          have hk1 := hrow.cell c1
          have hk2 := hrow.cell c2
          have hok : triFam.ok ky := HI.out k (by have := HL.out; omega) ky (by rw [ht.out]; exact List.mem_of_getElem? hky)
          obtain ⟨ks, hks⟩ : ∃ q, q = KL keys3 T k ++ (keys3 (x, y, z)).take p := ⟨_, rfl⟩
          have hksl : ks.length = 3 * k + p := by rw [hks, List.length_append, HKL.out, List.length_take]; have : (keys3 (x, y, z)).length = 3 := rfl; omega
          have HKS := Lib.hid (show ks ++ [ky] = KL keys3 T k ++ (keys3 (x, y, z)).take (p + 1) from by
            rw [hks, List.take_add_one, hky]; simp)
          rw [← hks] at hst
          obtain ⟨a1, a2, a3⟩ := ky
          obtain ⟨va, vc, hve⟩ := owns_slice hwit.1
          subst hve
          obtain ⟨I, hIe⟩ : ∃ I, I = E (a1, a2, a3) := ⟨_, rfl⟩
          have hIlen : I.length ≤ 24576 := by rw [hIe]; have := hst.len (a1, a2, a3); omega
          have HIlt := Lib.hid (show ∀ x, x ∈ I → x ≤ k from fun q hq => hst.lt _ q (by rw [← hIe]; exact hq))
          have hown := hfam.1 (a1, a2, a3)
          obtain ⟨vu, hvu⟩ : ∃ vu, (C (a1, a2, a3)).getD (.slice none 0 0) = vu := ⟨_, rfl⟩
          simp only [hvu] at hown
          rw [← hIe] at hown
          obtain ⟨au, cu, hvs⟩ := owns_slice hown
          have hlk := fun (W : World) (e : W.heap[w.heap.size + 1]? = wr.heap[w.heap.size + 1]?) => (hm.same e).to.look 191 28 (by kernel_rfl) zero_ints (a1, a2, a3) hok false
          have hmlt := hm.lt
          have hk3 := hlk (wr.alloc (.cells #[.int .i64 a1, .int .i64 a2, .int .i64 a3] 71)) (Below.heap_alloc _ _ _ hmlt)
          simp only [triFam, Bool.false_eq_true, if_false] at hk3
          rw [hvu, hvs] at hk3
          obtain ⟨X, hX⟩ : ∃ X, X = wr.alloc (.cells #[.int .i64 a1, .int .i64 a2, .int .i64 a3] 71) := ⟨_, rfl⟩
          have hXb : Below wr.heap.size wr X := by rw [hX]; exact (Below.refl _ _).alloc (Nat.le_refl _) _
          obtain ⟨gk, hgk⟩ : ∃ q, q = wr.heap.size := ⟨_, rfl⟩
          have HRK := Lib.hid (show RowIs X gk 71 [.int .i64 a1, .int .i64 a2, .int .i64 a3] from by rw [hX, hgk]; exact RowIs.made wr _ [_, _, _])
          have hgkb : w.heap.size + 2 < gk := by have := hseen.lt; omega
          have HPX := Lib.hid (show PBox (w.alloc (.cells #[.int .i64 N, .slice (some ⟨b, off, none⟩) len cap] 24)) (w.heap.size + 1) n C E g gk (kcells (keys3 (x, y, z))) [.int .i64 a1, .int .i64 a2, .int .i64 a3] 3 (.slice va L.length vc) L X from
            ⟨hm.below (Nat.le_refl _) hXb, hfam.more hXb, hseen.below hXb, hwit.below hXb, hrow.after hXb, HRK.out, ⟨hgB, hgkb⟩, below_more hb hXb (Nat.le_of_lt hm.lt)⟩)
          have HST := Lib.hid hst
          have HIE := Lib.hid hIe
          have HVU := Lib.hid (hvu.trans hvs)
          have HX := Lib.hid hX
          have HGK := Lib.hid hgk
          clear hm hfam hst hseen hwit hrow hb hown hlk hmlt hXb hks hvu hIe hvs hX hgk HRK
          go_upto_region 11 with fail
          rw [← HGK.out, ← HX.out]
          go_loopw [39, 7] (fun i v ws => ∃ (j : Nat) (L' : List Ky), j ≤ I.length ∧ i = .int .i64 j ∧ PBox (w.alloc (.cells #[.int .i64 N, .slice (some ⟨b, off, none⟩) len cap] 24)) (w.heap.size + 1) n C E g gk (kcells (keys3 (x, y, z))) [.int .i64 a1, .int .i64 a2, .int .i64 a3] 3 v L' ws ∧
              L'.length ≤ L.length + j ∧ (L' = [] ↔ L = [] ∧ j = 0)) (fun i _ _ => I.length - (intOf i).toNat)
          case atStart => exact ⟨0, L, by omega, rfl, HPX.out, by omega, by simp⟩
          case round =>
            clear HPX
            obtain ⟨j, L', hj, rfl, hbox, hLl', hL'⟩ := hrel
            obtain ⟨X, rfl⟩ : ∃ X : World, X = wr := ⟨_, rfl⟩
            have HLL := Lib.hid hL'
            by_cases hjl : j < I.length
            · obtain ⟨q, hq⟩ : ∃ q, I[j]? = some q := ⟨_, List.getElem?_eq_getElem hjl⟩
              have hown := hbox.fam.1 (a1, a2, a3)
              simp only [HVU.out] at hown
              rw [← HIE.out] at hown
              obtain ⟨ga, ca, hve, hga, hgs, -, -, hcell, -⟩ := owns_block hown (by omega)
              cases hve
              have hqc := hcell j _ (nv_get hq)
              have hqk := HIlt.out q (List.mem_of_getElem? hq)
              have hq64 : I64 (q : Int) := ⟨by omega, by omega⟩
              have hk64 : I64 (k : Int) := ⟨by omega, by omega⟩
              have hask := (hbox.below ((Below.refl _ _).alloc (Nat.le_refl _) (.cells #[.int .i64 (q : Int), .int .i64 (k : Int)] 39))).ask (q : Int) (k : Int) hq64 hk64
              have HBX := Lib.hid (hbox.below ((Below.refl _ _).alloc (Nat.le_refl _) (.cells #[.int .i64 (q : Int), .int .i64 (k : Int)] 39)))
              clear hown hcell hq hbox hL'
              rcases hask with ⟨hlk, hne⟩ | ⟨hlk, w4, hst, hsee, hg4⟩
              · clear hk0 hk1 hk2
                go_wp2
                go_roundw
                case rel => exact ⟨j + 1, L', by omega, by go_num, HBX.out, by omega, by constructor <;> intro h <;> first | exact absurd h hne | omega⟩
                case measure => simp [intOf]; omega
              · have HSEE := Lib.hid hsee
                have HG4 := Lib.hid hg4
                have HW4 := Lib.hid (owns_low HBX.out.wit.1 hg4 (by omega))
                have hw4s : w.heap.size + 3 ≤ w4.heap.size := by have := HBX.out.key.lt; have := HBX.out.far.2; have := hg4.size; omega
                have HFAR := Lib.hid HBX.out.far
                clear hsee hg4 hk0 hk1 hk2
                go_wp2_with (at_builtin; refine wpList_append_new _ rfl _ _ 132 rfl (w.heap.size + 3) 55 u0 _ 3 24 (by kernel_rfl) gi gz0 gz1 gz2 rfl (by decide) _ _ _ rfl HW4.out _ _ _ rfl (by first | rfl | simp) rfl ?_ ?_ ?_ ?_ ?_)
                all_goals first | rfl | omega | (unfold maxLen; omega) | exact ⟨rfl, rfl⟩ | exact ⟨rfl, rfl, rfl⟩ | skip
                · intro v' w5 hown5 hbel hgr
                  have HB5 := Lib.hid (HBX.out.tell HG4.out HSEE.out _ v' (q : Int) (k : Int) hown5 hgr)
                  clear hown5 hbel hgr hlk hst
                  go_wp2
                  go_roundw
                  case rel => exact ⟨j + 1, L' ++ [(3, (q : Int), (k : Int))], by omega, by go_num, HB5.out, by simp; omega, by simp⟩
                  case measure => simp [intOf]; omega
            · obtain rfl : j = I.length := by omega
              obtain ⟨w3, cl, hent, hg3, nn, hheld⟩ := (hbox.below ((Below.refl _ _).alloc (Nat.le_refl _) (.cells #[.int .i64 (k : Int)] 3))).take (a1, a2, a3) hok
              have HBY := Lib.hid (hbox.below ((Below.refl _ _).alloc (Nat.le_refl _) (.cells #[.int .i64 (k : Int)] 3)))
              have ho3 := (HBY.out.fam.other hg3 (by omega)).1 (a1, a2, a3)
              simp only [HVU.out] at ho3 hent
              have hE := HIE.out
              have HO3 := Lib.hid ho3
              have hEl : (E (a1, a2, a3)).length = I.length := by rw [← hE]
              have hcell3 : w3.cell? ⟨X.heap.size, 0, none⟩ = some (.int .i64 k) := by
                have h1 := RowIs.made X 3 [.int .i64 (k : Int)]
                have h2 := h1.grown hg3 (by have := hbox.had.lt; simp; omega)
                exact h2.cell (i := 0) rfl
              have hc0 := hbox.key.cell (i := 0) rfl
              have hc1 := hbox.key.cell (i := 1) rfl
              have hc2 := hbox.key.cell (i := 2) rfl
              have h3s : w.heap.size + 3 ≤ w3.heap.size := by have := HBY.out.key.lt; have := HBY.out.far.2; have := hg3.size; omega
              have HG3 := Lib.hid hg3
              have HH3 := Lib.hid hheld
              clear hbox hg3 hheld ho3 hE hL' hk0 hk1 hk2
              go_wp2_with (at_builtin; refine wpList_append_own_at _ rfl _ _ 28 rfl (w.heap.size + 3) 3 i0 (.int .i64 0) 1 8 (by kernel_rfl) hi hz0 hz1 hz2 rfl (by decide) _ _ _ rfl HO3.out ⟨X.heap.size, 0, none⟩ 1 1 [.int .i64 (k : Int)] rfl rfl ?c1 ?c2 ?c3 ?c4 ?c5 ?_)
              case c1 =>
                intro j u hj
                match j, hj with
                | 0, hj => simp at hj; subst hj; exact hcell3
              case c2 => intro u hu; simp at hu; subst hu; rfl
              case c3 => unfold maxLen; omega
              case c4 => omega
              case c5 => omega
              intro v' w4 hown4 hgr4 _ hat4
              obtain ⟨w5, hst, hbox5⟩ := HBY.out.put (a1, a2, a3) (k := k) HG3.out HH3.out v' (by rw [hEl]; exact hown4) (by rw [HVU.out]; exact hgr4) (by rw [HVU.out]; exact hat4)
              have HB5 := Lib.hid hbox5
              have HST5 := Lib.hid (show PairSt (KL keys3 T k ++ (keys3 (x, y, z)).take (p + 1)) k (fun b => if b = (a1, a2, a3) then E (a1, a2, a3) ++ [k] else E b) L' from by
                rw [← HKS.out]
                exact HST.out.push (a1, a2, a3) (by
                  rw [HLL.out, ← HIE.out]
                  simp))
              clear hown4 hgr4 hat4 hbox5 hent hcell3 hc0 hc1 hc2
              go_wp2
              go_roundw
              case rel => exact ⟨p + 1, _, _, _, L', by omega, by go_num, HB5.out.had, HB5.out.fam, HST5.out, HB5.out.seen, HB5.out.wit, by omega, HB5.out.row, HB5.out.bel⟩
              case measure => simp [intOf]; omega
        · obtain rfl : p = 3 := by omega
          have HM := Lib.hid hm
          have HF := Lib.hid hfam
          have HST := Lib.hid (show PairSt (KL keys3 T (k + 1)) (k + 1) E L from by
            rw [KL_succ, ht.out]
            have := hst.up
            rwa [List.take_of_length_le (by simp [keys3])] at this)
          have HSE := Lib.hid hseen
          have HWI := Lib.hid hwit
          have HB := Lib.hid hb
          clear hm hfam hst hseen hwit hb hrow
          go_wp2
          go_roundw
          case rel => exact ⟨k + 1, n, C, E, L, by omega, by go_num, HM.out, HF.out, HST.out, HSE.out, HWI.out, by omega, HB.out⟩
          case measure => simp [intOf]; omega
    · obtain rfl : k = len := by omega
      have HP := Lib.hid (show L = [] ↔ KeysApart T keys3 from by
        have h1 := hst.told
        rw [HL.out] at h1
        exact h1.trans ⟨KL_apart, KL_nodup⟩)
      obtain ⟨va, vc, hve⟩ := owns_slice hwit.1
      subst hve
      have HWw := Lib.hid (show WitRow W1 w.heap.size (.slice va L.length vc) 3 L from ⟨owns_base hwit.1 (by omega), hwit.2⟩)
      have HBw := Lib.hid hbw
      clear hb hbw hm hfam hst hseen hwit
      go_wp2
      go_ret
      exact ⟨_, L, rfl, HWw.out, by omega, HP.out, HBw.out⟩

set_option maxRecDepth 100000 in
set_option maxHeartbeats 4000000 in
theorem cpairs4 (N : Int) (ao : Option Addr) (cap : Nat) (T : List Tr) (w : World) (hT : TrisAt w ao T) (hl : T.length ≤ 8192) (hI : ∀ i, i < T.length → ∀ j, I64 (tg (T! T i) j)) :
    Calls Tryz.prog 156 #[.agg #[.int .i64 N, .slice ao T.length cap], .int .i64 4, .func (.func 158) #[] #[]] w (WitPost w 4 (KeysApart T keys4)) := by
  obtain ⟨i0, hi, hz0, hz1, hz2⟩ := info_parts info3
  obtain ⟨u0, gi, gz0, gz1, gz2⟩ := info_parts infoWit
  obtain ⟨len, hlen⟩ : ∃ n, n = T.length := ⟨_, rfl⟩
  rw [← hlen] at hl ⊢
  have HL := Lib.hid hlen
  have HT := Lib.hid hT
  have HI := Lib.hid (show ∀ i, i < T.length → ∀ k, k ∈ keys4 (T! T i) → I64 k.1 ∧ I64 k.2.1 ∧ I64 k.2.2 from fun i hi k hk => keys4_in (hI i hi) hk)
  have HKL := Lib.hid (show ∀ k, (KL keys4 T k).length = 1 * k from keys4_len T)
  have hmm := @run_makeMap Tryz.prog
  clear hlen hT hI
  go_enter Tryz.func156, Tryz.ntmps156
  have HM0 := Lib.hid (show MapB triFam ((((w.alloc (.cells #[.int .i64 N, .slice ao len cap] 24)).alloc (.map #[] 0)).alloc (.map #[] 0))) (w.heap.size + 1) 0 (fun _ => none) from by
    have h := MapB.made (F := triFam) (w.alloc (.cells #[.int .i64 N, .slice ao len cap] 24))
    have e : (w.alloc (.cells #[.int .i64 N, .slice ao len cap] 24)).heap.size = w.heap.size + 1 := by simp
    rw [e] at h
    exact h.below (Nat.le_refl _) ((Below.refl _ _).alloc (Nat.le_refl _) _))
  have HS0 := Lib.hid (show Seen ((((w.alloc (.cells #[.int .i64 N, .slice ao len cap] 24)).alloc (.map #[] 0)).alloc (.map #[] 0))) (w.heap.size + 2) [] from by
    have h := MapIs.made (F := pairFam) ((w.alloc (.cells #[.int .i64 N, .slice ao len cap] 24)).alloc (.map #[] 0))
    have e : ((w.alloc (.cells #[.int .i64 N, .slice ao len cap] 24)).alloc (.map #[] 0)).heap.size = w.heap.size + 2 := by simp
    rw [e] at h
    exact ⟨0, _, h, fun _ _ => rfl, fun a v h => by cases h⟩)
  have HB0 := Lib.hid (show Below (w.heap.size + 1) (w.alloc (.cells #[.int .i64 N, .slice ao len cap] 24)) ((((w.alloc (.cells #[.int .i64 N, .slice ao len cap] 24)).alloc (.map #[] 0)).alloc (.map #[] 0))) from
    ((Below.refl _ _).alloc (by simp) _).alloc (by simp) _)
  go_wp2
  go_loopw [22, 7] (fun i v ws => ∃ (k n : Nat) (C : Ky → Option Value) (E : Ky → List Nat) (L : List Ky), k ≤ len ∧ i = .int .i64 k ∧ MapB triFam ws (w.heap.size + 1) n C ∧ Fam ws (w.heap.size + 3) (fun x => (C x).getD (.slice none 0 0)) E ∧
      PairSt (KL keys4 T k) k E L ∧ Seen ws (w.heap.size + 2) L ∧ WitRow ws (w.heap.size + 3) v 4 L ∧ L.length ≤ 24576 * (1 * k) ∧
      Below (w.heap.size + 1) (w.alloc (.cells #[.int .i64 N, .slice ao len cap] 24)) ws) (fun i _ _ => len - (intOf i).toNat)
  case atStart => exact ⟨0, 0, _, _, [], by omega, rfl, HM0.out, Fam.nil _ _, PairSt.start _ (fun _ => rfl), HS0.out, WitRow.nil _ _ _, by simp, HB0.out⟩
  case round =>
    clear HM0 HB0 HS0
    obtain ⟨k, n, C, E, L, hk, rfl, hm, hfam, hst, hseen, hwit, hLl, hb⟩ := hrel
    obtain ⟨hc0, hc1, hbw, hsz⟩ := box_soup hb
    have HM := Lib.hid hm
    have HF := Lib.hid hfam
    have HST := Lib.hid hst
    have HSE := Lib.hid hseen
    have HWI := Lib.hid hwit
    have HB := Lib.hid hb
    obtain ⟨W1, rfl⟩ : ∃ W1 : World, W1 = wr := ⟨_, rfl⟩
    by_cases hlt : k < len
    · obtain ⟨b, off, x, y, z, rfl, ht, g0, g1, g2, hbs, hbs'⟩ := HT.out.get (Nat.le_refl _) hbw (i := k) (by have := HL.out; omega)
      clear hb hbw hbs hm hfam hst hseen hwit
      go_wp2_with fail
      refine (mirrored_keys x y z _).mono ?_
      rintro e w2 ⟨g, rfl, hg, hrow, hb2⟩
      have H2 := Lib.hid (show Below W1.heap.size W1 w2 from ((Below.refl _ _).alloc (Nat.le_refl _) (.cells #[.int .i64 x, .int .i64 y, .int .i64 z] 72)).trans (hb2.mono (by simp)))
      have HM2 := Lib.hid (HM.out.below (Nat.le_refl _) H2.out)
      have HF2 := Lib.hid (HF.out.more H2.out)
      have HSE2 := Lib.hid (HSE.out.below H2.out)
      have HWI2 := Lib.hid (HWI.out.below H2.out)
      have HB2 := Lib.hid (below_more HB.out H2.out (by omega))
      have HR2 := Lib.hid hrow
      have hgB : w.heap.size + 2 < g := by obtain ⟨_, _, h3, -⟩ := HSE.out; have := h3.lt; simp at hg; omega
      clear hb2 hrow H2 HM HF HSE HWI hg g0 g1 g2 hc0 hc1
      obtain ⟨W2, rfl⟩ : ∃ W2 : World, W2 = w2 := ⟨_, rfl⟩
      go_wp2
      go_loopw [31, 7] (fun i v ws => ∃ (p n : Nat) (C : Ky → Option Value) (E : Ky → List Nat) (L : List Ky), p ≤ 1 ∧ i = .int .i64 p ∧ MapB triFam ws (w.heap.size + 1) n C ∧ Fam ws (w.heap.size + 3) (fun x => (C x).getD (.slice none 0 0)) E ∧
          PairSt (KL keys4 T k ++ (keys4 (x, y, z)).take p) k E L ∧ Seen ws (w.heap.size + 2) L ∧ WitRow ws (w.heap.size + 3) v 4 L ∧ L.length ≤ 24576 * (1 * k + p) ∧ RowIs ws g 71 (kcells (keys4 (x, y, z))) ∧
          Below (w.heap.size + 1) (w.alloc (.cells #[.int .i64 N, .slice (some ⟨b, off, none⟩) len cap] 24)) ws) (fun i _ _ => 1 - (intOf i).toNat)
      case atStart => exact ⟨0, n, C, E, L, by omega, rfl, HM2.out, HF2.out, by simpa using HST.out, HSE2.out, HWI2.out, by omega, HR2.out, HB2.out⟩
      case round =>
        clear HM2 HB2 HR2 HF2 HSE2 HWI2 HST HB
        obtain ⟨p, n, C, E, L, hp, rfl, hm, hfam, hst, hseen, hwit, hLl, hrow, hb⟩ := hrel
        by_cases hp3 : p < 1
        · obtain ⟨ky, hky⟩ : ∃ ky, (keys4 (x, y, z))[p]? = some ky := ⟨_, List.getElem?_eq_getElem hp3⟩
          obtain ⟨c0, c1, c2⟩ := kcells_get (L := keys4 (x, y, z)) hky
          have hk0 := hrow.cell c0
          have hk1 := hrow.cell c1
          have hk2 := hrow.cell c2
          have hok : triFam.ok ky := HI.out k (by have := HL.out; omega) ky (by rw [ht.out]; exact List.mem_of_getElem? hky)
          obtain ⟨ks, hks⟩ : ∃ q, q = KL keys4 T k ++ (keys4 (x, y, z)).take p := ⟨_, rfl⟩
          have hksl : ks.length = 1 * k + p := by rw [hks, List.length_append, HKL.out, List.length_take]; have : (keys4 (x, y, z)).length = 1 := rfl; omega
          have HKS := Lib.hid (show ks ++ [ky] = KL keys4 T k ++ (keys4 (x, y, z)).take (p + 1) from by
            rw [hks, List.take_add_one, hky]; simp)
          rw [← hks] at hst
          obtain ⟨a1, a2, a3⟩ := ky
          obtain ⟨va, vc, hve⟩ := owns_slice hwit.1
          subst hve
          obtain ⟨I, hIe⟩ : ∃ I, I = E (a1, a2, a3) := ⟨_, rfl⟩
          have hIlen : I.length ≤ 24576 := by rw [hIe]; have := hst.len (a1, a2, a3); omega
          have HIlt := Lib.hid (show ∀ x, x ∈ I → x ≤ k from fun q hq => hst.lt _ q (by rw [← hIe]; exact hq))
          have hown := hfam.1 (a1, a2, a3)
          obtain ⟨vu, hvu⟩ : ∃ vu, (C (a1, a2, a3)).getD (.slice none 0 0) = vu := ⟨_, rfl⟩
          simp only [hvu] at hown
          rw [← hIe] at hown
          obtain ⟨au, cu, hvs⟩ := owns_slice hown
          have hlk := fun (W : World) (e : W.heap[w.heap.size + 1]? = wr.heap[w.heap.size + 1]?) => (hm.same e).to.look 191 28 (by kernel_rfl) zero_ints (a1, a2, a3) hok false
          have hmlt := hm.lt
          have hk3 := hlk (wr.alloc (.cells #[.int .i64 a1, .int .i64 a2, .int .i64 a3] 71)) (Below.heap_alloc _ _ _ hmlt)
          simp only [triFam, Bool.false_eq_true, if_false] at hk3
          rw [hvu, hvs] at hk3
          obtain ⟨X, hX⟩ : ∃ X, X = wr.alloc (.cells #[.int .i64 a1, .int .i64 a2, .int .i64 a3] 71) := ⟨_, rfl⟩
          have hXb : Below wr.heap.size wr X := by rw [hX]; exact (Below.refl _ _).alloc (Nat.le_refl _) _
          obtain ⟨gk, hgk⟩ : ∃ q, q = wr.heap.size := ⟨_, rfl⟩
          have HRK := Lib.hid (show RowIs X gk 71 [.int .i64 a1, .int .i64 a2, .int .i64 a3] from by rw [hX, hgk]; exact RowIs.made wr _ [_, _, _])
          have hgkb : w.heap.size + 2 < gk := by have := hseen.lt; omega
          have HPX := Lib.hid (show PBox (w.alloc (.cells #[.int .i64 N, .slice (some ⟨b, off, none⟩) len cap] 24)) (w.heap.size + 1) n C E g gk (kcells (keys4 (x, y, z))) [.int .i64 a1, .int .i64 a2, .int .i64 a3] 4 (.slice va L.length vc) L X from
            ⟨hm.below (Nat.le_refl _) hXb, hfam.more hXb, hseen.below hXb, hwit.below hXb, hrow.after hXb, HRK.out, ⟨hgB, hgkb⟩, below_more hb hXb (Nat.le_of_lt hm.lt)⟩)
          have HST := Lib.hid hst
          have HIE := Lib.hid hIe
          have HVU := Lib.hid (hvu.trans hvs)
          have HX := Lib.hid hX
          have HGK := Lib.hid hgk
          clear hm hfam hst hseen hwit hrow hb hown hlk hmlt hXb hks hvu hIe hvs hX hgk HRK
          go_upto_region 11 with fail
          rw [← HGK.out, ← HX.out]
          go_loopw [39, 7] (fun i v ws => ∃ (j : Nat) (L' : List Ky), j ≤ I.length ∧ i = .int .i64 j ∧ PBox (w.alloc (.cells #[.int .i64 N, .slice (some ⟨b, off, none⟩) len cap] 24)) (w.heap.size + 1) n C E g gk (kcells (keys4 (x, y, z))) [.int .i64 a1, .int .i64 a2, .int .i64 a3] 4 v L' ws ∧
              L'.length ≤ L.length + j ∧ (L' = [] ↔ L = [] ∧ j = 0)) (fun i _ _ => I.length - (intOf i).toNat)
          case atStart => exact ⟨0, L, by omega, rfl, HPX.out, by omega, by simp⟩
          case round =>
            clear HPX
            obtain ⟨j, L', hj, rfl, hbox, hLl', hL'⟩ := hrel
            obtain ⟨X, rfl⟩ : ∃ X : World, X = wr := ⟨_, rfl⟩
            have HLL := Lib.hid hL'
            by_cases hjl : j < I.length
            · obtain ⟨q, hq⟩ : ∃ q, I[j]? = some q := ⟨_, List.getElem?_eq_getElem hjl⟩
              have hown := hbox.fam.1 (a1, a2, a3)
              simp only [HVU.out] at hown
              rw [← HIE.out] at hown
              obtain ⟨ga, ca, hve, hga, hgs, -, -, hcell, -⟩ := owns_block hown (by omega)
              cases hve
              have hqc := hcell j _ (nv_get hq)
              have hqk := HIlt.out q (List.mem_of_getElem? hq)
              have hq64 : I64 (q : Int) := ⟨by omega, by omega⟩
              have hk64 : I64 (k : Int) := ⟨by omega, by omega⟩
              have hask := (hbox.below ((Below.refl _ _).alloc (Nat.le_refl _) (.cells #[.int .i64 (q : Int), .int .i64 (k : Int)] 39))).ask (q : Int) (k : Int) hq64 hk64
              have HBX := Lib.hid (hbox.below ((Below.refl _ _).alloc (Nat.le_refl _) (.cells #[.int .i64 (q : Int), .int .i64 (k : Int)] 39)))
              clear hown hcell hq hbox hL'
              rcases hask with ⟨hlk, hne⟩ | ⟨hlk, w4, hst, hsee, hg4⟩
              · clear hk0 hk1 hk2
                go_wp2
                go_roundw
                case rel => exact ⟨j + 1, L', by omega, by go_num, HBX.out, by omega, by constructor <;> intro h <;> first | exact absurd h hne | omega⟩
                case measure => simp [intOf]; omega
              · have HSEE := Lib.hid hsee
                have HG4 := Lib.hid hg4
                have HW4 := Lib.hid (owns_low HBX.out.wit.1 hg4 (by omega))
                have hw4s : w.heap.size + 3 ≤ w4.heap.size := by have := HBX.out.key.lt; have := HBX.out.far.2; have := hg4.size; omega
                have HFAR := Lib.hid HBX.out.far
                clear hsee hg4 hk0 hk1 hk2
                go_wp2_with (at_builtin; refine wpList_append_new _ rfl _ _ 132 rfl (w.heap.size + 3) 55 u0 _ 3 24 (by kernel_rfl) gi gz0 gz1 gz2 rfl (by decide) _ _ _ rfl HW4.out _ _ _ rfl (by first | rfl | simp) rfl ?_ ?_ ?_ ?_ ?_)
                all_goals first | rfl | omega | (unfold maxLen; omega) | exact ⟨rfl, rfl⟩ | exact ⟨rfl, rfl, rfl⟩ | skip
                · intro v' w5 hown5 hbel hgr
                  have HB5 := Lib.hid (HBX.out.tell HG4.out HSEE.out _ v' (q : Int) (k : Int) hown5 hgr)
                  clear hown5 hbel hgr hlk hst
                  go_wp2
                  go_roundw
                  case rel => exact ⟨j + 1, L' ++ [(4, (q : Int), (k : Int))], by omega, by go_num, HB5.out, by simp; omega, by simp⟩
                  case measure => simp [intOf]; omega
            · obtain rfl : j = I.length := by omega
              obtain ⟨w3, cl, hent, hg3, nn, hheld⟩ := (hbox.below ((Below.refl _ _).alloc (Nat.le_refl _) (.cells #[.int .i64 (k : Int)] 3))).take (a1, a2, a3) hok
              have HBY := Lib.hid (hbox.below ((Below.refl _ _).alloc (Nat.le_refl _) (.cells #[.int .i64 (k : Int)] 3)))
              have ho3 := (HBY.out.fam.other hg3 (by omega)).1 (a1, a2, a3)
              simp only [HVU.out] at ho3 hent
              have hE := HIE.out
              have HO3 := Lib.hid ho3
              have hEl : (E (a1, a2, a3)).length = I.length := by rw [← hE]
              have hcell3 : w3.cell? ⟨X.heap.size, 0, none⟩ = some (.int .i64 k) := by
                have h1 := RowIs.made X 3 [.int .i64 (k : Int)]
                have h2 := h1.grown hg3 (by have := hbox.had.lt; simp; omega)
                exact h2.cell (i := 0) rfl
              have hc0 := hbox.key.cell (i := 0) rfl
              have hc1 := hbox.key.cell (i := 1) rfl
              have hc2 := hbox.key.cell (i := 2) rfl
              have h3s : w.heap.size + 3 ≤ w3.heap.size := by have := HBY.out.key.lt; have := HBY.out.far.2; have := hg3.size; omega
              have HG3 := Lib.hid hg3
              have HH3 := Lib.hid hheld
              clear hbox hg3 hheld ho3 hE hL' hk0 hk1 hk2
              go_wp2_with (at_builtin; refine wpList_append_own_at _ rfl _ _ 28 rfl (w.heap.size + 3) 3 i0 (.int .i64 0) 1 8 (by kernel_rfl) hi hz0 hz1 hz2 rfl (by decide) _ _ _ rfl HO3.out ⟨X.heap.size, 0, none⟩ 1 1 [.int .i64 (k : Int)] rfl rfl ?c1 ?c2 ?c3 ?c4 ?c5 ?_)
              case c1 =>
                intro j u hj
                match j, hj with
                | 0, hj => simp at hj; subst hj; exact hcell3
              case c2 => intro u hu; simp at hu; subst hu; rfl
              case c3 => unfold maxLen; omega
              case c4 => omega
              case c5 => omega
              intro v' w4 hown4 hgr4 _ hat4
              obtain ⟨w5, hst, hbox5⟩ := HBY.out.put (a1, a2, a3) (k := k) HG3.out HH3.out v' (by rw [hEl]; exact hown4) (by rw [HVU.out]; exact hgr4) (by rw [HVU.out]; exact hat4)
              have HB5 := Lib.hid hbox5
              have HST5 := Lib.hid (show PairSt (KL keys4 T k ++ (keys4 (x, y, z)).take (p + 1)) k (fun b => if b = (a1, a2, a3) then E (a1, a2, a3) ++ [k] else E b) L' from by
                rw [← HKS.out]
                exact HST.out.push (a1, a2, a3) (by
                  rw [HLL.out, ← HIE.out]
                  simp))
              clear hown4 hgr4 hat4 hbox5 hent hcell3 hc0 hc1 hc2
              go_wp2
              go_roundw
              case rel => exact ⟨p + 1, _, _, _, L', by omega, by go_num, HB5.out.had, HB5.out.fam, HST5.out, HB5.out.seen, HB5.out.wit, by omega, HB5.out.row, HB5.out.bel⟩
              case measure => simp [intOf]; omega
        · obtain rfl : p = 1 := by omega
          have HM := Lib.hid hm
          have HF := Lib.hid hfam
          have HST := Lib.hid (show PairSt (KL keys4 T (k + 1)) (k + 1) E L from by
            rw [KL_succ, ht.out]
            have := hst.up
            rwa [List.take_of_length_le (by simp [keys4])] at this)
          have HSE := Lib.hid hseen
          have HWI := Lib.hid hwit
          have HB := Lib.hid hb
          clear hm hfam hst hseen hwit hb hrow
          go_wp2
          go_roundw
          case rel => exact ⟨k + 1, n, C, E, L, by omega, by go_num, HM.out, HF.out, HST.out, HSE.out, HWI.out, by omega, HB.out⟩
          case measure => simp [intOf]; omega
    · obtain rfl : k = len := by omega
      have HP := Lib.hid (show L = [] ↔ KeysApart T keys4 from by
        have h1 := hst.told
        rw [HL.out] at h1
        exact h1.trans ⟨KL_apart, KL_nodup⟩)
      obtain ⟨va, vc, hve⟩ := owns_slice hwit.1
      subst hve
      have HWw := Lib.hid (show WitRow W1 w.heap.size (.slice va L.length vc) 4 L from ⟨owns_base hwit.1 (by omega), hwit.2⟩)
      have HBw := Lib.hid hbw
      clear hb hbw hm hfam hst hseen hwit
      go_wp2
      go_ret
      exact ⟨_, L, rfl, HWw.out, by omega, HP.out, HBw.out⟩
theorem Surf.i64 {N : Int} {T : List Tr} (h : Surf N T) : ∀ i, i < T.length → ∀ j, I64 (tg (T! T i) j) := fun i hi j => I64.of_in (h.vin i hi j) (by have := h.n1; omega)
theorem tw_of_keys {T : List Tr} (h : KeysApart T keys3) : ∀ b a, b < T.length → a < b → twB (T! T a) (T! T b) = false := by
  intro b a hb hab
  cases e : twB (T! T a) (T! T b)
  · rfl
  · obtain ⟨p, hp, he⟩ := twB_iff.1 e
    obtain ⟨q, hq, h1, h2⟩ := edgeB_iff.1 he
    have k : ∀ {t : Tr} {r : Nat}, r < 3 → (keys3 t)[r]? = some (tg t r, tg t ((r + 1) % 3), 0) := fun {t r} hr => by
      match r, hr with
      | 0, _ => rfl
      | 1, _ => rfl
      | 2, _ => rfl
    have := h a b p q _ (by omega) hb (k hp) (by rw [k hq, h1, h2])
    omega
theorem sort3_perm {t u : Tr} (h : [t.1, t.2.1, t.2.2].Perm [u.1, u.2.1, u.2.2]) : sort3 t = sort3 u := by
  have e1 := sort3_eq t
  have e2 := sort3_eq u
  have ht : ∀ l : List Int, (l.mergeSort (fun x y => decide (x ≤ y))).Pairwise (fun x y => decide (x ≤ y) = true) := fun l =>
    List.pairwise_mergeSort (fun a b c h1 h2 => by simp at *; omega) (fun a b => by simp; omega) l
  have p : ([t.1, t.2.1, t.2.2].mergeSort (fun x y => decide (x ≤ y))).Perm ([u.1, u.2.1, u.2.2].mergeSort (fun x y => decide (x ≤ y))) :=
    ((List.mergeSort_perm _ _).trans h).trans (List.mergeSort_perm _ _).symm
  have e : [t.1, t.2.1, t.2.2].mergeSort (fun x y => decide (x ≤ y)) = [u.1, u.2.1, u.2.2].mergeSort (fun x y => decide (x ≤ y)) :=
    p.eq_of_pairwise (le := fun x y => decide (x ≤ y) = true) (fun a b _ _ h1 h2 => by simp at *; omega) (ht _) (ht _)
  rw [e1, e2] at e
  simp at e
  exact Prod.ext e.1 (Prod.ext e.2.1 e.2.2)
theorem mir_perm {t u : Tr} (ht : loopB t = false) (h : mirB t u = true) : [t.1, t.2.1, t.2.2].Perm [u.1, u.2.1, u.2.2] := by
  obtain ⟨a, b, c⟩ := t
  obtain ⟨x, y, z⟩ := u
  simp only [loopB, Bool.or_eq_false_iff, beq_eq_false_iff_ne] at ht
  simp only [mirB, hasB, Bool.and_eq_true, Bool.or_eq_true, beq_iff_eq] at h
  obtain ⟨⟨h1, h2⟩, h3⟩ := ht
  obtain ⟨⟨ha, hb⟩, hc⟩ := h
  simp only
  rcases ha with (rfl | rfl) | rfl <;> rcases hb with (rfl | rfl) | rfl <;> rcases hc with (rfl | rfl) | rfl <;> first | exact absurd rfl h1 | exact absurd rfl h2 | exact absurd rfl h3 | skip
  · exact .refl _
  · exact .cons _ (.swap _ _ _)
  · exact .swap _ _ _
  · exact (List.Perm.cons _ (.swap _ _ _)).trans (.swap _ _ _)
  · exact (List.Perm.swap _ _ _).trans (.cons _ (.swap _ _ _))
  · exact ((List.Perm.swap _ _ _).trans (.cons _ (.swap _ _ _))).trans (.swap _ _ _)
theorem mir_of_keys {T : List Tr} (hg : NoLoop T T.length) (h : KeysApart T keys4) : ∀ b a, b < T.length → a < b → mirB (T! T a) (T! T b) = false := by
  intro b a hb hab
  cases e : mirB (T! T a) (T! T b)
  · rfl
  · have hs := sort3_perm (mir_perm (hg a (by omega)) e)
    have := h a b 0 0 (sort3 (T! T a)) (by omega) hb rfl (by rw [hs]; rfl)
    omega
theorem surf_conds {N : Int} {T : List Tr} : Surf N T ↔ IndexOk N T ∧ NoLoop T T.length ∧ KeysApart T keys3 ∧ KeysApart T keys4 ∧ Used N T ∧ ∀ v, 0 ≤ v → v < N → Unpinched T v :=
  ⟨fun h => ⟨⟨h.n0, h.n1, h.t1, h.vin⟩, h.noloop, h.keys3, h.keys4, h.used, h.pin⟩, fun ⟨⟨a, b, c, d⟩, e, f, g, i, j⟩ => ⟨a, b, c, d, e, tw_of_keys f, mir_of_keys e g, i, j⟩⟩
set_option maxHeartbeats 400000 in
theorem ctwice_any (N : Int) (ao : Option Addr) (cap : Nat) (T : List Tr) (w : World) (hT : TrisAt w ao T) (hl : T.length ≤ 8192) (hI : ∀ i, i < T.length → ∀ j, I64 (tg (T! T i) j)) :
    Calls Tryz.prog 124 #[.agg #[.int .i64 N, .slice ao T.length cap]] w (WitPost w 3 (KeysApart T keys3)) := by
  have hb0 : Below w.heap.size w (w.alloc (.cells #[.int .i64 N, .slice ao T.length cap] 24)) := (Below.refl _ _).alloc (Nat.le_refl _) _
  have HC := Lib.hid (cpairs3 N ao cap T (w.alloc (.cells #[.int .i64 N, .slice ao T.length cap] 24)) (hT.mono (Nat.le_refl _) hb0) hl hI)
  have HB0 := Lib.hid hb0
  clear hb0 hT hI
  go_enter Tryz.func124, Tryz.ntmps124
  go_wp2_with fail
  refine HC.out.mono ?_
  rintro e w1 ⟨v, L, rfl, hw, hLl, hLP, hb1⟩
  have HW := Lib.hid (show WitRow w1 w.heap.size v 3 L from ⟨owns_base hw.1 (by simp), hw.2⟩)
  have HP := Lib.hid hLP
  have HB1 := Lib.hid (below_more HB0.out hb1 (by simp))
  obtain ⟨va, vc, hve⟩ := owns_slice hw.1
  subst hve
  clear hb1 hw hLP
  go_wp2
  go_ret
  exact ⟨_, L, rfl, HW.out, hLl, HP.out, HB1.out⟩
set_option maxHeartbeats 400000 in
theorem cmirrored_any (N : Int) (ao : Option Addr) (cap : Nat) (T : List Tr) (w : World) (hT : TrisAt w ao T) (hl : T.length ≤ 8192) (hI : ∀ i, i < T.length → ∀ j, I64 (tg (T! T i) j)) :
    Calls Tryz.prog 125 #[.agg #[.int .i64 N, .slice ao T.length cap]] w (WitPost w 4 (KeysApart T keys4)) := by
  have hb0 : Below w.heap.size w (w.alloc (.cells #[.int .i64 N, .slice ao T.length cap] 24)) := (Below.refl _ _).alloc (Nat.le_refl _) _
  have HC := Lib.hid (cpairs4 N ao cap T (w.alloc (.cells #[.int .i64 N, .slice ao T.length cap] 24)) (hT.mono (Nat.le_refl _) hb0) hl hI)
  have HB0 := Lib.hid hb0
  clear hb0 hT hI
  go_enter Tryz.func125, Tryz.ntmps125
  go_wp2_with fail
  refine HC.out.mono ?_
  rintro e w1 ⟨v, L, rfl, hw, hLl, hLP, hb1⟩
  have HW := Lib.hid (show WitRow w1 w.heap.size v 4 L from ⟨owns_base hw.1 (by simp), hw.2⟩)
  have HP := Lib.hid hLP
  have HB1 := Lib.hid (below_more HB0.out hb1 (by simp))
  obtain ⟨va, vc, hve⟩ := owns_slice hw.1
  subst hve
  clear hb1 hw hLP
  go_wp2
  go_ret
  exact ⟨_, L, rfl, HW.out, hLl, HP.out, HB1.out⟩
/-- What the first kinds don't tell of. -/
structure CertOk (N : Int) (T : List Tr) (k : Nat) : Prop where
  c0 : 0 < k → IndexOk N T
  c1 : 1 < k → NoLoop T T.length
  c2 : 2 < k → KeysApart T keys3
  c3 : 3 < k → KeysApart T keys4
  c4 : 4 < k → Used N T
  c5 : 5 < k → ∀ v, 0 ≤ v → v < N → Unpinched T v
theorem CertOk.surf {N : Int} {T : List Tr} (h : CertOk N T 6) : Surf N T := surf_conds.2 ⟨h.c0 (by omega), h.c1 (by omega), h.c2 (by omega), h.c3 (by omega), h.c4 (by omega), h.c5 (by omega)⟩
/-- What certify.All tells. -/
def AllPost (W : World) (N : Int) (T : List Tr) (e : Ending) (w' : World) : Prop := ∃ (ao : Option Addr) (cap : Nat) (L : List Ky), e = .returned (.slice ao L.length cap) ∧ TrisAt w' ao L ∧ L.length ≤ 1000000000 ∧ (L = [] ↔ Surf N T) ∧ (∀ x, x ∈ L → 1 ≤ x.1 ∧ x.1 ≤ 6) ∧ Below W.heap.size W w'
def kindCells : List Value := [.func (.func 122) #[] #[], .func (.func 123) #[] #[], .func (.func 124) #[] #[], .func (.func 125) #[] #[], .func (.func 126) #[] #[], .func (.func 127) #[] #[]]
set_option maxRecDepth 100000 in
set_option maxHeartbeats 4000000 in
theorem call_any (N : Int) (ao : Option Addr) (cap : Nat) (T : List Tr) (w : World) (hT : TrisAt w ao T) (hl : T.length ≤ 8192) :
    Calls Tryz.prog 103 #[.agg #[.int .i64 N, .slice ao T.length cap]] w (AllPost w N T) := by
  have hr := RowIs.made (w.alloc (.cells #[.int .i64 N, .slice ao T.length cap] 24)) 133 kindCells
  have e0 : (w.alloc (.cells #[.int .i64 N, .slice ao T.length cap] 24)).heap.size = w.heap.size + 1 := by simp
  rw [e0] at hr
  have HR := Lib.hid hr
  have HT := Lib.hid (hT.mono (Nat.le_refl _) ((Below.refl _ _).alloc (Nat.le_refl _) (.cells #[.int .i64 N, .slice ao T.length cap] 24)))
  have HTl := Lib.hid hl
  obtain ⟨len, hlen⟩ : ∃ n, n = T.length := ⟨_, rfl⟩
  rw [← hlen] at HR HT ⊢
  have HL := Lib.hid hlen
  clear hr e0 hT hlen hl
  go_enter Tryz.func103, Tryz.ntmps103
  go_wp2
  go_loopw [8] (fun i ws => ∃ (k : Nat), k ≤ 6 ∧ i = .int .i64 k ∧ CertOk N T k ∧ RowIs ws (w.heap.size + 1) 133 kindCells ∧ Below (w.heap.size + 1) (w.alloc (.cells #[.int .i64 N, .slice ao len cap] 24)) ws) (fun i _ => 6 - (intOf i).toNat)
  case atStart => exact ⟨0, by omega, rfl, ⟨fun h => by omega, fun h => by omega, fun h => by omega, fun h => by omega, fun h => by omega, fun h => by omega⟩, HR.out, (Below.refl _ _).alloc (by simp) _⟩
  case round =>
    clear HR
    obtain ⟨k, hk, rfl, hok, hrow, hb⟩ := hrel
    obtain ⟨hc0, hc1, hbw, hsz⟩ := box_soup hb
    have HB := Lib.hid hb
    have HBw := Lib.hid hbw
    have HOK := Lib.hid hok
    have HTr := Lib.hid (HT.out.mono (by simp) hb)
    by_cases hk6 : k < 6
    · have fin : ∀ (f : Nat) (K : Int) (P : Prop), 1 ≤ K → K ≤ 6 → (Surf N T → P) → (∀ w, TrisAt w ao T → Calls Tryz.prog f #[.agg #[.int .i64 N, .slice ao T.length cap]] w (WitPost w K P)) →
          Calls Tryz.prog f #[.agg #[.int .i64 N, .slice ao len cap]] wr fun e w' => ∃ (va : Option Addr) (n vc : Nat), e = .returned (.slice va n vc) ∧ n ≤ 1000000000 ∧
            Hid (Below (w.heap.size + 1) (w.alloc (.cells #[.int .i64 N, .slice ao len cap] 24)) w' ∧ RowIs w' (w.heap.size + 1) 133 kindCells ∧ (n = 0 → P) ∧
              (0 < n → ∃ gf, va = some ⟨gf, 0, none⟩ ∧ Calls Tryz.prog 128 #[.slice va n vc, .func (.func 129) #[] #[]] w' fun e w2 => e = .returned (.tuple #[]) ∧ Hid (AllPost w N T (.returned (.slice va n vc)) w2))) := by
        intro f K P hK1 hK6 hSP hf
        have h := hf wr HTr.out
        rw [← HL.out] at h
        refine Calls.mono h fun e w' ⟨v, L, he, hw, hLl, hLP, hb'⟩ => ?_
        obtain ⟨va, vc, hve⟩ := owns_slice hw.1
        subst hve
        have hB' := below_more HB.out hb' (by omega)
        refine ⟨va, L.length, vc, he, hLl, hB', hrow.below hb' hrow.lt, fun h0 => hLP.1 (List.length_eq_zero_iff.1 h0), fun h0 => ?_⟩
        obtain ⟨gf, capf, hve, hg1, hg2, -⟩ := owns_block hw.1 h0
        cases hve
        refine ⟨gf, rfl, Calls.mono (sort_wits w' wr.heap.size gf vc L hLl hw.1 (List.length_pos_iff.1 h0)) fun e w2 ⟨he, L', hperm, htr, hg, hbase⟩ => ⟨he, ?_⟩⟩
        have hbw' : Below w.heap.size w w' := below_more HBw.out hb' (by omega)
        refine ⟨_, vc, L', by rw [hperm.length_eq], htr, by rw [hperm.length_eq]; exact hLl, ⟨fun e => ?_, fun hs => ?_⟩, fun x hx => ?_, hbw'.grown hg hbw'.size (fun q hq => by cases hq; omega)⟩
        · rw [e] at hperm
          have := hperm.length_eq
          simp at this
          omega
        · have := hLP.2 (hSP hs)
          rw [this] at h0
          simp at h0
        · have := hw.2 x (hperm.mem_iff.1 hx)
          omega
      have F := Lib.hid fin
      have h0 := hrow.cell (i := 0) (v := .func (.func 122) #[] #[]) rfl
      have h1 := hrow.cell (i := 1) (v := .func (.func 123) #[] #[]) rfl
      have h2 := hrow.cell (i := 2) (v := .func (.func 124) #[] #[]) rfl
      have h3 := hrow.cell (i := 3) (v := .func (.func 125) #[] #[]) rfl
      have h4 := hrow.cell (i := 4) (v := .func (.func 126) #[] #[]) rfl
      have h5 := hrow.cell (i := 5) (v := .func (.func 127) #[] #[]) rfl
      clear hrow hb hbw fin hok
      rcases (show k = 0 ∨ k = 1 ∨ k = 2 ∨ k = 3 ∨ k = 4 ∨ k = 5 by omega) with rfl | rfl | rfl | rfl | rfl | rfl
      · go_wp2_with fail
        refine (F.out _ 1 _ (by omega) (by omega) (fun hs => (surf_conds.1 hs).1) fun w h => cindex_any N ao cap T w h HTl.out).mono ?_
        rintro e w2 ⟨va, n, vc, rfl, hn, hX⟩
        clear h0 h1 h2 h3 h4 h5 hc0 hc1
        by_cases h0 : n = 0
        · subst h0
          have HN := Lib.hid (show CertOk N T 1 from ⟨fun _ => hX.2.2.1 rfl, fun h => by omega, fun h => by omega, fun h => by omega, fun h => by omega, fun h => by omega⟩)
          have HX := Lib.hid hX
          clear hX
          go_wp2
          go_roundw
          case rel => exact ⟨1, by omega, by go_num, HN.out, HX.out.2.1, HX.out.1⟩
          case measure => simp [intOf]
        · obtain ⟨gf, rfl, hso⟩ := hX.out.2.2.2 (by omega)
          have HSO := Lib.hid hso
          have hn0 : 0 < n := by omega
          clear hX hso h0
          go_wp2_with fail
          refine HSO.out.mono ?_
          rintro e w3 ⟨rfl, hpost⟩
          have HP := Lib.hid hpost
          clear hpost HSO
          go_wp2
          exact bodyPost_ret (v := .slice (some ⟨gf, 0, none⟩) n vc) (by simp [results, Tryz.results103, go_sem]) rfl HP.out.out
      · go_wp2_with fail
        refine (F.out _ 2 _ (by omega) (by omega) (fun hs => (surf_conds.1 hs).2.1) fun w h => cloop_any N ao cap T w h HTl.out).mono ?_
        rintro e w2 ⟨va, n, vc, rfl, hn, hX⟩
        clear h0 h1 h2 h3 h4 h5 hc0 hc1
        by_cases h0 : n = 0
        · subst h0
          have HN := Lib.hid (show CertOk N T 2 from ⟨fun _ => HOK.out.c0 (by omega), fun _ => hX.2.2.1 rfl, fun h => by omega, fun h => by omega, fun h => by omega, fun h => by omega⟩)
          have HX := Lib.hid hX
          clear hX
          go_wp2
          go_roundw
          case rel => exact ⟨2, by omega, by go_num, HN.out, HX.out.2.1, HX.out.1⟩
          case measure => simp [intOf]
        · obtain ⟨gf, rfl, hso⟩ := hX.out.2.2.2 (by omega)
          have HSO := Lib.hid hso
          have hn0 : 0 < n := by omega
          clear hX hso h0
          go_wp2_with fail
          refine HSO.out.mono ?_
          rintro e w3 ⟨rfl, hpost⟩
          have HP := Lib.hid hpost
          clear hpost HSO
          go_wp2
          exact bodyPost_ret (v := .slice (some ⟨gf, 0, none⟩) n vc) (by simp [results, Tryz.results103, go_sem]) rfl HP.out.out
      · go_wp2_with fail
        refine (F.out _ 3 _ (by omega) (by omega) (fun hs => (surf_conds.1 hs).2.2.1) fun w h => ctwice_any N ao cap T w h HTl.out (fun i hi j => I64.of_in ((HOK.out.c0 (by omega)).2.2.2 i hi j) (by have := (HOK.out.c0 (by omega)).2.1; omega))).mono ?_
        rintro e w2 ⟨va, n, vc, rfl, hn, hX⟩
        clear h0 h1 h2 h3 h4 h5 hc0 hc1
        by_cases h0 : n = 0
        · subst h0
          have HN := Lib.hid (show CertOk N T 3 from ⟨fun _ => HOK.out.c0 (by omega), fun _ => HOK.out.c1 (by omega), fun _ => hX.2.2.1 rfl, fun h => by omega, fun h => by omega, fun h => by omega⟩)
          have HX := Lib.hid hX
          clear hX
          go_wp2
          go_roundw
          case rel => exact ⟨3, by omega, by go_num, HN.out, HX.out.2.1, HX.out.1⟩
          case measure => simp [intOf]
        · obtain ⟨gf, rfl, hso⟩ := hX.out.2.2.2 (by omega)
          have HSO := Lib.hid hso
          have hn0 : 0 < n := by omega
          clear hX hso h0
          go_wp2_with fail
          refine HSO.out.mono ?_
          rintro e w3 ⟨rfl, hpost⟩
          have HP := Lib.hid hpost
          clear hpost HSO
          go_wp2
          exact bodyPost_ret (v := .slice (some ⟨gf, 0, none⟩) n vc) (by simp [results, Tryz.results103, go_sem]) rfl HP.out.out
      · go_wp2_with fail
        refine (F.out _ 4 _ (by omega) (by omega) (fun hs => (surf_conds.1 hs).2.2.2.1) fun w h => cmirrored_any N ao cap T w h HTl.out (fun i hi j => I64.of_in ((HOK.out.c0 (by omega)).2.2.2 i hi j) (by have := (HOK.out.c0 (by omega)).2.1; omega))).mono ?_
        rintro e w2 ⟨va, n, vc, rfl, hn, hX⟩
        clear h0 h1 h2 h3 h4 h5 hc0 hc1
        by_cases h0 : n = 0
        · subst h0
          have HN := Lib.hid (show CertOk N T 4 from ⟨fun _ => HOK.out.c0 (by omega), fun _ => HOK.out.c1 (by omega), fun _ => HOK.out.c2 (by omega), fun _ => hX.2.2.1 rfl, fun h => by omega, fun h => by omega⟩)
          have HX := Lib.hid hX
          clear hX
          go_wp2
          go_roundw
          case rel => exact ⟨4, by omega, by go_num, HN.out, HX.out.2.1, HX.out.1⟩
          case measure => simp [intOf]
        · obtain ⟨gf, rfl, hso⟩ := hX.out.2.2.2 (by omega)
          have HSO := Lib.hid hso
          have hn0 : 0 < n := by omega
          clear hX hso h0
          go_wp2_with fail
          refine HSO.out.mono ?_
          rintro e w3 ⟨rfl, hpost⟩
          have HP := Lib.hid hpost
          clear hpost HSO
          go_wp2
          exact bodyPost_ret (v := .slice (some ⟨gf, 0, none⟩) n vc) (by simp [results, Tryz.results103, go_sem]) rfl HP.out.out
      · go_wp2_with fail
        refine (F.out _ 5 _ (by omega) (by omega) (fun hs => (surf_conds.1 hs).2.2.2.2.1) fun w h => clonely_any N ao cap T w h HTl.out (HOK.out.c0 (by omega)).1 (HOK.out.c0 (by omega)).2.1 (HOK.out.c0 (by omega)).2.2.2).mono ?_
        rintro e w2 ⟨va, n, vc, rfl, hn, hX⟩
        clear h0 h1 h2 h3 h4 h5 hc0 hc1
        by_cases h0 : n = 0
        · subst h0
          have HN := Lib.hid (show CertOk N T 5 from ⟨fun _ => HOK.out.c0 (by omega), fun _ => HOK.out.c1 (by omega), fun _ => HOK.out.c2 (by omega), fun _ => HOK.out.c3 (by omega), fun _ => hX.2.2.1 rfl, fun h => by omega⟩)
          have HX := Lib.hid hX
          clear hX
          go_wp2
          go_roundw
          case rel => exact ⟨5, by omega, by go_num, HN.out, HX.out.2.1, HX.out.1⟩
          case measure => simp [intOf]
        · obtain ⟨gf, rfl, hso⟩ := hX.out.2.2.2 (by omega)
          have HSO := Lib.hid hso
          have hn0 : 0 < n := by omega
          clear hX hso h0
          go_wp2_with fail
          refine HSO.out.mono ?_
          rintro e w3 ⟨rfl, hpost⟩
          have HP := Lib.hid hpost
          clear hpost HSO
          go_wp2
          exact bodyPost_ret (v := .slice (some ⟨gf, 0, none⟩) n vc) (by simp [results, Tryz.results103, go_sem]) rfl HP.out.out
      · go_wp2_with fail
        refine (F.out _ 6 _ (by omega) (by omega) (fun hs => (surf_conds.1 hs).2.2.2.2.2) fun w h => cpinch_any N ao cap T w h HTl.out (HOK.out.c0 (by omega)).1 (HOK.out.c0 (by omega)).2.1 (HOK.out.c0 (by omega)).2.2.2 (HOK.out.c1 (by omega)) (HOK.out.c4 (by omega))).mono ?_
        rintro e w2 ⟨va, n, vc, rfl, hn, hX⟩
        clear h0 h1 h2 h3 h4 h5 hc0 hc1
        by_cases h0 : n = 0
        · subst h0
          have HN := Lib.hid (show CertOk N T 6 from ⟨fun _ => HOK.out.c0 (by omega), fun _ => HOK.out.c1 (by omega), fun _ => HOK.out.c2 (by omega), fun _ => HOK.out.c3 (by omega), fun _ => HOK.out.c4 (by omega), fun _ => hX.2.2.1 rfl⟩)
          have HX := Lib.hid hX
          clear hX
          go_wp2
          go_roundw
          case rel => exact ⟨6, by omega, by go_num, HN.out, HX.out.2.1, HX.out.1⟩
          case measure => simp [intOf]
        · obtain ⟨gf, rfl, hso⟩ := hX.out.2.2.2 (by omega)
          have HSO := Lib.hid hso
          have hn0 : 0 < n := by omega
          clear hX hso h0
          go_wp2_with fail
          refine HSO.out.mono ?_
          rintro e w3 ⟨rfl, hpost⟩
          have HP := Lib.hid hpost
          clear hpost HSO
          go_wp2
          exact bodyPost_ret (v := .slice (some ⟨gf, 0, none⟩) n vc) (by simp [results, Tryz.results103, go_sem]) rfl HP.out.out
    · obtain rfl : k = 6 := by omega
      have HF := Lib.hid (show AllPost w N T (.returned (.slice none 0 0)) wr from ⟨none, 0, [], rfl, fun h => absurd rfl h, by simp, by simp; exact hok.surf, by simp, hbw⟩)
      clear hb hbw hrow hok
      go_wp2
      go_ret
      exact HF.out
/-- What certify.Check tells. -/
def CheckPost (W : World) (N : Int) (T : List Tr) (e : Ending) (w' : World) : Prop := ∃ k a b : Int, e = .returned (.agg #[.int .i64 k, .int .i64 a, .int .i64 b]) ∧ ((Surf N T ∧ k = 0 ∧ a = 0 ∧ b = 0) ∨ (¬ Surf N T ∧ 1 ≤ k ∧ k ≤ 6)) ∧ Below W.heap.size W w'
set_option maxHeartbeats 1000000 in
theorem check_any (N : Int) (ao : Option Addr) (cap : Nat) (T : List Tr) (w : World) (hT : TrisAt w ao T) (hl : T.length ≤ 8192) :
    Calls Tryz.prog 68 #[.agg #[.int .i64 N, .slice ao T.length cap]] w (CheckPost w N T) := by
  have hb0 : Below w.heap.size w ((w.alloc (.cells #[.int .i64 N, .slice ao T.length cap] 24)).alloc (.cells #[.int .i64 0, .int .i64 0, .int .i64 0] 55)) := ((Below.refl _ _).alloc (Nat.le_refl _) _).alloc (by simp) _
  have HC := Lib.hid (call_any N ao cap T ((w.alloc (.cells #[.int .i64 N, .slice ao T.length cap] 24)).alloc (.cells #[.int .i64 0, .int .i64 0, .int .i64 0] 55)) (hT.mono (Nat.le_refl _) hb0) hl)
  have HB0 := Lib.hid hb0
  clear hb0 hT
  go_enter Tryz.func68, Tryz.ntmps68
  go_wp2_with fail
  refine HC.out.mono ?_
  rintro e w1 ⟨va, vc, L, rfl, htr, hLl, hLS, hLk, hb1⟩
  have HB1 := Lib.hid (below_more HB0.out hb1 (by simp; omega))
  have hr := RowIs.made (w.alloc (.cells #[.int .i64 N, .slice ao T.length cap] 24)) 55 [.int .i64 0, .int .i64 0, .int .i64 0]
  have e0 : (w.alloc (.cells #[.int .i64 N, .slice ao T.length cap] 24)).heap.size = w.heap.size + 1 := by simp
  rw [e0] at hr
  have hr1 := hr.below hb1 hr.lt
  have c0 := hr1.cell (i := 0) rfl
  have c1 := hr1.cell (i := 1) rfl
  have c2 := hr1.cell (i := 2) rfl
  have f0 := hr1.free 0
  have f1 := hr1.free 1
  have f2 := hr1.free 2
  by_cases h0 : L = []
  · subst h0
    have HS := Lib.hid (hLS.1 rfl)
    clear hb1 hr hr1 e0 htr hLl hLS hLk
    simp only [List.length_nil]
    go_wp2
    exact bodyPost_ret (v := .agg #[.int .i64 0, .int .i64 0, .int .i64 0]) (by simp [results, Tryz.results68, go_sem, c0, c1, c2]) rfl ⟨0, 0, 0, rfl, .inl ⟨HS.out, rfl, rfl, rfl⟩, ((HB1.out.setCell (p := ⟨w.heap.size + 1, 0, none⟩) (Nat.le_succ _) _).setCell (p := ⟨w.heap.size + 1, 1, none⟩) (Nat.le_succ _) _).setCell (p := ⟨w.heap.size + 1, 2, none⟩) (Nat.le_succ _) _⟩
  · have hpos := List.length_pos_iff.2 h0
    have HS := Lib.hid (show ¬ Surf N T from fun h => h0 (hLS.2 h))
    obtain ⟨b, off, x, y, z, rfl, ht, g0, g1, g2, hbs, -⟩ := htr.get (Nat.le_refl _) (Below.refl _ _) (i := 0) hpos
    have HK := Lib.hid (show 1 ≤ x ∧ x ≤ 6 from by
      have hm := hLk (T! L 0) (by
        unfold T!
        rw [List.getD_eq_getElem?_getD, List.getElem?_eq_getElem hpos]
        exact List.getElem_mem hpos)
      rw [ht.out] at hm
      exact hm)
    simp only [Nat.zero_mul, Nat.add_zero] at g0 g1 g2
    obtain ⟨n, hn⟩ : ∃ n, n = L.length := ⟨_, rfl⟩
    rw [← hn] at hpos hLl ⊢
    clear hb1 hr hr1 e0 htr hLS hLk h0 ht hbs hn
    go_wp2
    exact bodyPost_ret (v := .agg #[.int .i64 x, .int .i64 y, .int .i64 z]) (by simp [results, Tryz.results68, go_sem, c0, c1, c2]) rfl ⟨x, y, z, rfl, .inr ⟨HS.out, HK.out⟩, ((HB1.out.setCell (p := ⟨w.heap.size + 1, 0, none⟩) (Nat.le_succ _) _).setCell (p := ⟨w.heap.size + 1, 1, none⟩) (Nat.le_succ _) _).setCell (p := ⟨w.heap.size + 1, 2, none⟩) (Nat.le_succ _) _⟩
theorem check_ok (N : Int) (ao : Option Addr) (cap : Nat) (T : List Tr) (w : World) (hT : TrisAt w ao T) (hs : Surf N T) :
    Calls Tryz.prog 68 #[.agg #[.int .i64 N, .slice ao T.length cap]] w fun e w' => e = .returned (.agg #[.int .i64 0, .int .i64 0, .int .i64 0]) ∧ Below w.heap.size w w' := by
  refine Calls.mono (check_any N ao cap T w hT hs.t1) fun e w' ⟨k, a, b, he, h, hb⟩ => ⟨?_, hb⟩
  rcases h with ⟨-, rfl, rfl, rfl⟩ | ⟨h, -⟩
  · exact he
  · exact absurd hs h
end Go.Proofs.YtkjamheoihlekaaGreat

/- certify.pairs with the keys of certify.twice, and of certify.mirrored: something is told just if two keys are like. -/
import Derived.Test.YtbeefabboabfgaaGreatPairsLaw
import Derived.Maps.AppendAt
import Derived.Deep.DeepCutAuto
namespace Go.Proofs.YtbeefabboabfgaaGreat
set_option linter.unusedVariables false
set_option linter.unusedSimpArgs false
open Go.RowKit Go.Maps
theorem keys3_len (T : List Tr) (k : Nat) : (KL keys3 T k).length = 3 * k := by
  induction k with
  | zero => rfl
  | succ k ih => rw [KL_succ, List.length_append, ih]; simp [keys3]; omega
theorem keys4_len (T : List Tr) (k : Nat) : (KL keys4 T k).length = 1 * k := by
  induction k with
  | zero => rfl
  | succ k ih => rw [KL_succ, List.length_append, ih]; simp [keys4]

set_option maxRecDepth 100000 in
set_option maxHeartbeats 4000000 in
theorem cpairs3 (N : Int) (ao : Option Addr) (cap : Nat) (T : List Tr) (w : World) (hT : TrisAt w ao T) (hl : T.length ≤ 8192) (hI : ∀ i, i < T.length → ∀ j, I64 (tg (T! T i) j)) :
    Calls Tryz.prog 112 #[.agg #[.int .i64 N, .slice ao T.length cap], .int .i64 3, .func (.func 113) #[] #[]] w (WitPost w 3 (KeysApart T keys3)) := by
  obtain ⟨i0, hi, hz0, hz1, hz2⟩ := info_parts info3
  obtain ⟨u0, gi, gz0, gz1, gz2⟩ := info_parts infoWit
  obtain ⟨len, hlen⟩ : ∃ n, n = T.length := ⟨_, rfl⟩
  rw [← hlen] at hl ⊢
  have HL := Lib.hid hlen
  have HT := Lib.hid hT
  have HI := Lib.hid (show ∀ i, i < T.length → ∀ k, k ∈ keys3 (T! T i) → I64 k.1 ∧ I64 k.2.1 ∧ I64 k.2.2 from fun i hi k hk => keys3_in (hI i hi) hk)
  have HKL := Lib.hid (show ∀ k, (KL keys3 T k).length = 3 * k from keys3_len T)
  have hmm := @run_makeMap Tryz.prog
  clear hlen hT hI
  go_enter Tryz.func112, Tryz.ntmps112
  have HM0 := Lib.hid (show MapB triFam ((((w.alloc (.cells #[.int .i64 N, .slice ao len cap] 24)).alloc (.map #[] 0)).alloc (.map #[] 0))) (w.heap.size + 1) 0 (fun _ => none) from by
    have h := MapB.made (F := triFam) (w.alloc (.cells #[.int .i64 N, .slice ao len cap] 24))
    have e : (w.alloc (.cells #[.int .i64 N, .slice ao len cap] 24)).heap.size = w.heap.size + 1 := by simp
    rw [e] at h
    exact h.below (Nat.le_refl _) ((Below.refl _ _).alloc (Nat.le_refl _) _))
  have HS0 := Lib.hid (show Seen ((((w.alloc (.cells #[.int .i64 N, .slice ao len cap] 24)).alloc (.map #[] 0)).alloc (.map #[] 0))) (w.heap.size + 2) [] from by
    have h := MapIs.made (F := pairFam) ((w.alloc (.cells #[.int .i64 N, .slice ao len cap] 24)).alloc (.map #[] 0))
    have e : ((w.alloc (.cells #[.int .i64 N, .slice ao len cap] 24)).alloc (.map #[] 0)).heap.size = w.heap.size + 2 := by simp
    rw [e] at h
    exact ⟨0, _, h, fun _ _ => rfl, fun a v h => by cases h⟩)
  have HB0 := Lib.hid (show Below (w.heap.size + 1) (w.alloc (.cells #[.int .i64 N, .slice ao len cap] 24)) ((((w.alloc (.cells #[.int .i64 N, .slice ao len cap] 24)).alloc (.map #[] 0)).alloc (.map #[] 0))) from
    ((Below.refl _ _).alloc (by simp) _).alloc (by simp) _)
  go_wp2
  go_loopw [22, 7] (fun i v ws => ∃ (k n : Nat) (C : Ky → Option Value) (E : Ky → List Nat) (L : List Ky), k ≤ len ∧ i = .int .i64 k ∧ MapB triFam ws (w.heap.size + 1) n C ∧ Fam ws (w.heap.size + 3) (fun x => (C x).getD (.slice none 0 0)) E ∧
      PairSt (KL keys3 T k) k E L ∧ Seen ws (w.heap.size + 2) L ∧ WitRow ws (w.heap.size + 3) v 3 L ∧ L.length ≤ 24576 * (3 * k) ∧
      Below (w.heap.size + 1) (w.alloc (.cells #[.int .i64 N, .slice ao len cap] 24)) ws) (fun i _ _ => len - (intOf i).toNat)
  case atStart => exact ⟨0, 0, _, _, [], by omega, rfl, HM0.out, Fam.nil _ _, PairSt.start _ (fun _ => rfl), HS0.out, WitRow.nil _ _ _, by simp, HB0.out⟩
  case round =>
    clear HM0 HB0 HS0
    obtain ⟨k, n, C, E, L, hk, rfl, hm, hfam, hst, hseen, hwit, hLl, hb⟩ := hrel
    obtain ⟨hc0, hc1, hbw, hsz⟩ := box_soup hb
    have HM := Lib.hid hm
    have HF := Lib.hid hfam
    have HST := Lib.hid hst
    have HSE := Lib.hid hseen
    have HWI := Lib.hid hwit
    have HB := Lib.hid hb
    obtain ⟨W1, rfl⟩ : ∃ W1 : World, W1 = wr := ⟨_, rfl⟩
    by_cases hlt : k < len
    · obtain ⟨b, off, x, y, z, rfl, ht, g0, g1, g2, hbs, hbs'⟩ := HT.out.get (Nat.le_refl _) hbw (i := k) (by have := HL.out; omega)
      clear hb hbw hbs hm hfam hst hseen hwit
      go_wp2_with fail
      refine (twice_keys x y z _).mono ?_
      rintro e w2 ⟨g, rfl, hg, hrow, hb2⟩
      have H2 := Lib.hid (show Below W1.heap.size W1 w2 from ((Below.refl _ _).alloc (Nat.le_refl _) (.cells #[.int .i64 x, .int .i64 y, .int .i64 z] 62)).trans (hb2.mono (by simp)))
      have HM2 := Lib.hid (HM.out.below (Nat.le_refl _) H2.out)
      have HF2 := Lib.hid (HF.out.more H2.out)
      have HSE2 := Lib.hid (HSE.out.below H2.out)
      have HWI2 := Lib.hid (HWI.out.below H2.out)
      have HB2 := Lib.hid (below_more HB.out H2.out (by omega))
      have HR2 := Lib.hid hrow
      have hgB : w.heap.size + 2 < g := by obtain ⟨_, _, h3, -⟩ := HSE.out; have := h3.lt; simp at hg; omega
      clear hb2 hrow H2 HM HF HSE HWI hg g0 g1 g2 hc0 hc1
      obtain ⟨W2, rfl⟩ : ∃ W2 : World, W2 = w2 := ⟨_, rfl⟩
      go_wp2
      go_loopw [31, 7] (fun i v ws => ∃ (p n : Nat) (C : Ky → Option Value) (E : Ky → List Nat) (L : List Ky), p ≤ 3 ∧ i = .int .i64 p ∧ MapB triFam ws (w.heap.size + 1) n C ∧ Fam ws (w.heap.size + 3) (fun x => (C x).getD (.slice none 0 0)) E ∧
          PairSt (KL keys3 T k ++ (keys3 (x, y, z)).take p) k E L ∧ Seen ws (w.heap.size + 2) L ∧ WitRow ws (w.heap.size + 3) v 3 L ∧ L.length ≤ 24576 * (3 * k + p) ∧ RowIs ws g 61 (kcells (keys3 (x, y, z))) ∧
          Below (w.heap.size + 1) (w.alloc (.cells #[.int .i64 N, .slice (some ⟨b, off, none⟩) len cap] 24)) ws) (fun i _ _ => 3 - (intOf i).toNat)
      case atStart => exact ⟨0, n, C, E, L, by omega, rfl, HM2.out, HF2.out, by simpa using HST.out, HSE2.out, HWI2.out, by omega, HR2.out, HB2.out⟩
      case round =>
        clear HM2 HB2 HR2 HF2 HSE2 HWI2 HST HB
        obtain ⟨p, n, C, E, L, hp, rfl, hm, hfam, hst, hseen, hwit, hLl, hrow, hb⟩ := hrel
        by_cases hp3 : p < 3
        · obtain ⟨ky, hky⟩ : ∃ ky, (keys3 (x, y, z))[p]? = some ky := ⟨_, List.getElem?_eq_getElem hp3⟩
          obtain ⟨c0, c1, c2⟩ := kcells_get (L := keys3 (x, y, z)) hky
          have hk0 := hrow.cell c0
          have hk1 := hrow.cell c1
          have hk2 := hrow.cell c2
          have hok : triFam.ok ky := HI.out k (by have := HL.out; omega) ky (by rw [ht.out]; exact List.mem_of_getElem? hky)
          obtain ⟨ks, hks⟩ : ∃ q, q = KL keys3 T k ++ (keys3 (x, y, z)).take p := ⟨_, rfl⟩
          have hksl : ks.length = 3 * k + p := by rw [hks, List.length_append, HKL.out, List.length_take]; have : (keys3 (x, y, z)).length = 3 := rfl; omega
          have HKS := Lib.hid (show ks ++ [ky] = KL keys3 T k ++ (keys3 (x, y, z)).take (p + 1) from by
            rw [hks, List.take_add_one, hky]; simp)
          rw [← hks] at hst
          obtain ⟨a1, a2, a3⟩ := ky
          obtain ⟨va, vc, hve⟩ := owns_slice hwit.1
          subst hve
          obtain ⟨I, hIe⟩ : ∃ I, I = E (a1, a2, a3) := ⟨_, rfl⟩
          have hIlen : I.length ≤ 24576 := by rw [hIe]; have := hst.len (a1, a2, a3); omega
          have HIlt := Lib.hid (show ∀ x, x ∈ I → x ≤ k from fun q hq => hst.lt _ q (by rw [← hIe]; exact hq))
          have hown := hfam.1 (a1, a2, a3)
          obtain ⟨vu, hvu⟩ : ∃ vu, (C (a1, a2, a3)).getD (.slice none 0 0) = vu := ⟨_, rfl⟩
          simp only [hvu] at hown
          rw [← hIe] at hown
          obtain ⟨au, cu, hvs⟩ := owns_slice hown
          have hlk := fun (W : World) (e : W.heap[w.heap.size + 1]? = wr.heap[w.heap.size + 1]?) => (hm.same e).to.look 169 45 (by kernel_rfl) zero_ints (a1, a2, a3) hok false
          have hmlt := hm.lt
          have hk3 := hlk (wr.alloc (.cells #[.int .i64 a1, .int .i64 a2, .int .i64 a3] 61)) (Below.heap_alloc _ _ _ hmlt)
          simp only [triFam, Bool.false_eq_true, if_false] at hk3
          rw [hvu, hvs] at hk3
          obtain ⟨X, hX⟩ : ∃ X, X = wr.alloc (.cells #[.int .i64 a1, .int .i64 a2, .int .i64 a3] 61) := ⟨_, rfl⟩
          have hXb : Below wr.heap.size wr X := by rw [hX]; exact (Below.refl _ _).alloc (Nat.le_refl _) _
          obtain ⟨gk, hgk⟩ : ∃ q, q = wr.heap.size := ⟨_, rfl⟩
          have HRK := Lib.hid (show RowIs X gk 61 [.int .i64 a1, .int .i64 a2, .int .i64 a3] from by rw [hX, hgk]; exact RowIs.made wr _ [_, _, _])
          have hgkb : w.heap.size + 2 < gk := by have := hseen.lt; omega
          have HPX := Lib.hid (show PBox (w.alloc (.cells #[.int .i64 N, .slice (some ⟨b, off, none⟩) len cap] 24)) (w.heap.size + 1) n C E g gk (kcells (keys3 (x, y, z))) [.int .i64 a1, .int .i64 a2, .int .i64 a3] 3 (.slice va L.length vc) L X from
            ⟨hm.below (Nat.le_refl _) hXb, hfam.more hXb, hseen.below hXb, hwit.below hXb, hrow.after hXb, HRK.out, ⟨hgB, hgkb⟩, below_more hb hXb (Nat.le_of_lt hm.lt)⟩)
          have HST := Lib.hid hst
          have HIE := Lib.hid hIe
          have HVU := Lib.hid (hvu.trans hvs)
          have HX := Lib.hid hX
          have HGK := Lib.hid hgk
          clear hm hfam hst hseen hwit hrow hb hown hlk hmlt hXb hks hvu hIe hvs hX hgk HRK
          go_upto_region 11 with fail
          rw [← HGK.out, ← HX.out]
          go_loopw [39, 7] (fun i v ws => ∃ (j : Nat) (L' : List Ky), j ≤ I.length ∧ i = .int .i64 j ∧ PBox (w.alloc (.cells #[.int .i64 N, .slice (some ⟨b, off, none⟩) len cap] 24)) (w.heap.size + 1) n C E g gk (kcells (keys3 (x, y, z))) [.int .i64 a1, .int .i64 a2, .int .i64 a3] 3 v L' ws ∧
              L'.length ≤ L.length + j ∧ (L' = [] ↔ L = [] ∧ j = 0)) (fun i _ _ => I.length - (intOf i).toNat)
          case atStart => exact ⟨0, L, by omega, rfl, HPX.out, by omega, by simp⟩
          case round =>
            clear HPX
            obtain ⟨j, L', hj, rfl, hbox, hLl', hL'⟩ := hrel
            obtain ⟨X, rfl⟩ : ∃ X : World, X = wr := ⟨_, rfl⟩
            have HLL := Lib.hid hL'
            by_cases hjl : j < I.length
            · obtain ⟨q, hq⟩ : ∃ q, I[j]? = some q := ⟨_, List.getElem?_eq_getElem hjl⟩
              have hown := hbox.fam.1 (a1, a2, a3)
              simp only [HVU.out] at hown
              rw [← HIE.out] at hown
              obtain ⟨ga, ca, hve, hga, hgs, -, -, hcell, -⟩ := owns_block hown (by omega)
              cases hve
              have hqc := hcell j _ (nv_get hq)
              have hqk := HIlt.out q (List.mem_of_getElem? hq)
              have hq64 : I64 (q : Int) := ⟨by omega, by omega⟩
              have hk64 : I64 (k : Int) := ⟨by omega, by omega⟩
              have hask := (hbox.below ((Below.refl _ _).alloc (Nat.le_refl _) (.cells #[.int .i64 (q : Int), .int .i64 (k : Int)] 79))).ask (q : Int) (k : Int) hq64 hk64
              have HBX := Lib.hid (hbox.below ((Below.refl _ _).alloc (Nat.le_refl _) (.cells #[.int .i64 (q : Int), .int .i64 (k : Int)] 79)))
              clear hown hcell hq hbox hL'
              rcases hask with ⟨hlk, hne⟩ | ⟨hlk, w4, hst, hsee, hg4⟩
              · clear hk0 hk1 hk2
                go_wp2
                go_roundw
                case rel => exact ⟨j + 1, L', by omega, by go_num, HBX.out, by omega, by constructor <;> intro h <;> first | exact absurd h hne | omega⟩
                case measure => simp [intOf]; omega
              · have HSEE := Lib.hid hsee
                have HG4 := Lib.hid hg4
                have HW4 := Lib.hid (owns_low HBX.out.wit.1 hg4 (by omega))
                have hw4s : w.heap.size + 3 ≤ w4.heap.size := by have := HBX.out.key.lt; have := HBX.out.far.2; have := hg4.size; omega
                have HFAR := Lib.hid HBX.out.far
                clear hsee hg4 hk0 hk1 hk2
                go_wp2_with (at_builtin; refine wpList_append_new _ rfl _ _ 111 rfl (w.heap.size + 3) 52 u0 _ 3 24 (by kernel_rfl) gi gz0 gz1 gz2 rfl (by decide) _ _ _ rfl HW4.out _ _ _ rfl (by first | rfl | simp) rfl ?_ ?_ ?_ ?_ ?_)
                all_goals first | rfl | omega | (unfold maxLen; omega) | exact ⟨rfl, rfl⟩ | exact ⟨rfl, rfl, rfl⟩ | skip
                · intro v' w5 hown5 hbel hgr
                  have HB5 := Lib.hid (HBX.out.tell HG4.out HSEE.out _ v' (q : Int) (k : Int) hown5 hgr)
                  clear hown5 hbel hgr hlk hst
                  go_wp2
                  go_roundw
                  case rel => exact ⟨j + 1, L' ++ [(3, (q : Int), (k : Int))], by omega, by go_num, HB5.out, by simp; omega, by simp⟩
                  case measure => simp [intOf]; omega
            · obtain rfl : j = I.length := by omega
              obtain ⟨w3, cl, hent, hg3, nn, hheld⟩ := (hbox.below ((Below.refl _ _).alloc (Nat.le_refl _) (.cells #[.int .i64 (k : Int)] 3))).take (a1, a2, a3) hok
              have HBY := Lib.hid (hbox.below ((Below.refl _ _).alloc (Nat.le_refl _) (.cells #[.int .i64 (k : Int)] 3)))
              have ho3 := (HBY.out.fam.other hg3 (by omega)).1 (a1, a2, a3)
              simp only [HVU.out] at ho3 hent
              have hE := HIE.out
              have HO3 := Lib.hid ho3
              have hEl : (E (a1, a2, a3)).length = I.length := by rw [← hE]
              have hcell3 : w3.cell? ⟨X.heap.size, 0, none⟩ = some (.int .i64 k) := by
                have h1 := RowIs.made X 3 [.int .i64 (k : Int)]
                have h2 := h1.grown hg3 (by have := hbox.had.lt; simp; omega)
                exact h2.cell (i := 0) rfl
              have hc0 := hbox.key.cell (i := 0) rfl
              have hc1 := hbox.key.cell (i := 1) rfl
              have hc2 := hbox.key.cell (i := 2) rfl
              have h3s : w.heap.size + 3 ≤ w3.heap.size := by have := HBY.out.key.lt; have := HBY.out.far.2; have := hg3.size; omega
              have HG3 := Lib.hid hg3
              have HH3 := Lib.hid hheld
              clear hbox hg3 hheld ho3 hE hL' hk0 hk1 hk2
              go_wp2_with (at_builtin; refine wpList_append_own_at _ rfl _ _ 45 rfl (w.heap.size + 3) 3 i0 (.int .i64 0) 1 8 (by kernel_rfl) hi hz0 hz1 hz2 rfl (by decide) _ _ _ rfl HO3.out ⟨X.heap.size, 0, none⟩ 1 1 [.int .i64 (k : Int)] rfl rfl ?c1 ?c2 ?c3 ?c4 ?c5 ?_)
              case c1 =>
                intro j u hj
                match j, hj with
                | 0, hj => simp at hj; subst hj; exact hcell3
              case c2 => intro u hu; simp at hu; subst hu; rfl
              case c3 => unfold maxLen; omega
              case c4 => omega
              case c5 => omega
              intro v' w4 hown4 hgr4 _ hat4
              obtain ⟨w5, hst, hbox5⟩ := HBY.out.put (a1, a2, a3) (k := k) HG3.out HH3.out v' (by rw [hEl]; exact hown4) (by rw [HVU.out]; exact hgr4) (by rw [HVU.out]; exact hat4)
              have HB5 := Lib.hid hbox5
              have HST5 := Lib.hid (show PairSt (KL keys3 T k ++ (keys3 (x, y, z)).take (p + 1)) k (fun b => if b = (a1, a2, a3) then E (a1, a2, a3) ++ [k] else E b) L' from by
                rw [← HKS.out]
                exact HST.out.push (a1, a2, a3) (by
                  rw [HLL.out, ← HIE.out]
                  simp))
              clear hown4 hgr4 hat4 hbox5 hent hcell3 hc0 hc1 hc2
              go_wp2
              go_roundw
              case rel => exact ⟨p + 1, _, _, _, L', by omega, by go_num, HB5.out.had, HB5.out.fam, HST5.out, HB5.out.seen, HB5.out.wit, by omega, HB5.out.row, HB5.out.bel⟩
              case measure => simp [intOf]; omega
        · obtain rfl : p = 3 := by omega
          have HM := Lib.hid hm
          have HF := Lib.hid hfam
          have HST := Lib.hid (show PairSt (KL keys3 T (k + 1)) (k + 1) E L from by
            rw [KL_succ, ht.out]
            have := hst.up
            rwa [List.take_of_length_le (by simp [keys3])] at this)
          have HSE := Lib.hid hseen
          have HWI := Lib.hid hwit
          have HB := Lib.hid hb
          clear hm hfam hst hseen hwit hb hrow
          go_wp2
          go_roundw
          case rel => exact ⟨k + 1, n, C, E, L, by omega, by go_num, HM.out, HF.out, HST.out, HSE.out, HWI.out, by omega, HB.out⟩
          case measure => simp [intOf]; omega
    · obtain rfl : k = len := by omega
      have HP := Lib.hid (show L = [] ↔ KeysApart T keys3 from by
        have h1 := hst.told
        rw [HL.out] at h1
        exact h1.trans ⟨KL_apart, KL_nodup⟩)
      obtain ⟨va, vc, hve⟩ := owns_slice hwit.1
      subst hve
      have HWw := Lib.hid (show WitRow W1 w.heap.size (.slice va L.length vc) 3 L from ⟨owns_base hwit.1 (by omega), hwit.2⟩)
      have HBw := Lib.hid hbw
      clear hb hbw hm hfam hst hseen hwit
      go_wp2
      go_ret
      exact ⟨_, L, rfl, HWw.out, by omega, HP.out, HBw.out⟩

set_option maxRecDepth 100000 in
set_option maxHeartbeats 4000000 in
theorem cpairs4 (N : Int) (ao : Option Addr) (cap : Nat) (T : List Tr) (w : World) (hT : TrisAt w ao T) (hl : T.length ≤ 8192) (hI : ∀ i, i < T.length → ∀ j, I64 (tg (T! T i) j)) :
    Calls Tryz.prog 112 #[.agg #[.int .i64 N, .slice ao T.length cap], .int .i64 4, .func (.func 114) #[] #[]] w (WitPost w 4 (KeysApart T keys4)) := by
  obtain ⟨i0, hi, hz0, hz1, hz2⟩ := info_parts info3
  obtain ⟨u0, gi, gz0, gz1, gz2⟩ := info_parts infoWit
  obtain ⟨len, hlen⟩ : ∃ n, n = T.length := ⟨_, rfl⟩
  rw [← hlen] at hl ⊢
  have HL := Lib.hid hlen
  have HT := Lib.hid hT
  have HI := Lib.hid (show ∀ i, i < T.length → ∀ k, k ∈ keys4 (T! T i) → I64 k.1 ∧ I64 k.2.1 ∧ I64 k.2.2 from fun i hi k hk => keys4_in (hI i hi) hk)
  have HKL := Lib.hid (show ∀ k, (KL keys4 T k).length = 1 * k from keys4_len T)
  have hmm := @run_makeMap Tryz.prog
  clear hlen hT hI
  go_enter Tryz.func112, Tryz.ntmps112
  have HM0 := Lib.hid (show MapB triFam ((((w.alloc (.cells #[.int .i64 N, .slice ao len cap] 24)).alloc (.map #[] 0)).alloc (.map #[] 0))) (w.heap.size + 1) 0 (fun _ => none) from by
    have h := MapB.made (F := triFam) (w.alloc (.cells #[.int .i64 N, .slice ao len cap] 24))
    have e : (w.alloc (.cells #[.int .i64 N, .slice ao len cap] 24)).heap.size = w.heap.size + 1 := by simp
    rw [e] at h
    exact h.below (Nat.le_refl _) ((Below.refl _ _).alloc (Nat.le_refl _) _))
  have HS0 := Lib.hid (show Seen ((((w.alloc (.cells #[.int .i64 N, .slice ao len cap] 24)).alloc (.map #[] 0)).alloc (.map #[] 0))) (w.heap.size + 2) [] from by
    have h := MapIs.made (F := pairFam) ((w.alloc (.cells #[.int .i64 N, .slice ao len cap] 24)).alloc (.map #[] 0))
    have e : ((w.alloc (.cells #[.int .i64 N, .slice ao len cap] 24)).alloc (.map #[] 0)).heap.size = w.heap.size + 2 := by simp
    rw [e] at h
    exact ⟨0, _, h, fun _ _ => rfl, fun a v h => by cases h⟩)
  have HB0 := Lib.hid (show Below (w.heap.size + 1) (w.alloc (.cells #[.int .i64 N, .slice ao len cap] 24)) ((((w.alloc (.cells #[.int .i64 N, .slice ao len cap] 24)).alloc (.map #[] 0)).alloc (.map #[] 0))) from
    ((Below.refl _ _).alloc (by simp) _).alloc (by simp) _)
  go_wp2
  go_loopw [22, 7] (fun i v ws => ∃ (k n : Nat) (C : Ky → Option Value) (E : Ky → List Nat) (L : List Ky), k ≤ len ∧ i = .int .i64 k ∧ MapB triFam ws (w.heap.size + 1) n C ∧ Fam ws (w.heap.size + 3) (fun x => (C x).getD (.slice none 0 0)) E ∧
      PairSt (KL keys4 T k) k E L ∧ Seen ws (w.heap.size + 2) L ∧ WitRow ws (w.heap.size + 3) v 4 L ∧ L.length ≤ 24576 * (1 * k) ∧
      Below (w.heap.size + 1) (w.alloc (.cells #[.int .i64 N, .slice ao len cap] 24)) ws) (fun i _ _ => len - (intOf i).toNat)
  case atStart => exact ⟨0, 0, _, _, [], by omega, rfl, HM0.out, Fam.nil _ _, PairSt.start _ (fun _ => rfl), HS0.out, WitRow.nil _ _ _, by simp, HB0.out⟩
  case round =>
    clear HM0 HB0 HS0
    obtain ⟨k, n, C, E, L, hk, rfl, hm, hfam, hst, hseen, hwit, hLl, hb⟩ := hrel
    obtain ⟨hc0, hc1, hbw, hsz⟩ := box_soup hb
    have HM := Lib.hid hm
    have HF := Lib.hid hfam
    have HST := Lib.hid hst
    have HSE := Lib.hid hseen
    have HWI := Lib.hid hwit
    have HB := Lib.hid hb
    obtain ⟨W1, rfl⟩ : ∃ W1 : World, W1 = wr := ⟨_, rfl⟩
    by_cases hlt : k < len
    · obtain ⟨b, off, x, y, z, rfl, ht, g0, g1, g2, hbs, hbs'⟩ := HT.out.get (Nat.le_refl _) hbw (i := k) (by have := HL.out; omega)
      clear hb hbw hbs hm hfam hst hseen hwit
      go_wp2_with fail
      refine (mirrored_keys x y z _).mono ?_
      rintro e w2 ⟨g, rfl, hg, hrow, hb2⟩
      have H2 := Lib.hid (show Below W1.heap.size W1 w2 from ((Below.refl _ _).alloc (Nat.le_refl _) (.cells #[.int .i64 x, .int .i64 y, .int .i64 z] 62)).trans (hb2.mono (by simp)))
      have HM2 := Lib.hid (HM.out.below (Nat.le_refl _) H2.out)
      have HF2 := Lib.hid (HF.out.more H2.out)
      have HSE2 := Lib.hid (HSE.out.below H2.out)
      have HWI2 := Lib.hid (HWI.out.below H2.out)
      have HB2 := Lib.hid (below_more HB.out H2.out (by omega))
      have HR2 := Lib.hid hrow
      have hgB : w.heap.size + 2 < g := by obtain ⟨_, _, h3, -⟩ := HSE.out; have := h3.lt; simp at hg; omega
      clear hb2 hrow H2 HM HF HSE HWI hg g0 g1 g2 hc0 hc1
      obtain ⟨W2, rfl⟩ : ∃ W2 : World, W2 = w2 := ⟨_, rfl⟩
      go_wp2
      go_loopw [31, 7] (fun i v ws => ∃ (p n : Nat) (C : Ky → Option Value) (E : Ky → List Nat) (L : List Ky), p ≤ 1 ∧ i = .int .i64 p ∧ MapB triFam ws (w.heap.size + 1) n C ∧ Fam ws (w.heap.size + 3) (fun x => (C x).getD (.slice none 0 0)) E ∧
          PairSt (KL keys4 T k ++ (keys4 (x, y, z)).take p) k E L ∧ Seen ws (w.heap.size + 2) L ∧ WitRow ws (w.heap.size + 3) v 4 L ∧ L.length ≤ 24576 * (1 * k + p) ∧ RowIs ws g 61 (kcells (keys4 (x, y, z))) ∧
          Below (w.heap.size + 1) (w.alloc (.cells #[.int .i64 N, .slice (some ⟨b, off, none⟩) len cap] 24)) ws) (fun i _ _ => 1 - (intOf i).toNat)
      case atStart => exact ⟨0, n, C, E, L, by omega, rfl, HM2.out, HF2.out, by simpa using HST.out, HSE2.out, HWI2.out, by omega, HR2.out, HB2.out⟩
      case round =>
        clear HM2 HB2 HR2 HF2 HSE2 HWI2 HST HB
        obtain ⟨p, n, C, E, L, hp, rfl, hm, hfam, hst, hseen, hwit, hLl, hrow, hb⟩ := hrel
        by_cases hp3 : p < 1
        · obtain ⟨ky, hky⟩ : ∃ ky, (keys4 (x, y, z))[p]? = some ky := ⟨_, List.getElem?_eq_getElem hp3⟩
          obtain ⟨c0, c1, c2⟩ := kcells_get (L := keys4 (x, y, z)) hky
          have hk0 := hrow.cell c0
          have hk1 := hrow.cell c1
          have hk2 := hrow.cell c2
          have hok : triFam.ok ky := HI.out k (by have := HL.out; omega) ky (by rw [ht.out]; exact List.mem_of_getElem? hky)
          obtain ⟨ks, hks⟩ : ∃ q, q = KL keys4 T k ++ (keys4 (x, y, z)).take p := ⟨_, rfl⟩
          have hksl : ks.length = 1 * k + p := by rw [hks, List.length_append, HKL.out, List.length_take]; have : (keys4 (x, y, z)).length = 1 := rfl; omega
          have HKS := Lib.hid (show ks ++ [ky] = KL keys4 T k ++ (keys4 (x, y, z)).take (p + 1) from by
            rw [hks, List.take_add_one, hky]; simp)
          rw [← hks] at hst
          obtain ⟨a1, a2, a3⟩ := ky
          obtain ⟨va, vc, hve⟩ := owns_slice hwit.1
          subst hve
          obtain ⟨I, hIe⟩ : ∃ I, I = E (a1, a2, a3) := ⟨_, rfl⟩
          have hIlen : I.length ≤ 24576 := by rw [hIe]; have := hst.len (a1, a2, a3); omega
          have HIlt := Lib.hid (show ∀ x, x ∈ I → x ≤ k from fun q hq => hst.lt _ q (by rw [← hIe]; exact hq))
          have hown := hfam.1 (a1, a2, a3)
          obtain ⟨vu, hvu⟩ : ∃ vu, (C (a1, a2, a3)).getD (.slice none 0 0) = vu := ⟨_, rfl⟩
          simp only [hvu] at hown
          rw [← hIe] at hown
          obtain ⟨au, cu, hvs⟩ := owns_slice hown
          have hlk := fun (W : World) (e : W.heap[w.heap.size + 1]? = wr.heap[w.heap.size + 1]?) => (hm.same e).to.look 169 45 (by kernel_rfl) zero_ints (a1, a2, a3) hok false
          have hmlt := hm.lt
          have hk3 := hlk (wr.alloc (.cells #[.int .i64 a1, .int .i64 a2, .int .i64 a3] 61)) (Below.heap_alloc _ _ _ hmlt)
          simp only [triFam, Bool.false_eq_true, if_false] at hk3
          rw [hvu, hvs] at hk3
          obtain ⟨X, hX⟩ : ∃ X, X = wr.alloc (.cells #[.int .i64 a1, .int .i64 a2, .int .i64 a3] 61) := ⟨_, rfl⟩
          have hXb : Below wr.heap.size wr X := by rw [hX]; exact (Below.refl _ _).alloc (Nat.le_refl _) _
          obtain ⟨gk, hgk⟩ : ∃ q, q = wr.heap.size := ⟨_, rfl⟩
          have HRK := Lib.hid (show RowIs X gk 61 [.int .i64 a1, .int .i64 a2, .int .i64 a3] from by rw [hX, hgk]; exact RowIs.made wr _ [_, _, _])
          have hgkb : w.heap.size + 2 < gk := by have := hseen.lt; omega
          have HPX := Lib.hid (show PBox (w.alloc (.cells #[.int .i64 N, .slice (some ⟨b, off, none⟩) len cap] 24)) (w.heap.size + 1) n C E g gk (kcells (keys4 (x, y, z))) [.int .i64 a1, .int .i64 a2, .int .i64 a3] 4 (.slice va L.length vc) L X from
            ⟨hm.below (Nat.le_refl _) hXb, hfam.more hXb, hseen.below hXb, hwit.below hXb, hrow.after hXb, HRK.out, ⟨hgB, hgkb⟩, below_more hb hXb (Nat.le_of_lt hm.lt)⟩)
          have HST := Lib.hid hst
          have HIE := Lib.hid hIe
          have HVU := Lib.hid (hvu.trans hvs)
          have HX := Lib.hid hX
          have HGK := Lib.hid hgk
          clear hm hfam hst hseen hwit hrow hb hown hlk hmlt hXb hks hvu hIe hvs hX hgk HRK
          go_upto_region 11 with fail
          rw [← HGK.out, ← HX.out]
          go_loopw [39, 7] (fun i v ws => ∃ (j : Nat) (L' : List Ky), j ≤ I.length ∧ i = .int .i64 j ∧ PBox (w.alloc (.cells #[.int .i64 N, .slice (some ⟨b, off, none⟩) len cap] 24)) (w.heap.size + 1) n C E g gk (kcells (keys4 (x, y, z))) [.int .i64 a1, .int .i64 a2, .int .i64 a3] 4 v L' ws ∧
              L'.length ≤ L.length + j ∧ (L' = [] ↔ L = [] ∧ j = 0)) (fun i _ _ => I.length - (intOf i).toNat)
          case atStart => exact ⟨0, L, by omega, rfl, HPX.out, by omega, by simp⟩
          case round =>
            clear HPX
            obtain ⟨j, L', hj, rfl, hbox, hLl', hL'⟩ := hrel
            obtain ⟨X, rfl⟩ : ∃ X : World, X = wr := ⟨_, rfl⟩
            have HLL := Lib.hid hL'
            by_cases hjl : j < I.length
            · obtain ⟨q, hq⟩ : ∃ q, I[j]? = some q := ⟨_, List.getElem?_eq_getElem hjl⟩
              have hown := hbox.fam.1 (a1, a2, a3)
              simp only [HVU.out] at hown
              rw [← HIE.out] at hown
              obtain ⟨ga, ca, hve, hga, hgs, -, -, hcell, -⟩ := owns_block hown (by omega)
              cases hve
              have hqc := hcell j _ (nv_get hq)
              have hqk := HIlt.out q (List.mem_of_getElem? hq)
              have hq64 : I64 (q : Int) := ⟨by omega, by omega⟩
              have hk64 : I64 (k : Int) := ⟨by omega, by omega⟩
              have hask := (hbox.below ((Below.refl _ _).alloc (Nat.le_refl _) (.cells #[.int .i64 (q : Int), .int .i64 (k : Int)] 79))).ask (q : Int) (k : Int) hq64 hk64
              have HBX := Lib.hid (hbox.below ((Below.refl _ _).alloc (Nat.le_refl _) (.cells #[.int .i64 (q : Int), .int .i64 (k : Int)] 79)))
              clear hown hcell hq hbox hL'
              rcases hask with ⟨hlk, hne⟩ | ⟨hlk, w4, hst, hsee, hg4⟩
              · clear hk0 hk1 hk2
                go_wp2
                go_roundw
                case rel => exact ⟨j + 1, L', by omega, by go_num, HBX.out, by omega, by constructor <;> intro h <;> first | exact absurd h hne | omega⟩
                case measure => simp [intOf]; omega
              · have HSEE := Lib.hid hsee
                have HG4 := Lib.hid hg4
                have HW4 := Lib.hid (owns_low HBX.out.wit.1 hg4 (by omega))
                have hw4s : w.heap.size + 3 ≤ w4.heap.size := by have := HBX.out.key.lt; have := HBX.out.far.2; have := hg4.size; omega
                have HFAR := Lib.hid HBX.out.far
                clear hsee hg4 hk0 hk1 hk2
                go_wp2_with (at_builtin; refine wpList_append_new _ rfl _ _ 111 rfl (w.heap.size + 3) 52 u0 _ 3 24 (by kernel_rfl) gi gz0 gz1 gz2 rfl (by decide) _ _ _ rfl HW4.out _ _ _ rfl (by first | rfl | simp) rfl ?_ ?_ ?_ ?_ ?_)
                all_goals first | rfl | omega | (unfold maxLen; omega) | exact ⟨rfl, rfl⟩ | exact ⟨rfl, rfl, rfl⟩ | skip
                · intro v' w5 hown5 hbel hgr
                  have HB5 := Lib.hid (HBX.out.tell HG4.out HSEE.out _ v' (q : Int) (k : Int) hown5 hgr)
                  clear hown5 hbel hgr hlk hst
                  go_wp2
                  go_roundw
                  case rel => exact ⟨j + 1, L' ++ [(4, (q : Int), (k : Int))], by omega, by go_num, HB5.out, by simp; omega, by simp⟩
                  case measure => simp [intOf]; omega
            · obtain rfl : j = I.length := by omega
              obtain ⟨w3, cl, hent, hg3, nn, hheld⟩ := (hbox.below ((Below.refl _ _).alloc (Nat.le_refl _) (.cells #[.int .i64 (k : Int)] 3))).take (a1, a2, a3) hok
              have HBY := Lib.hid (hbox.below ((Below.refl _ _).alloc (Nat.le_refl _) (.cells #[.int .i64 (k : Int)] 3)))
              have ho3 := (HBY.out.fam.other hg3 (by omega)).1 (a1, a2, a3)
              simp only [HVU.out] at ho3 hent
              have hE := HIE.out
              have HO3 := Lib.hid ho3
              have hEl : (E (a1, a2, a3)).length = I.length := by rw [← hE]
              have hcell3 : w3.cell? ⟨X.heap.size, 0, none⟩ = some (.int .i64 k) := by
                have h1 := RowIs.made X 3 [.int .i64 (k : Int)]
                have h2 := h1.grown hg3 (by have := hbox.had.lt; simp; omega)
                exact h2.cell (i := 0) rfl
              have hc0 := hbox.key.cell (i := 0) rfl
              have hc1 := hbox.key.cell (i := 1) rfl
              have hc2 := hbox.key.cell (i := 2) rfl
              have h3s : w.heap.size + 3 ≤ w3.heap.size := by have := HBY.out.key.lt; have := HBY.out.far.2; have := hg3.size; omega
              have HG3 := Lib.hid hg3
              have HH3 := Lib.hid hheld
              clear hbox hg3 hheld ho3 hE hL' hk0 hk1 hk2
              go_wp2_with (at_builtin; refine wpList_append_own_at _ rfl _ _ 45 rfl (w.heap.size + 3) 3 i0 (.int .i64 0) 1 8 (by kernel_rfl) hi hz0 hz1 hz2 rfl (by decide) _ _ _ rfl HO3.out ⟨X.heap.size, 0, none⟩ 1 1 [.int .i64 (k : Int)] rfl rfl ?c1 ?c2 ?c3 ?c4 ?c5 ?_)
              case c1 =>
                intro j u hj
                match j, hj with
                | 0, hj => simp at hj; subst hj; exact hcell3
              case c2 => intro u hu; simp at hu; subst hu; rfl
              case c3 => unfold maxLen; omega
              case c4 => omega
              case c5 => omega
              intro v' w4 hown4 hgr4 _ hat4
              obtain ⟨w5, hst, hbox5⟩ := HBY.out.put (a1, a2, a3) (k := k) HG3.out HH3.out v' (by rw [hEl]; exact hown4) (by rw [HVU.out]; exact hgr4) (by rw [HVU.out]; exact hat4)
              have HB5 := Lib.hid hbox5
              have HST5 := Lib.hid (show PairSt (KL keys4 T k ++ (keys4 (x, y, z)).take (p + 1)) k (fun b => if b = (a1, a2, a3) then E (a1, a2, a3) ++ [k] else E b) L' from by
                rw [← HKS.out]
                exact HST.out.push (a1, a2, a3) (by
                  rw [HLL.out, ← HIE.out]
                  simp))
              clear hown4 hgr4 hat4 hbox5 hent hcell3 hc0 hc1 hc2
              go_wp2
              go_roundw
              case rel => exact ⟨p + 1, _, _, _, L', by omega, by go_num, HB5.out.had, HB5.out.fam, HST5.out, HB5.out.seen, HB5.out.wit, by omega, HB5.out.row, HB5.out.bel⟩
              case measure => simp [intOf]; omega
        · obtain rfl : p = 1 := by omega
          have HM := Lib.hid hm
          have HF := Lib.hid hfam
          have HST := Lib.hid (show PairSt (KL keys4 T (k + 1)) (k + 1) E L from by
            rw [KL_succ, ht.out]
            have := hst.up
            rwa [List.take_of_length_le (by simp [keys4])] at this)
          have HSE := Lib.hid hseen
          have HWI := Lib.hid hwit
          have HB := Lib.hid hb
          clear hm hfam hst hseen hwit hb hrow
          go_wp2
          go_roundw
          case rel => exact ⟨k + 1, n, C, E, L, by omega, by go_num, HM.out, HF.out, HST.out, HSE.out, HWI.out, by omega, HB.out⟩
          case measure => simp [intOf]; omega
    · obtain rfl : k = len := by omega
      have HP := Lib.hid (show L = [] ↔ KeysApart T keys4 from by
        have h1 := hst.told
        rw [HL.out] at h1
        exact h1.trans ⟨KL_apart, KL_nodup⟩)
      obtain ⟨va, vc, hve⟩ := owns_slice hwit.1
      subst hve
      have HWw := Lib.hid (show WitRow W1 w.heap.size (.slice va L.length vc) 4 L from ⟨owns_base hwit.1 (by omega), hwit.2⟩)
      have HBw := Lib.hid hbw
      clear hb hbw hm hfam hst hseen hwit
      go_wp2
      go_ret
      exact ⟨_, L, rfl, HWw.out, by omega, HP.out, HBw.out⟩
end Go.Proofs.YtbeefabboabfgaaGreat

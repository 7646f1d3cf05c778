/- gypsumlaw18.TreeLeft: the walk. -/
import Derived.Test.YtkjamheoihlekaaGreatGraph18
import Derived.Test.YtkjamheoihlekaaGreatSeen18
import Derived.Test.YtkjamheoihlekaaGreatLeftFin
namespace Go.Proofs.YtkjamheoihlekaaGreat
set_option linter.unusedVariables false
set_option linter.unusedSimpArgs false
open Go.RowKit Go.Maps
theorem mapE_len {w : World} {m n : Nat} {C : Int × Int → Option Value} (h : MapB edgeFam w m n C) {V : List (Int × Int)} (hn : V.Nodup) (hV : ∀ v, v ∈ V ↔ C v ≠ none) : (Builtin.len_ #[68] 3 #[.map (some m)]).run Tryz.prog w = .ok (.int .i64 (V.length : Nat)) w := by
  have hle := mapB_bound h (S := V) fun a ha => (hV a).2 ha
  have hIs := h.to
  obtain ⟨L, clock, q1, q2, q3, q4, q5⟩ := h
  have hge : V.length ≤ L.length := by
    have hnd : (V.map edgeFam.kv).Nodup := by
      rw [List.nodup_iff_pairwise_ne, List.pairwise_map]
      exact (List.nodup_iff_pairwise_ne.1 hn).imp fun {a b} hab e => hab (edgeFam.inj a b e)
    have := hnd.length_le_of_subset (l₂ := L.map (·.key)) fun x hx => by
      obtain ⟨v, hv, rfl⟩ := List.mem_map.1 hx
      have hs := (hV v).1 hv
      obtain ⟨u, hu⟩ := Option.ne_none_iff_exists'.1 hs
      obtain ⟨e, he, hk⟩ := q4 v u hu
      exact List.mem_map.2 ⟨e, he, hk⟩
    simpa using this
  obtain ⟨es, clock', h1, h2, _⟩ := hIs
  have hu : Tryz.prog.underlying 68 = some (.map 40 4) := by kernel_rfl
  have hev : n = V.length := by omega
  simp [Builtin.len_, run_underlying hu, MapKept.run_getObj_map h1, Result.andThen, goInt, h2, hev]
/-- What is left, and what the first links face. -/
def InL (T : List Tr) (s : BfS) (R : List (Int × Int)) (k : Nat) (e : Int × Int) : Prop := e ∈ R ∨ ∃ t c : Nat, t < k ∧ s.l t = (c : Int) ∧ e = ukey T c
theorem InL_no {T : List Tr} {s : BfS} {R : List (Int × Int)} {k : Nat} (h : s.l k < 0) (e : Int × Int) : InL T s R (k + 1) e ↔ InL T s R k e := by
  unfold InL
  constructor
  · rintro (q | ⟨t, c, h1, h2, h3⟩)
    · exact .inl q
    · by_cases e : t = k
      · subst e; omega
      · exact .inr ⟨t, c, by omega, h2, h3⟩
  · rintro (q | ⟨t, c, h1, h2, h3⟩)
    · exact .inl q
    · exact .inr ⟨t, c, by omega, h2, h3⟩
theorem InL_yes {T : List Tr} {s : BfS} {R : List (Int × Int)} {k c : Nat} (h : s.l k = (c : Int)) (e : Int × Int) : InL T s R (k + 1) e ↔ InL T s R k e ∨ e = ukey T c := by
  unfold InL
  constructor
  · rintro (q | ⟨t, c', h1, h2, h3⟩)
    · exact .inl (.inl q)
    · by_cases e : t = k
      · subst e
        right
        rw [h3]
        congr 1
        omega
      · exact .inl (.inr ⟨t, c', by omega, h2, h3⟩)
  · rintro ((q | ⟨t, c', h1, h2, h3⟩) | q)
    · exact .inl q
    · exact .inr ⟨t, c', by omega, h2, h3⟩
    · exact .inr ⟨k, c, by omega, h, q⟩
set_option maxRecDepth 100000 in
set_option maxHeartbeats 8000000 in
theorem treeleft_any (N : Int) (ao : Option Addr) (cap : Nat) (T : List Tr) (from_ : Int) (w : World) (hT : TrisAt w ao T) (hm : T.length ≤ 9223372036854775807) (ht : 0 ≤ from_ ∧ from_ < 256) :
    Calls Tryz.prog 10 #[.agg #[.int .i64 N, .slice ao T.length cap], .int .u8 from_] w fun e w' => e = .returned (.bool true) ∧ Below w.heap.size w w' := by
  obtain ⟨xb, hxb⟩ : ∃ b, b = w.heap.size := ⟨_, rfl⟩
  obtain ⟨W0, hW0⟩ : ∃ W0, W0 = w.alloc (.cells #[.int .i64 N, .slice ao T.length cap] 24) := ⟨_, rfl⟩
  have hb0 : Below w.heap.size w W0 := by rw [hW0]; exact (Below.refl _ _).alloc (Nat.le_refl _) _
  have hr0 : RowIs W0 xb 24 [.int .i64 N, .slice ao T.length cap] := by rw [hW0, hxb]; exact RowIs.made w 24 [.int .i64 N, .slice ao T.length cap]
  have HAW := Lib.hid (awake18 W0)
  have HT := Lib.hid (hT.mono (Nat.le_refl _) hb0)
  have HR := Lib.hid hr0
  have HB0 := Lib.hid hb0
  have HW0 := Lib.hid hW0
  have HXB := Lib.hid hxb
  have HTF := Lib.hid ht
  clear hb0 hr0 hW0 hT hxb ht
  go_enter Tryz.func10, Tryz.ntmps10
  go_upto_region 1 with fail
  simp only [← HXB.out]
  rw [← HW0.out]
  go_wp2_with fail
  refine HAW.out.mono ?_
  rintro e w1 ⟨rfl, hb1⟩
  have hr1 := HR.out.after hb1
  have x0 := hr1.cell (i := 0) rfl
  have x1 := hr1.cell (i := 1) rfl
  have HB1 := Lib.hid hb1
  have HL := Lib.hid (laid_any N ao cap T w1 (HT.out.mono (Nat.le_refl _) hb1) hm)
  clear hb1 hr1 HAW
  go_wp2_with fail
  refine HL.out.mono ?_
  intro e w2 hpost
  rcases hpost with ⟨n, p, hN, rfl, hp, htab, hfst, hsurf, ht40, hn60, hb2⟩ | ⟨rfl, -, hb2⟩
  case inr =>
    have HF := Lib.hid (below_more HB0.out (below_more HB1.out hb2 HB1.out.size) HB0.out.size)
    clear hb2 x0 x1
    go_wp2
    exact bodyPost_ret (v := .bool true) (by simp [results, Tryz.results10, go_sem]) rfl ⟨rfl, HF.out⟩
  case inl =>
  subst hN
  have HB2 := Lib.hid (below_more HB1.out hb2 HB1.out.size)
  have hr2 := HR.out.after HB2.out
  have y0 := hr2.cell (i := 0) rfl
  have y1 := hr2.cell (i := 1) rfl
  obtain ⟨L, hL⟩ := shells_exist (Adj T) T.length
  have hc0 := cnt_nonneg L T.length
  obtain ⟨m, hmL⟩ : ∃ m : Nat, (m : Int) = cnt L T.length := ⟨(cnt L T.length).toNat, by omega⟩
  obtain ⟨F, hF⟩ : ∃ F, F = T.length := ⟨_, rfl⟩
  have HF := Lib.hid hF
  have HS := Lib.hid hsurf
  have HSH := Lib.hid hL
  have HML := Lib.hid hmL
  have HTAB := Lib.hid htab
  have HFW := Lib.hid (show ∀ X, Below w2.heap.size w2 X → Below w.heap.size w X from fun X h => below_more HB0.out (below_more HB2.out h HB2.out.size) HB0.out.size)
  have HR2 := Lib.hid hr2
  have HT2 := Lib.hid (HT.out.mono (Nat.le_refl _) HB2.out)
  have HG := Lib.hid (genus_of p n m T L w2 htab hfst hsurf hL hmL)
  simp only [← hF] at y0 y1 HR2 hm ht40
  rw [← hF]
  clear hb2 x0 x1 hr2 htab hfst hsurf HL hF hL hmL hc0
  by_cases hF0 : F = 0
  case pos =>
    have g0 : ((F : Int) == 0) = true := by simp; omega
    clear hF0
    go_wp2
    exact bodyPost_ret (v := .bool true) (by simp [results, Tryz.results10, go_sem]) rfl ⟨rfl, HFW.out _ (Below.refl _ _)⟩
  case neg =>
  have g0 : ((F : Int) == 0) = false := by simp; omega
  go_wp2_with fail
  refine HG.out.mono ?_
  rintro e w3 ⟨g3, rfl, hg3, -, hb3⟩
  have hr3 := HR2.out.after hb3
  have z0 := hr3.cell (i := 0) rfl
  have z1 := hr3.cell (i := 1) rfl
  have HB3 := Lib.hid hb3
  have HR3 := Lib.hid hr3
  clear hg3 hb3 hr3 y0 y1 HG
  by_cases h1 : m = 1
  case neg =>
    have g1 : ((m : Int) != 1) = true := by simp; omega
    clear h1
    go_wp2
    exact bodyPost_ret (v := .bool true) (by simp [results, Tryz.results10, go_sem]) rfl ⟨rfl, HFW.out _ HB3.out⟩
  case pos =>
  subst h1
  obtain ⟨l3, hl3⟩ : ∃ l, l = 3 * F := ⟨_, rfl⟩
  have h3 : (3 : Int) * (F : Int) = (l3 : Int) := by omega
  have n0 : (l3 : Int) ≠ 0 := by omega
  obtain ⟨f, hf⟩ : ∃ k : Nat, from_ % (l3 : Int) = (k : Int) := ⟨(from_ % (l3 : Int)).toNat, by have := Int.emod_nonneg from_ (b := (l3 : Int)) (by omega); omega⟩
  have hfn : f < l3 := by have := Int.emod_lt_of_pos from_ (b := (l3 : Int)) (by omega); omega
  have hf2 : from_.tmod (l3 : Int) = (f : Int) := by rw [Int.tmod_eq_emod_of_nonneg HTF.out.1]; exact hf
  have hwt : IntKind.i64.wrap from_ = from_ := IntWalk.i64_in _ (by have := HTF.out; omega)
  have hwl : IntKind.i64.wrap (l3 : Int) = (l3 : Int) := IntWalk.i64_in _ (by omega)
  have hwf : IntKind.i64.wrap (f : Int) = (f : Int) := IntWalk.i64_in _ (by omega)
  have HL3 := Lib.hid hl3
  have HFF := Lib.hid (show f < 3 * T.length from by rw [← HF.out, ← hl3]; exact hfn)
  have HRS := Lib.hid (rest_ok p n T f w3 (HTAB.out.mono (Nat.le_refl _) HB3.out) HS.out HFF.out)
  clear hl3 hf hF0
  go_wp2_with fail
  refine HRS.out.mono ?_
  rintro e Xs0 ⟨a4, c4, D, ⟨hn, hD⟩, rfl, hE4, hb4⟩
  obtain ⟨E, hE⟩ : ∃ E, E = sortP D := ⟨_, rfl⟩
  have hEl : E.length = D.length := by rw [hE]; exact (sortP_perm D).length_eq
  have hEn : E.Nodup := by rw [hE]; exact (sortP_perm D).nodup_iff.2 hn
  have hEm : ∀ e, e ∈ E ↔ restB T (bfs T f) e := fun e => by rw [hE, sortP_mem, hD]
  have hfew := rest_few18 hn hD
  have hE64 : EI64 E := by rw [hE]; exact rest_i64 HS.out hD
  rw [← hE] at hE4
  obtain ⟨q, hq⟩ : ∃ q, q = E.length := ⟨_, rfl⟩
  rw [show D.length = q by omega]
  have hqb : q ≤ 10000 := by have := HS.out.t1; have := HF.out; omega
  have HALL := Lib.hid (reach_all HS.out HFF.out HSH.out (fun i j hi hj => by
    have a := cnt_lt L T.length i hi
    have b := cnt_lt L T.length j hj
    have c := HSH.out.nonneg i hi
    have d := HSH.out.nonneg j hj
    have := HML.out
    omega))
  have HI := Lib.hid (show BfI T f (bfs T f) from bfs_inv HS.out HFF.out _)
  have HEN := Lib.hid hq
  have HND := Lib.hid hEn
  have HEM := Lib.hid hEm
  have HEI := Lib.hid hE64
  have HB4 := Lib.hid hb4
  have HEQ0 := Lib.hid (show ∀ Y, Below Xs0.heap.size Xs0 Y → EdgesAt Y a4 E from fun Y h => hE4.mono (Nat.le_refl _) h)
  have HY0 := Lib.hid (show ∀ Y, Below Xs0.heap.size Xs0 Y → Tab Y p n T ∧ RowIs Y xb 24 [.int .i64 (n : Int), .slice ao F cap] ∧ TrisAt Y ao T ∧ Below w.heap.size w Y from fun Y h => by
    have h2 := below_more hb4 h hb4.size
    have h3 := below_more HB3.out h2 HB3.out.size
    exact ⟨HTAB.out.mono (Nat.le_refl _) h3, HR3.out.after h2, HT2.out.mono (Nat.le_refl _) h3, HFW.out Y h3⟩)
  obtain ⟨mi, hmi⟩ : ∃ m, m = Xs0.heap.size := ⟨_, rfl⟩
  have HMI := Lib.hid hmi
  have HMP := Lib.hid (show MapB edgeFam (Xs0.alloc (.map #[] 0)) mi 0 (mC (fun e => e ∈ E.take 0)) from by
    rw [show mC (fun e => e ∈ E.take 0) = fun _ => none from by rw [← mC_none]; exact mC_congr fun e => by simp, hmi]
    exact MapB.made Xs0)
  have HBM := Lib.hid (show Below mi Xs0 (Xs0.alloc (.map #[] 0)) from by rw [hmi]; exact (Below.refl _ _).alloc (Nat.le_refl _) _)
  have hmm := @run_makeMap Tryz.prog
  clear hn hD hE4 hb4 hE hEl hEn hEm hfew hE64 hq z0 z1 HRS hwt hf2 hwl hmi
  go_wp2
  simp only [← HMI.out]
  go_loopw [48] (fun v ws => ∃ i cn : Nat, i ≤ q ∧ v = .int .i64 i ∧ MapB edgeFam ws mi cn (mC (fun e => e ∈ E.take i)) ∧ Below mi Xs0 ws) (fun v _ => q - (intOf v).toNat)
  case atStart => exact ⟨0, 0, by omega, rfl, HMP.out, HBM.out⟩
  case round =>
  clear HMP HBM
  obtain ⟨i, cn, hi, rfl, hmap, hb⟩ := hrel
  obtain ⟨X, rfl⟩ : ∃ X : World, X = wr := ⟨_, rfl⟩
  have HB := Lib.hid hb
  have HMAP := Lib.hid hmap
  have hbX : Below Xs0.heap.size Xs0 X := by rw [← HMI.out]; exact hb
  by_cases hiq : i < q
  case pos =>
    have hil : i < E.length := by rw [← HEN.out]; exact hiq
    obtain ⟨eb, eoff, rfl, -, hec⟩ := HEQ0.out X hbX (fun e => by rw [e] at hil; simp at hil)
    obtain ⟨k1, k2⟩ := hec i hil
    obtain ⟨⟨a, b⟩, hab⟩ : ∃ e, e = E! E i := ⟨_, rfl⟩
    have hEi : E[i]? = some (a, b) := by
      rw [List.getElem?_eq_getElem hil, hab]
      simp [E!, hil]
    have h64 : I64 a ∧ I64 b := by have := HEI.out _ (E!_mem hil); rw [← hab] at this; exact this
    rw [← hab] at k1 k2
    have bi : (0 : Int) ≤ (i : Int) ∧ (i : Int) < (q : Int) := by omega
    obtain ⟨xb2, hxb2⟩ : ∃ b, b = X.heap.size := ⟨_, rfl⟩
    obtain ⟨X1, hX1⟩ : ∃ X1, X1 = X.alloc (.cells #[.int .i64 a, .int .i64 b] 40) := ⟨_, rfl⟩
    have hbX1 : Below X.heap.size X X1 := by rw [hX1]; exact (Below.refl _ _).alloc (Nat.le_refl _) _
    have hrX1 : RowIs X1 xb2 40 [.int .i64 a, .int .i64 b] := by rw [hX1, hxb2]; exact RowIs.made X 40 [.int .i64 a, .int .i64 b]
    have e0 := hrX1.cell (i := 0) rfl
    have e1 := hrX1.cell (i := 1) rfl
    have hm1 := hmap.below (Nat.le_refl _) hbX1
    have hnin : (a, b) ∉ E.take i := fun h => by
      have hnd := HND.out
      obtain ⟨j, hj, hje⟩ := List.mem_take_iff_getElem.1 h
      have := List.pairwise_iff_getElem.1 (List.nodup_iff_pairwise_ne.1 hnd) j i (by omega) hil (by omega)
      refine this ?_
      rw [hje]
      have := (List.getElem?_eq_some_iff.1 hEi).2
      exact this.symm
    have hlk := hm1.to.look 68 4 (by kernel_rfl) zeroBool (a, b) h64 false
    simp only [Bool.false_eq_true, if_false, edgeFam, mC_getD] at hlk
    have hlk2 : (Instr.lookup 68 (.map (some mi)) (.agg #[.int .i64 a, .int .i64 b]) false).run Tryz.prog X1 = .ok (.bool false) X1 := by rw [hlk]; simp [hnin]
    obtain ⟨X2, hst, hm2, hg2⟩ := hm1.store 68 4 (by kernel_rfl) (a, b) h64 (.bool true)
    rw [mC_store] at hm2
    simp only [edgeFam] at hst
    have hP : mC (fun e => e ∈ E.take i ∨ e = (a, b)) = mC (fun e => e ∈ E.take (i + 1)) := mC_congr fun e => by
      rw [List.take_add_one, hEi]
      simp
    rw [hP] at hm2
    have HN := Lib.hid (show ∃ cn', MapB edgeFam X2 mi cn' (mC (fun e => e ∈ E.take (i + 1))) ∧ Below mi Xs0 X2 from
      ⟨_, hm2, (below_more hb hbX1 (Nat.le_of_lt hmap.lt)).grown hg2 (by have := hm1.lt; omega) (fun q hq => by cases hq; exact Nat.le_refl _)⟩)
    have HX1 := Lib.hid hX1
    have HXB2 := Lib.hid hxb2
    clear hil hec hab hEi h64 hbX1 hrX1 hm1 hnin hm2 hg2 hP hmap hb hbX hX1 hxb2 hlk
    go_upto_region 12 with fail
    rw [← HX1.out]
    simp only [← HXB2.out]
    clear k1 k2
    go_wp2
    obtain ⟨cn', n1, n2⟩ := HN.out
    go_roundw
    case rel => exact ⟨i + 1, cn', by omega, by go_num, n1, n2⟩
    case measure => simp [intOf]; omega
  case neg =>
  obtain rfl : q = i := by omega
  have HD := Lib.hid (dual_ok p n T f X (HY0.out X hbX).1 HS.out HFF.out)
  rw [← HF.out] at HD
  have HM0 := Lib.hid (show MapB edgeFam X mi cn (mC (InL T (bfs T f) E 0)) from by
    rw [show mC (InL T (bfs T f) E 0) = mC (fun e => e ∈ E.take q) from mC_congr fun e => by
      rw [HEN.out, List.take_length]
      unfold InL
      exact ⟨fun h => h.elim id fun ⟨t, c, h1, _⟩ => by omega, .inl⟩]
    exact hmap)
  clear hmap hb hbX HMAP
  go_wp2_with fail
  refine HD.out.mono ?_
  rintro e X5 ⟨gl, rfl, hrl, hb5⟩
  have hM5 := HM0.out.below (Nat.le_refl _) hb5
  have hlt5 := HM0.out.lt
  have HB5 := Lib.hid (below_more HB.out hb5 (Nat.le_of_lt hlt5))
  have HM5 := Lib.hid hM5
  have HRL := Lib.hid hrl
  -- the links' block is not the map's
  have HRX := Lib.hid (show mi < X5.heap.size from hM5.lt)
  have hglm : gl ≠ mi := fun e => by
    obtain ⟨LL, clock, q1, -⟩ := hM5
    have h2 := hrl
    unfold RowIs at h2
    rw [e, q1] at h2
    simp at h2
  have HGM := Lib.hid hglm
  clear hb5 hM5 hrl hlt5 hglm HM0 HB HD
  go_wp2
  go_loopw [62] (fun v ws => ∃ k cn : Nat, k ≤ F ∧ v = .int .i64 k ∧ MapB edgeFam ws mi cn (mC (InL T (bfs T f) E k)) ∧ RowIs ws gl 3 (iv (bfs T f).l F) ∧ Below mi Xs0 ws) (fun v _ => F - (intOf v).toNat)
  case atStart => exact ⟨0, cn, by omega, rfl, HM5.out, HRL.out, HB5.out⟩
  case round =>
  clear HM5 HB5 HRL
  obtain ⟨k, cn, hk, rfl, hmap, hrl, hb⟩ := hrel
  obtain ⟨Y, rfl⟩ : ∃ X : World, X = wr := ⟨_, rfl⟩
  have HB := Lib.hid hb
  have HMAP := Lib.hid hmap
  have HRL := Lib.hid hrl
  have hbY : Below Xs0.heap.size Xs0 Y := by rw [← HMI.out]; exact hb
  by_cases hkF : k < F
  case pos =>
    have bk : (0 : Int) ≤ (k : Int) ∧ (k : Int) < (F : Int) := by omega
    have cl := hrl.cell (i := k) (v := .int .i64 ((bfs T f).l k)) (iv_get _ hkF)
    have hkT : k < T.length := by rw [← HF.out]; exact hkF
    by_cases hk0 : k = f / 3
    case pos =>
      have hl : (bfs T f).l k = -1 := by rw [hk0]; exact HI.out.rt
      rw [hl] at cl
      have HN := Lib.hid (show MapB edgeFam Y mi cn (mC (InL T (bfs T f) E (k + 1))) from by
        rw [mC_congr (InL_no (by omega))]
        exact hmap)
      clear hmap hrl hb hbY hl hk0
      go_wp2
      go_roundw
      case rel => exact ⟨k + 1, cn, by omega, by go_num, HN.out, HRL.out, HB.out⟩
      case measure => simp [intOf]; omega
    case neg =>
    have hko := HALL.out k hkT
    obtain ⟨c, hl, hc3, -⟩ := link_c HS.out HFF.out hko hk0
    rw [hl] at cl
    have g1 : decide ((c : Int) ≥ 0) = true := by simp
    have hcl3 : c < l3 := by rw [HL3.out, HF.out]; exact hc3
    obtain ⟨htb, hrb, -, hbw⟩ := HY0.out Y hbY
    have HED := Lib.hid (edge_any (c : Int) Y p n T (by have := HS.out.t1; omega) htb.s (by omega) (by omega))
    have hkey : ukey T c = flatE (vt T (nx (c : Int))) (vt T (pv (c : Int))) := by
      rw [nx_nat, pv_nat]
      rfl
    have h64 := ukey_i64 HS.out hc3
    obtain ⟨u, hu⟩ : ∃ u, u = vt T (nx (c : Int)) := ⟨_, rfl⟩
    obtain ⟨v, hv⟩ : ∃ u, u = vt T (pv (c : Int)) := ⟨_, rfl⟩
    rw [← hu, ← hv] at HED hkey
    obtain ⟨⟨a, b⟩, hab⟩ : ∃ e, e = ukey T c := ⟨_, rfl⟩
    rw [← hab] at hkey h64
    have hnin : ¬ InL T (bfs T f) E k (a, b) := by
      rw [hab]
      rintro (q1 | ⟨t, c', h1, h2, h3⟩)
      · exact ((HEM.out _).1 q1).2 ⟨k, c, hko, hl, rfl⟩
      · have := faced_inj HS.out HFF.out (HALL.out t (by omega)) hko h2 hl h3.symm
        omega
    have HNIN := Lib.hid hnin
    have H64 := Lib.hid h64
    have HFLT := Lib.hid (show ∀ Z : World, Calls Tryz.prog 25 #[.agg #[.int .i64 u, .int .i64 v]] Z fun e w' => e = .returned (.agg #[.int .i64 a, .int .i64 b]) ∧ Below Z.heap.size Z w' from fun Z => by
      have := flat18 u v Z
      rw [← hkey] at this
      exact this)
    have HIY := Lib.hid (show ∀ e, InL T (bfs T f) E (k + 1) e ↔ InL T (bfs T f) E k e ∨ e = (a, b) from fun e => by rw [InL_yes hl, hab])
    clear hmap hrl hb hbY hk0 hko hl hc3 hcl3 htb hrb hbw hkey h64 hu hv hab hnin hkT
    go_wp2_with fail
    refine HED.out.mono ?_
    rintro e Y2 ⟨rfl, hb2⟩
    have HB2 := Lib.hid hb2
    clear hb2
    go_wp2_with fail
    refine (HFLT.out Y2).mono ?_
    rintro e Y3 ⟨rfl, hb3⟩
    have hY3 : Below Y.heap.size Y Y3 := below_more HB2.out hb3 HB2.out.size
    obtain ⟨xb2, hxb2⟩ : ∃ b, b = Y3.heap.size := ⟨_, rfl⟩
    obtain ⟨Y4, hY4⟩ : ∃ X1, X1 = Y3.alloc (.cells #[.int .i64 a, .int .i64 b] 40) := ⟨_, rfl⟩
    have hbY4 : Below Y.heap.size Y Y4 := by rw [hY4]; exact hY3.alloc hY3.size _
    have hrY4 : RowIs Y4 xb2 40 [.int .i64 a, .int .i64 b] := by rw [hY4, hxb2]; exact RowIs.made Y3 40 [.int .i64 a, .int .i64 b]
    have e0 := hrY4.cell (i := 0) rfl
    have e1 := hrY4.cell (i := 1) rfl
    have hm4 := HMAP.out.below (Nat.le_refl _) hbY4
    have hlk := hm4.to.look 68 4 (by kernel_rfl) zeroBool (a, b) H64.out false
    simp only [Bool.false_eq_true, if_false, edgeFam, mC_getD] at hlk
    have hlk2 : (Instr.lookup 68 (.map (some mi)) (.agg #[.int .i64 a, .int .i64 b]) false).run Tryz.prog Y4 = .ok (.bool false) Y4 := by rw [hlk]; simp [HNIN.out]
    obtain ⟨Y5, hst, hm5, hg5⟩ := hm4.store 68 4 (by kernel_rfl) (a, b) H64.out (.bool true)
    rw [mC_store] at hm5
    simp only [edgeFam] at hst
    rw [← mC_congr HIY.out] at hm5
    have HN := Lib.hid (show ∃ cn', MapB edgeFam Y5 mi cn' (mC (InL T (bfs T f) E (k + 1))) ∧ RowIs Y5 gl 3 (iv (bfs T f).l F) ∧ Below mi Xs0 Y5 from
      ⟨_, hm5, (HRL.out.after hbY4).grown hg5 (by have := HGM.out; simpa using this), (below_more HB.out hbY4 (Nat.le_of_lt HMAP.out.lt)).grown hg5 (by have := hm4.lt; omega) (fun q hq => by cases hq; exact Nat.le_refl _)⟩)
    have HY4 := Lib.hid hY4
    have HXB2 := Lib.hid hxb2
    clear hb3 hY3 hbY4 hrY4 hm4 hm5 hg5 hY4 hxb2 hlk
    go_upto_region 21 with fail
    rw [← HY4.out]
    simp only [← HXB2.out]
    go_wp2
    obtain ⟨cn', n1, n2, n3⟩ := HN.out
    go_roundw
    case rel => exact ⟨k + 1, cn', by omega, by go_num, n1, n2, n3⟩
    case measure => simp [intOf]; omega
  case neg =>
  obtain rfl : F = k := by omega
  obtain ⟨htb, hrb, htr, hbw⟩ := HY0.out Y hbY
  have v0 := hrb.cell (i := 0) rfl
  have v1 := hrb.cell (i := 1) rfl
  have hKF : (E ++ facedL T f).Nodup ∧ ∀ e, e ∈ E ++ facedL T f ↔ mC (InL T (bfs T f) E F) e ≠ none := by
    have hnd := rest_all HS.out HFF.out HND.out HEM.out (K := E ++ facedL T f) (by
      refine List.nodup_append.2 ⟨HND.out, facedL_nodup HS.out HFF.out, fun a ha b hb e => ?_⟩
      subst e
      exact ((HEM.out a).1 ha).2 ((facedL_mem HS.out HFF.out).1 hb)) (fun e => by
        rw [List.mem_append, HEM.out, facedL_mem HS.out HFF.out]
        constructor
        · rintro (⟨⟨c, h1, -, h2⟩, -⟩ | ⟨t, c, h1, h2, h3⟩)
          · exact ⟨c, h1, h2⟩
          · have hne : t ≠ f / 3 := by
              rintro rfl
              rw [HI.out.rt] at h2
              omega
            obtain ⟨d, d1, d2, -⟩ := link_c HS.out HFF.out h1 hne
            obtain rfl : d = c := by omega
            exact ⟨d, d2, h3⟩
        · rintro ⟨c, h1, h2⟩
          by_cases h : facedB T (bfs T f) e
          · exact .inr h
          · exact .inl ⟨⟨c, h1, HALL.out _ (by omega), h2⟩, h⟩) HALL.out
    refine ⟨hnd.1, fun e => ?_⟩
    rw [mC_ne, List.mem_append, facedL_mem HS.out HFF.out]
    unfold InL
    constructor
    · rintro (h | ⟨t, c, h1, h2, h3⟩)
      · exact .inl h
      · exact .inr ⟨t, c, by rw [HF.out]; exact HI.out.lt t h1, h2, h3⟩
    · rintro (h | ⟨t, c, h1, h2, h3⟩)
      · exact .inl h
      · exact .inr ⟨t, c, HALL.out t (by rw [← HF.out]; exact h1), h2, h3⟩
  have hlen := mapE_len hmap hKF.1 hKF.2
  obtain ⟨il, hil⟩ : ∃ l, l = (E ++ facedL T f).length := ⟨_, rfl⟩
  rw [← hil] at hlen
  have HIL := Lib.hid hil
  have HSE := Lib.hid (soupedges_any n ao cap T Y HS.out htr)
  rw [← HF.out] at HSE
  have HBY := Lib.hid hbY
  clear hmap hrl hb hbY htb hrb htr hbw hil hKF HMAP HRL HB
  go_wp2_with fail
  refine HSE.out.mono ?_
  rintro e Xs ⟨a6, c6, K, ⟨hKn, hKm⟩, rfl, -, hb6⟩
  have hKl : K.length = il := by
    have := (rest_all HS.out HFF.out HND.out HEM.out hKn hKm HALL.out).2.2
    rw [HIL.out, List.length_append]
    exact this.symm
  rw [hKl]
  have hq0 : 0 < q := by
    apply Classical.byContradiction
    intro hz
    have he : E = [] := List.length_eq_zero_iff.1 (by rw [← HEN.out]; omega)
    have hv := (rest_verts HS.out HFF.out HEM.out HALL.out (v := vt T (f : Int))).2 (HS.out.vin.vt (by omega) (by have := HFF.out; omega))
    rw [he] at hv
    cases hv
  have g1 : ((il : Int) != (il : Int)) = false := by simp
  have g2 : ((q : Int) == 0) = false := by simp; omega
  have HEQ := Lib.hid (show ∀ Y', Below Xs.heap.size Xs Y' → EdgesAt Y' a4 E from fun Y' h => HEQ0.out Y' (below_more HBY.out (below_more hb6 h hb6.size) HBY.out.size))
  have HYX := Lib.hid (show ∀ Y', Below Xs.heap.size Xs Y' → RowIs Y' xb 24 [.int .i64 (n : Int), .slice ao F cap] ∧ Below w.heap.size w Y' from fun Y' h => by
    obtain ⟨-, h1, -, h2⟩ := HY0.out Y' (below_more HBY.out (below_more hb6 h hb6.size) HBY.out.size)
    exact ⟨h1, h2⟩)
  clear hKn hKm hKl hb6 HSE v0 v1 hlen HBY
  have hEne : E ≠ [] := fun e => by have := HEN.out; rw [e] at this; simp at this; omega
  obtain ⟨eb, eoff, rfl, hebl, hec⟩ := HEQ.out Xs (Below.refl _ _) hEne
  obtain ⟨k1, -⟩ := hec 0 (by rw [← HEN.out]; exact hq0)
  obtain ⟨s0, hs0⟩ : ∃ s, s = (E! E 0).1 := ⟨_, rfl⟩
  rw [← hs0] at k1
  have hs64 : I64 s0 := by rw [hs0]; exact (HEI.out _ (E!_mem (by rw [← HEN.out]; exact hq0))).1
  have HS0 := Lib.hid hs0
  obtain ⟨X1, hst, hsn⟩ := SeenAt.first Xs s0 hs64
  obtain ⟨mm, hmm'⟩ : ∃ m, m = Xs.heap.size := ⟨_, rfl⟩
  have hk1 : (Xs.alloc (.map #[] 0)).cell? ⟨eb, eoff, none⟩ = some (.int .i64 s0) := by
    have := (((Below.refl Xs.heap.size Xs).alloc (Nat.le_refl _) (.map #[] 0)).cell (p := ⟨eb, eoff + 0 * 2, none⟩) hebl)
    rw [k1] at this
    simpa using this
  have HMM := Lib.hid hmm'
  have HSN1 := Lib.hid (show SeenAt Xs X1 mm (fun v => decide (v = s0)) from by rw [hmm']; exact hsn)
  have hmk := @run_makeMap Tryz.prog
  clear k1 hs0 hsn hmm' hec hs64 hEne
  go_upto_region 28 with fail
  simp only [← HMM.out]
  clear hst hk1
  go_wp2
  go_loopw [97] (fun v ws => ∃ i : Nat, i ≤ q ∧ v = .int .i64 i ∧ SeenAt Xs ws mm (sweepsE E (fun v => decide (v = s0)) i)) (fun v _ => q - (intOf v).toNat)
  case atStart => exact ⟨0, by omega, rfl, HSN1.out⟩
  case round =>
  clear HSN1
  obtain ⟨i, hi, rfl, hsn⟩ := hrel
  obtain ⟨X, rfl⟩ : ∃ X : World, X = wr := ⟨_, rfl⟩
  have HSN := Lib.hid hsn
  clear hsn
  by_cases hiq : i < q
  case neg =>
    obtain rfl : q = i := by omega
    have HDONE := Lib.hid (show SeenAt Xs X mm (sweepsE E (fun v => decide (v = s0)) E.length) from by rw [← HEN.out]; exact HSN.out)
    have hV : ∀ v, v ∈ vertsE E ↔ sweepsE E (fun v => decide (v = s0)) E.length v = true := fun v => by
      have hs0 : s0 ∈ vertsE E := vertsE_mem.2 ⟨_, E!_mem (by rw [← HEN.out]; exact hq0), .inl HS0.out⟩
      rw [sweeps_conn]
      constructor
      · exact fun h => rest_conn HS.out HFF.out HEM.out _ _ hs0 h
      · intro h
        by_cases e : s0 = v
        · rw [← e]; exact hs0
        · exact h.symm.ends fun q => e q.symm
    have hll := HDONE.out.len (vertsE_nodup E) hV
    have hvn := verts_len HS.out HFF.out HEM.out HALL.out
    obtain ⟨vl, hvl⟩ : ∃ l, l = (vertsE E).length := ⟨_, rfl⟩
    rw [← hvl] at hll hvn
    have hbX : Below Xs.heap.size Xs X := by have := HDONE.out.low; rw [HMM.out] at this; exact this
    obtain ⟨hrX, hwX⟩ := HYX.out X hbX
    have v0 := hrX.cell (i := 0) rfl
    have v1 := hrX.cell (i := 1) rfl
    have g3 : ((vl : Int) == (n : Int)) = true := by simp; omega
    have HFIN := Lib.hid hwX
    clear HSN hV hvn hvl hbX hrX hwX
    go_wp2
    exact bodyPost_ret (v := .bool true) (by simp [results, Tryz.results10, go_sem]) rfl ⟨rfl, HFIN.out⟩
  case pos =>
  go_wp2
  go_loopw [101] (fun v ws => ∃ j : Nat, j ≤ q ∧ v = .int .i64 j ∧ SeenAt Xs ws mm ((E.take j).foldl markE (sweepsE E (fun v => decide (v = s0)) i))) (fun v _ => q - (intOf v).toNat)
  case atStart => exact ⟨0, by omega, rfl, HSN.out⟩
  case round =>
  clear HSN
  obtain ⟨j, hj, rfl, hsn⟩ := hrel
  obtain ⟨Y, rfl⟩ : ∃ X : World, X = wr := ⟨_, rfl⟩
  by_cases hjq : j < q
  case neg =>
    obtain rfl : q = j := by omega
    have HNX := Lib.hid (show SeenAt Xs Y mm (sweepsE E (fun v => decide (v = s0)) (i + 1)) from by
      rw [HEN.out, List.take_length] at hsn
      exact hsn)
    clear hsn
    go_wp2
    go_roundw
    case rel => exact ⟨i + 1, by omega, by go_num, HNX.out⟩
    case measure => simp [intOf]; omega
  case pos =>
  obtain ⟨S, hS⟩ : ∃ S, S = (E.take j).foldl markE (sweepsE E (fun v => decide (v = s0)) i) := ⟨_, rfl⟩
  rw [← hS] at hsn
  have hlow := hsn.low
  have hjl : j < E.length := by rw [← HEN.out]; exact hjq
  obtain ⟨eb', eoff', ee, -, hec⟩ := HEQ.out Y (by have := hsn.low; rw [HMM.out] at this; exact this) (fun e => by rw [e] at hjl; simp at hjl)
  cases ee
  obtain ⟨k1, k2⟩ := hec j hjl
  obtain ⟨⟨a, b⟩, hab⟩ : ∃ e, e = E! E j := ⟨_, rfl⟩
  have hEj : E[j]? = some (a, b) := by
    rw [List.getElem?_eq_getElem hjl, hab]
    simp [E!, hjl]
  have h64 : I64 a ∧ I64 b := by have := HEI.out _ (E!_mem hjl); rw [← hab] at this; exact this
  rw [← hab] at k1 k2
  have hnx := sweep_take E (sweepsE E (fun v => decide (v = s0)) i) hEj
  rw [← hS] at hnx
  have bj : (0 : Int) ≤ (j : Int) ∧ (j : Int) < (q : Int) := by omega
  obtain ⟨xb2, hxb2⟩ : ∃ b, b = Y.heap.size := ⟨_, rfl⟩
  obtain ⟨Y1, hY1⟩ : ∃ Y1, Y1 = Y.alloc (.cells #[.int .i64 a, .int .i64 b] 40) := ⟨_, rfl⟩
  have hbY1 : Below Y.heap.size Y Y1 := by rw [hY1]; exact (Below.refl _ _).alloc (Nat.le_refl _) _
  have hrY1 : RowIs Y1 xb2 40 [.int .i64 a, .int .i64 b] := by rw [hY1, hxb2]; exact RowIs.made Y 40 [.int .i64 a, .int .i64 b]
  have hs1 := hsn.more hbY1
  have hmx : mm < xb2 := by rw [hxb2]; exact hsn.lt
  obtain ⟨sa, hsa⟩ : ∃ b, b = S a := ⟨_, rfl⟩
  obtain ⟨sb, hsb⟩ : ∃ x, x = S b := ⟨_, rfl⟩
  have hla := hs1.look a h64.1
  have hlb := hs1.look b h64.2
  rw [← hsa] at hla
  rw [← hsb] at hlb
  have e0 := hrY1.cell (i := 0) rfl
  have e1 := hrY1.cell (i := 1) rfl
  have HS1 := Lib.hid hs1
  have HR1 := Lib.hid hrY1
  have HMX := Lib.hid hmx
  have HNX := Lib.hid hnx
  have H64 := Lib.hid h64
  have HSA := Lib.hid hsa
  have HSB := Lib.hid hsb
  have HY1 := Lib.hid hY1
  have HXB2 := Lib.hid hxb2
  clear hsn hlow hjl hec hab hEj h64 hnx hY1 hbY1 hrY1 hs1 hmx hsa hsb hxb2 hS
  go_upto_region 33 with fail
  rw [← HY1.out]
  simp only [← HXB2.out]
  clear k1 k2
  have HMARK := Lib.hid (show (S a = true ∨ S b = true) → ∃ Ya Yab Yb Yba, (Instr.mapUpdate 67 (.map (some mm)) (.int .i64 a) (.bool true)).run Tryz.prog Y1.drew = .ok () Ya ∧ (Instr.mapUpdate 67 (.map (some mm)) (.int .i64 b) (.bool true)).run Tryz.prog Ya = .ok () Yab ∧ (Instr.mapUpdate 67 (.map (some mm)) (.int .i64 b) (.bool true)).run Tryz.prog Y1.drew = .ok () Yb ∧ (Instr.mapUpdate 67 (.map (some mm)) (.int .i64 a) (.bool true)).run Tryz.prog Yb = .ok () Yba ∧
      Hid (SeenAt Xs Yab mm ((E.take (j + 1)).foldl markE (sweepsE E (fun v => decide (v = s0)) i))) ∧ Hid (SeenAt Xs Yba mm ((E.take (j + 1)).foldl markE (sweepsE E (fun v => decide (v = s0)) i))) ∧ Hid (RowIs Y1.drew xb2 40 [.int .i64 a, .int .i64 b] ∧ RowIs Ya xb2 40 [.int .i64 a, .int .i64 b] ∧ RowIs Yab xb2 40 [.int .i64 a, .int .i64 b] ∧ RowIs Yb xb2 40 [.int .i64 a, .int .i64 b] ∧ RowIs Yba xb2 40 [.int .i64 a, .int .i64 b]) from fun h => by
    have hsD := HS1.out.more (Below.refl _ _).drew
    obtain ⟨Ya, Yab, p1, p2, p3, p4, p5⟩ := hsD.two (a, b) H64.out.1 H64.out.2 h
    obtain ⟨Yb, Yba, r1, r2, r3, r4, r5⟩ := hsD.two' (a, b) H64.out.1 H64.out.2 h
    have hne : some xb2 ≠ some mm := by have := HMX.out; simp; omega
    have hr := HR1.out.drew1
    exact ⟨Ya, Yab, Yb, Yba, p1, p2, r1, r2, by rw [HNX.out]; exact p3, by rw [HNX.out]; exact r3, hr, hr.grown p4 hne, (hr.grown p4 hne).grown p5 hne, hr.grown r4 hne, (hr.grown r4 hne).grown r5 hne⟩)
  cases sa
  case' true =>
    obtain ⟨Ya, Yab, Yb, Yba, p1, p2, r1, r2, HN1, HN2, HRW⟩ := HMARK.out (.inl HSA.out.symm)
    go_upto_region 34 with fail
    refine wp_region_held_drew (S := (fun w' => w'.cell? ⟨xb2, 0, none⟩ = some (.int .i64 a) ∧ w'.cell? ⟨xb2, 1, none⟩ = some (.int .i64 b))) (by kernel_rfl) ?_ (fun hHeld0 => ?_)
    · ((try dsimp only); first | exact ⟨HRW.out.1.cell (i := 0) rfl, HRW.out.1.cell (i := 1) rfl⟩ | exact ⟨HRW.out.2.1.cell (i := 0) rfl, HRW.out.2.1.cell (i := 1) rfl⟩ | exact ⟨HRW.out.2.2.1.cell (i := 0) rfl, HRW.out.2.2.1.cell (i := 1) rfl⟩ | exact ⟨HRW.out.2.2.2.1.cell (i := 0) rfl, HRW.out.2.2.2.1.cell (i := 1) rfl⟩ | exact ⟨HRW.out.2.2.2.2.cell (i := 0) rfl, HRW.out.2.2.2.2.cell (i := 1) rfl⟩)
    refine wpAnyH_take (i := 0) (v := ?_) rfl (by kernel_rfl) (by kernel_rfl) (by kernel_rfl) (fun _ _ _ h => h) (Or.inl ⟨by rfl, ?_⟩) (by assumption) ?_
    rotate_left
    · (intro w hSw; (try dsimp only at hSw); go_simp; try with_reducible rfl)
    try simp only [List.getElem_toArray, List.getElem_cons_succ, List.getElem_cons_zero, Act.put, List.setIfInBounds_toArray, List.set_cons_zero, List.set_cons_succ]
    refine wpAnyH_take (i := 1) (v := ?_) rfl (by kernel_rfl) (by kernel_rfl) (by kernel_rfl) (fun _ _ _ h => h) (Or.inl ⟨by rfl, ?_⟩) (by assumption) ?_
    rotate_left
    · (intro w hSw; (try dsimp only at hSw); go_simp; try with_reducible rfl)
    try simp only [List.getElem_toArray, List.getElem_cons_succ, List.getElem_cons_zero, Act.put, List.setIfInBounds_toArray, List.set_cons_zero, List.set_cons_succ]
    refine wpAnyH_take (i := 2) (v := ?_) rfl (by kernel_rfl) (by kernel_rfl) (by kernel_rfl) (fun _ _ _ h => h) (Or.inl ⟨by rfl, ?_⟩) (by assumption) ?_
    rotate_left
    · (intro w hSw; (try dsimp only at hSw); go_simp; try with_reducible rfl)
    try simp only [List.getElem_toArray, List.getElem_cons_succ, List.getElem_cons_zero, Act.put, List.setIfInBounds_toArray, List.set_cons_zero, List.set_cons_succ]
    refine wpAnyH_take (i := 3) (v := ?_) rfl (by kernel_rfl) (by kernel_rfl) (by kernel_rfl) (fun _ _ _ h => h) (Or.inl ⟨by rfl, ?_⟩) (by assumption) ?_
    rotate_left
    · (intro w hSw; (try dsimp only at hSw); go_simp; try with_reducible rfl)
    try simp only [List.getElem_toArray, List.getElem_cons_succ, List.getElem_cons_zero, Act.put, List.setIfInBounds_toArray, List.set_cons_zero, List.set_cons_succ]
    refine wpAnyH_take (i := 4) (v := ?_) rfl (by kernel_rfl) (by kernel_rfl) (by kernel_rfl) (fun _ _ _ h => h) (Or.inl ⟨by rfl, ?_⟩) (by assumption) ?_
    rotate_left
    · (intro w hSw; (try dsimp only at hSw); go_simp; try with_reducible rfl)
    try simp only [List.getElem_toArray, List.getElem_cons_succ, List.getElem_cons_zero, Act.put, List.setIfInBounds_toArray, List.set_cons_zero, List.set_cons_succ]
    refine wpAnyH_take (i := 5) (v := ?_) rfl (by kernel_rfl) (by kernel_rfl) (by kernel_rfl) (fun _ _ _ h => h) (Or.inl ⟨by rfl, ?_⟩) (by assumption) ?_
    rotate_left
    · (intro w hSw; (try dsimp only at hSw); go_simp; try with_reducible rfl)
    try simp only [List.getElem_toArray, List.getElem_cons_succ, List.getElem_cons_zero, Act.put, List.setIfInBounds_toArray, List.set_cons_zero, List.set_cons_succ]
    refine wpAnyH_ready (rs := [6]) (by kernel_rfl) (by simp) ?_
    refine AllReadyH.cons rfl (fun K hK => ?_) AllReadyH.nil
    go_simp
    refine hK.out _ _ ?_ (fun hHeld1 => ?_)
    · ((try dsimp only); first | exact ⟨HRW.out.1.cell (i := 0) rfl, HRW.out.1.cell (i := 1) rfl⟩ | exact ⟨HRW.out.2.1.cell (i := 0) rfl, HRW.out.2.1.cell (i := 1) rfl⟩ | exact ⟨HRW.out.2.2.1.cell (i := 0) rfl, HRW.out.2.2.1.cell (i := 1) rfl⟩ | exact ⟨HRW.out.2.2.2.1.cell (i := 0) rfl, HRW.out.2.2.2.1.cell (i := 1) rfl⟩ | exact ⟨HRW.out.2.2.2.2.cell (i := 0) rfl, HRW.out.2.2.2.2.cell (i := 1) rfl⟩)
    clear hK K hHeld0
    refine wpAnyH_ready (rs := [7]) (by kernel_rfl) (by simp) ?_
    refine AllReadyH.cons rfl (fun K hK => ?_) AllReadyH.nil
    go_simp
    refine hK.out _ _ ?_ (fun hHeld2 => ?_)
    · ((try dsimp only); first | exact ⟨HRW.out.1.cell (i := 0) rfl, HRW.out.1.cell (i := 1) rfl⟩ | exact ⟨HRW.out.2.1.cell (i := 0) rfl, HRW.out.2.1.cell (i := 1) rfl⟩ | exact ⟨HRW.out.2.2.1.cell (i := 0) rfl, HRW.out.2.2.1.cell (i := 1) rfl⟩ | exact ⟨HRW.out.2.2.2.1.cell (i := 0) rfl, HRW.out.2.2.2.1.cell (i := 1) rfl⟩ | exact ⟨HRW.out.2.2.2.2.cell (i := 0) rfl, HRW.out.2.2.2.2.cell (i := 1) rfl⟩)
    clear hK K hHeld1
    refine wpAnyH_done (by kernel_rfl) ?_ _
    clear hHeld2
    clear p1 p2 r1 r2
    go_wp2
    go_roundw
    case rel => exact ⟨j + 1, by omega, by go_num, by first | exact HN1.out | exact HN2.out⟩
    case measure => simp [intOf]; omega
  case' false =>
  cases sb
  case' true =>
    obtain ⟨Ya, Yab, Yb, Yba, p1, p2, r1, r2, HN1, HN2, HRW⟩ := HMARK.out (.inr HSB.out.symm)
    go_upto_region 34 with fail
    refine wp_region_held_drew (S := (fun w' => w'.cell? ⟨xb2, 0, none⟩ = some (.int .i64 a) ∧ w'.cell? ⟨xb2, 1, none⟩ = some (.int .i64 b))) (by kernel_rfl) ?_ (fun hHeld0 => ?_)
    · ((try dsimp only); first | exact ⟨HRW.out.1.cell (i := 0) rfl, HRW.out.1.cell (i := 1) rfl⟩ | exact ⟨HRW.out.2.1.cell (i := 0) rfl, HRW.out.2.1.cell (i := 1) rfl⟩ | exact ⟨HRW.out.2.2.1.cell (i := 0) rfl, HRW.out.2.2.1.cell (i := 1) rfl⟩ | exact ⟨HRW.out.2.2.2.1.cell (i := 0) rfl, HRW.out.2.2.2.1.cell (i := 1) rfl⟩ | exact ⟨HRW.out.2.2.2.2.cell (i := 0) rfl, HRW.out.2.2.2.2.cell (i := 1) rfl⟩)
    refine wpAnyH_take (i := 0) (v := ?_) rfl (by kernel_rfl) (by kernel_rfl) (by kernel_rfl) (fun _ _ _ h => h) (Or.inl ⟨by rfl, ?_⟩) (by assumption) ?_
    rotate_left
    · (intro w hSw; (try dsimp only at hSw); go_simp; try with_reducible rfl)
    try simp only [List.getElem_toArray, List.getElem_cons_succ, List.getElem_cons_zero, Act.put, List.setIfInBounds_toArray, List.set_cons_zero, List.set_cons_succ]
    refine wpAnyH_take (i := 1) (v := ?_) rfl (by kernel_rfl) (by kernel_rfl) (by kernel_rfl) (fun _ _ _ h => h) (Or.inl ⟨by rfl, ?_⟩) (by assumption) ?_
    rotate_left
    · (intro w hSw; (try dsimp only at hSw); go_simp; try with_reducible rfl)
    try simp only [List.getElem_toArray, List.getElem_cons_succ, List.getElem_cons_zero, Act.put, List.setIfInBounds_toArray, List.set_cons_zero, List.set_cons_succ]
    refine wpAnyH_take (i := 2) (v := ?_) rfl (by kernel_rfl) (by kernel_rfl) (by kernel_rfl) (fun _ _ _ h => h) (Or.inl ⟨by rfl, ?_⟩) (by assumption) ?_
    rotate_left
    · (intro w hSw; (try dsimp only at hSw); go_simp; try with_reducible rfl)
    try simp only [List.getElem_toArray, List.getElem_cons_succ, List.getElem_cons_zero, Act.put, List.setIfInBounds_toArray, List.set_cons_zero, List.set_cons_succ]
    refine wpAnyH_take (i := 3) (v := ?_) rfl (by kernel_rfl) (by kernel_rfl) (by kernel_rfl) (fun _ _ _ h => h) (Or.inl ⟨by rfl, ?_⟩) (by assumption) ?_
    rotate_left
    · (intro w hSw; (try dsimp only at hSw); go_simp; try with_reducible rfl)
    try simp only [List.getElem_toArray, List.getElem_cons_succ, List.getElem_cons_zero, Act.put, List.setIfInBounds_toArray, List.set_cons_zero, List.set_cons_succ]
    refine wpAnyH_take (i := 4) (v := ?_) rfl (by kernel_rfl) (by kernel_rfl) (by kernel_rfl) (fun _ _ _ h => h) (Or.inl ⟨by rfl, ?_⟩) (by assumption) ?_
    rotate_left
    · (intro w hSw; (try dsimp only at hSw); go_simp; try with_reducible rfl)
    try simp only [List.getElem_toArray, List.getElem_cons_succ, List.getElem_cons_zero, Act.put, List.setIfInBounds_toArray, List.set_cons_zero, List.set_cons_succ]
    refine wpAnyH_take (i := 5) (v := ?_) rfl (by kernel_rfl) (by kernel_rfl) (by kernel_rfl) (fun _ _ _ h => h) (Or.inl ⟨by rfl, ?_⟩) (by assumption) ?_
    rotate_left
    · (intro w hSw; (try dsimp only at hSw); go_simp; try with_reducible rfl)
    try simp only [List.getElem_toArray, List.getElem_cons_succ, List.getElem_cons_zero, Act.put, List.setIfInBounds_toArray, List.set_cons_zero, List.set_cons_succ]
    refine wpAnyH_ready (rs := [6]) (by kernel_rfl) (by simp) ?_
    refine AllReadyH.cons rfl (fun K hK => ?_) AllReadyH.nil
    go_simp
    refine hK.out _ _ ?_ (fun hHeld1 => ?_)
    · ((try dsimp only); first | exact ⟨HRW.out.1.cell (i := 0) rfl, HRW.out.1.cell (i := 1) rfl⟩ | exact ⟨HRW.out.2.1.cell (i := 0) rfl, HRW.out.2.1.cell (i := 1) rfl⟩ | exact ⟨HRW.out.2.2.1.cell (i := 0) rfl, HRW.out.2.2.1.cell (i := 1) rfl⟩ | exact ⟨HRW.out.2.2.2.1.cell (i := 0) rfl, HRW.out.2.2.2.1.cell (i := 1) rfl⟩ | exact ⟨HRW.out.2.2.2.2.cell (i := 0) rfl, HRW.out.2.2.2.2.cell (i := 1) rfl⟩)
    clear hK K hHeld0
    refine wpAnyH_ready (rs := [7]) (by kernel_rfl) (by simp) ?_
    refine AllReadyH.cons rfl (fun K hK => ?_) AllReadyH.nil
    go_simp
    refine hK.out _ _ ?_ (fun hHeld2 => ?_)
    · ((try dsimp only); first | exact ⟨HRW.out.1.cell (i := 0) rfl, HRW.out.1.cell (i := 1) rfl⟩ | exact ⟨HRW.out.2.1.cell (i := 0) rfl, HRW.out.2.1.cell (i := 1) rfl⟩ | exact ⟨HRW.out.2.2.1.cell (i := 0) rfl, HRW.out.2.2.1.cell (i := 1) rfl⟩ | exact ⟨HRW.out.2.2.2.1.cell (i := 0) rfl, HRW.out.2.2.2.1.cell (i := 1) rfl⟩ | exact ⟨HRW.out.2.2.2.2.cell (i := 0) rfl, HRW.out.2.2.2.2.cell (i := 1) rfl⟩)
    clear hK K hHeld1
    refine wpAnyH_done (by kernel_rfl) ?_ _
    clear hHeld2
    clear p1 p2 r1 r2
    go_wp2
    go_roundw
    case rel => exact ⟨j + 1, by omega, by go_num, by first | exact HN1.out | exact HN2.out⟩
    case measure => simp [intOf]; omega
  case' false =>
    have HN := Lib.hid (show SeenAt Xs Y1 mm ((E.take (j + 1)).foldl markE (sweepsE E (fun v => decide (v = s0)) i)) from by
      rw [HNX.out]
      refine HS1.out.congr fun v => ?_
      unfold markE
      rw [if_neg (by simp only [← HSA.out, ← HSB.out]; decide)])
    go_wp2
    go_roundw
    case rel => exact ⟨j + 1, by omega, by go_num, HN.out⟩
    case measure => simp [intOf]; omega
end Go.Proofs.YtkjamheoihlekaaGreat

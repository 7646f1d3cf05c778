/- gypsumlaw18.TreePaths: the walk. -/
import Derived.Test.YtkjamheoihlekaaGreatAwake18a
import Derived.Test.YtkjamheoihlekaaGreatRefPaths18
namespace Go.Proofs.YtkjamheoihlekaaGreat
set_option linter.unusedVariables false
set_option linter.unusedSimpArgs false
open Go.RowKit Go.Maps
theorem RowsAt.mono {X Y : World} {ao : Option Addr} {S : List (List Int)} (h : RowsAt X ao S) (hb : Below X.heap.size X Y) : RowsAt Y ao S := by
  intro hS
  obtain ⟨g, off, rfl, hg, hc⟩ := h hS
  refine ⟨g, off, rfl, by have := hb.size; omega, fun i hi => ?_⟩
  obtain ⟨a, c, h1, h2⟩ := hc i hi
  exact ⟨a, c, (hb.cell (p := ⟨g, off + i, none⟩) hg).trans h1, h2.mono (Nat.le_refl _) hb⟩
/-- A new entry is made: with the type's zero. -/
theorem entryZ {k : TypeId} {κ : Type} {F : KeyFam k κ} [DecidableEq κ] {w : World} {m n : Nat} {C : κ → Option Value} (h : MapIs F w m n C) (t e : TypeId) (ht : Tryz.prog.underlying t = some (.map k e)) {z : Value}
    (hz : ∀ w, (zeroValue e).run Tryz.prog w = .ok z w) (a : κ) (ha : F.ok a) (hC : C a = none) :
    ∃ w' c, (Instr.mapEntry t (.map (some m)) (F.kv a)).run Tryz.prog w = .ok (.tuple #[z, .int .i64 ((c : Nat) : Int)]) w' ∧ Fresh F w' m n C a c ∧ w.grownBy w' (some m) ∧ MapIs F w' m (n + 1) (fun b => if b = a then some z else C b) := by
  obtain ⟨es, clock, h1, h2, h3, h4, h5, h6⟩ := h
  obtain ⟨l, hl⟩ := F.rd a ha
  have hm : m < w.heap.size := (Array.getElem?_eq_some_iff.1 h1).1
  have hkeys : ∀ e ∈ es.toList, ∃ l, keyOf Tryz.prog k e.key = some l := fun e he => by
    obtain ⟨b, hb, hk, _⟩ := h3 e he
    rw [hk]; exact F.rd b hb
  have hgrown : ∀ o : Obj, w.grownBy { w with heap := w.heap.setIfInBounds m o } (some m) := fun o =>
    ⟨rfl, rfl, rfl, by simp, fun j hj hne => by
      have : m ≠ j := fun e => hne (by rw [e])
      simp [Array.getElem?_setIfInBounds_ne this]⟩
  rcases F.keyed.find w hl es.toList hkeys with ⟨f1, f2⟩ | ⟨j, e0, f1, f2, f3⟩
  · refine ⟨{ w with heap := w.heap.setIfInBounds m (.map (es.push { key := F.kv a, val := z, born := clock }) (clock + 1)) }, clock, ?_, ⟨es, z, by simp [Array.getElem?_setIfInBounds_self_of_lt hm], h2, ha, hC, h3, h4, h5, h6⟩, hgrown _,
      ⟨_, clock + 1, by simp [Array.getElem?_setIfInBounds_self_of_lt hm]; rfl, by simp [h2], fun e he => ?_, fun b v hb => ?_, ?_, fun e he => ?_⟩⟩
    · simp [Instr.mapEntry, run_underlying ht, MapKept.run_getObj_map h1, F.keyed.check w _ hl, f1, hz, Result.andThen, setObj, Sem.run, h1, goInt]
    · simp only [Array.toList_push, List.mem_append, List.mem_singleton] at he
      rcases he with he | rfl
      · obtain ⟨b, hb, hk, hv⟩ := h3 e he
        exact ⟨b, hb, hk, by show (if b = a then some z else C b) = _; rw [if_neg (fun q => f2 e he (by rw [hk, q]))]; exact hv⟩
      · exact ⟨a, ha, rfl, by simp⟩
    · by_cases q : b = a
      · subst q
        exact ⟨{ key := F.kv b, val := z, born := clock }, by simp, rfl⟩
      · simp only [q, if_false] at hb
        obtain ⟨e, he, hk⟩ := h4 b v hb
        exact ⟨e, by simp [Array.toList_push, Array.mem_toList_iff.1 he], hk⟩
    · rw [Array.toList_push, List.pairwise_append]
      exact ⟨h5, by simp, fun x hx y hy => by simp at hy; subst hy; exact f2 x hx⟩
    · simp only [Array.toList_push, List.mem_append, List.mem_singleton] at he
      rcases he with he | rfl
      · have := h6 e he; omega
      · simp
  · obtain ⟨b, hb, hk, hv⟩ := h3 e0 (List.mem_of_getElem? f2)
    have hab : b = a := F.inj _ _ (hk.symm.trans f3)
    rw [hab, hC] at hv
    cases hv
theorem mapIs_len {w : World} {m n : Nat} {C : Int × Int → Option Value} (h : MapIs edgeFam w m n C) : (Builtin.len_ #[46] 3 #[.map (some m)]).run Tryz.prog w = .ok (.int .i64 (n : Nat)) w := by
  obtain ⟨es, clock', h1, h2, _⟩ := h
  have hu : Tryz.prog.underlying 46 = some (.map 40 3) := by kernel_rfl
  simp [Builtin.len_, run_underlying hu, MapKept.run_getObj_map h1, Result.andThen, goInt, h2]
theorem zeroInt18 : ∀ w, (zeroValue 3).run Tryz.prog w = .ok (.int .i64 0) w := fun _ => by kernel_rfl
open Classical in
/-- The edges of F have been seen, once each. -/
noncomputable def onceC (F : List (Int × Int)) : Int × Int → Option Value := fun e => if e ∈ F then some (.int .i64 1) else none
theorem onceC_yes {F : List (Int × Int)} {e : Int × Int} (h : e ∈ F) : onceC F e = some (.int .i64 1) := by unfold onceC; rw [if_pos h]
theorem onceC_no {F : List (Int × Int)} {e : Int × Int} (h : e ∉ F) : onceC F e = none := by unfold onceC; rw [if_neg h]
theorem onceC_add (F : List (Int × Int)) (a : Int × Int) : (fun b => if b = a then some (.int .i64 1) else onceC F b) = onceC (F ++ [a]) := by
  funext b
  by_cases h : b = a
  · rw [if_pos h, onceC_yes (by simp [h])]
  · rw [if_neg h]
    by_cases q : b ∈ F
    · rw [onceC_yes q, onceC_yes (by simp [q])]
    · rw [onceC_no q, onceC_no (by simp [q, h])]
def SnP (W ws : World) (mm : Nat) (F : List (Int × Int)) : Prop := MapIs edgeFam ws mm F.length (onceC F) ∧ Below mm W ws
theorem SnP.more {W ws X : World} {mm : Nat} {F : List (Int × Int)} (h : SnP W ws mm F) (hb : Below ws.heap.size ws X) : SnP W X mm F :=
  ⟨h.1.below (Nat.le_refl _) hb, h.2.trans (hb.mono (Nat.le_of_lt h.1.lt))⟩
/-- One edge more. -/
theorem SnP.step {W ws : World} {mm : Nat} {F : List (Int × Int)} (h : SnP W ws mm F) (a : Int × Int) (ha : I64 a.1 ∧ I64 a.2) (hn : a ∉ F) :
    ∃ w1 w2 c, (Instr.lookup 46 (.map (some mm)) (.agg #[.int .i64 a.1, .int .i64 a.2]) false).run Tryz.prog ws = .ok (.int .i64 0) ws ∧
      (Instr.mapEntry 46 (.map (some mm)) (.agg #[.int .i64 a.1, .int .i64 a.2])).run Tryz.prog ws = .ok (.tuple #[.int .i64 0, .int .i64 ((c : Nat) : Int)]) w1 ∧
      (Instr.lookup 46 (.map (some mm)) (.agg #[.int .i64 a.1, .int .i64 a.2]) false).run Tryz.prog w1 = .ok (.int .i64 0) w1 ∧
      (Instr.entryStore 46 (.map (some mm)) (.int .i64 ((c : Nat) : Int)) (.int .i64 1)).run Tryz.prog w1 = .ok () w2 ∧
      Hid (Below mm W w1) ∧ Hid (SnP W w2 mm (F ++ [a])) := by
  have hC := onceC_no hn
  have h0 := h.1.look 46 3 (by kernel_rfl) zeroInt18 a ha false
  rw [hC] at h0
  obtain ⟨w1, c, h1, h2, h3, h4⟩ := entryZ h.1 46 3 (by kernel_rfl) zeroInt18 a ha hC
  have h5 := h4.look 46 3 (by kernel_rfl) zeroInt18 a ha false
  simp only [if_true, Option.getD_some] at h5
  obtain ⟨w2, h6, h7, h8⟩ := h2.store 46 (.int .i64 1)
  rw [onceC_add] at h7
  have hb1 : Below mm W w1 := h.2.grown h3 (Nat.le_of_lt h.1.lt) (by intro q hq; cases hq; exact Nat.le_refl _)
  exact ⟨w1, w2, c, h0, h1, h5, h6, Lib.hid hb1, Lib.hid ⟨by rw [List.length_append]; exact h7, hb1.grown h8 (Nat.le_of_lt h2.lt) (by intro q hq; cases hq; exact Nat.le_refl _)⟩⟩
theorem flat_split {S : List (List Int)} {i : Nat} (hi : i < S.length) : ∃ R, S.flatMap pedges = (S.take i).flatMap pedges ++ (pedges (S.getD i []) ++ R) ∧ (S.take (i + 1)).flatMap pedges = (S.take i).flatMap pedges ++ pedges (S.getD i []) := by
  have e : S.getD i [] = S[i] := by simp [hi]
  refine ⟨(S.drop (i + 1)).flatMap pedges, ?_, ?_⟩
  · conv => lhs; rw [← List.take_append_drop i S, List.drop_eq_getElem_cons hi]
    rw [List.flatMap_append, List.flatMap_cons, e]
  · rw [List.take_add_one, List.getElem?_eq_getElem hi, e, Option.toList_some, List.flatMap_append, List.flatMap_cons, List.flatMap_nil, List.append_nil]
theorem pedges_len (p : List Int) : (pedges p).length = p.length - 1 := by simp [pedges]
theorem pedges_take {p : List Int} {j : Nat} (hj : j + 1 < p.length) : (pedges p).take (j + 1) = (pedges p).take j ++ [flatE (I! p j) (I! p (j + 1))] ∧ flatE (I! p j) (I! p (j + 1)) ∈ pedges p := by
  have hl : j < (pedges p).length := by rw [pedges_len]; omega
  have e : (pedges p)[j] = flatE (I! p j) (I! p (j + 1)) := by simp [pedges, I!]
  refine ⟨?_, by rw [← e]; exact List.getElem_mem hl⟩
  rw [List.take_add_one, List.getElem?_eq_getElem hl, e]
  rfl
/-- An edge more is a new one. -/
theorem pedge_new {S : List (List Int)} (hn : (S.flatMap pedges).Nodup) {i j : Nat} (hi : i < S.length) (hj : j + 1 < (S.getD i []).length) : flatE (I! (S.getD i []) j) (I! (S.getD i []) (j + 1)) ∉ (S.take i).flatMap pedges ++ (pedges (S.getD i [])).take j := by
  obtain ⟨R, h1, -⟩ := flat_split hi
  obtain ⟨h2, -⟩ := pedges_take hj
  rw [h1, ← List.take_append_drop (j + 1) (pedges (S.getD i [])), h2] at hn
  simp only [List.append_assoc] at hn
  rw [← List.append_assoc] at hn
  intro hm
  exact (List.nodup_append.1 hn).2.2 _ hm _ (by simp) rfl
set_option maxRecDepth 100000 in
set_option maxHeartbeats 8000000 in
theorem treepaths_any (E : List (Int × Int)) (ao : Option Addr) (cap : Nat) (w : World) (hE : EdgesAt w ao E) (hI : EI64 E) (hc : E.length ≤ cap) (hm : E.length ≤ 9223372036854775807) :
    Calls Tryz.prog 5 #[.slice ao E.length cap] w fun e w' => e = .returned (.bool true) ∧ Below w.heap.size w w' := by
  obtain ⟨n, hn⟩ : ∃ n, n = E.length := ⟨_, rfl⟩
  have HAW := Lib.hid (awake18 w)
  have HE := Lib.hid hE
  have HI := Lib.hid hI
  have HN := Lib.hid hn
  rw [← hn] at hc hm ⊢
  clear hE hI hn
  go_enter Tryz.func5, Tryz.ntmps5
  go_wp2_with fail
  refine HAW.out.mono ?_
  rintro e w1 ⟨rfl, hb1⟩
  have HB1 := Lib.hid hb1
  by_cases h30 : n ≤ 30
  case neg =>
    have g1 : decide ((n : Int) > 30) = true := by simp; omega
    have g1' : decide ((30 : Int) < (n : Int)) = true := by simp; omega
    clear hb1 HAW
    go_wp2
    exact bodyPost_ret (v := .bool true) (by simp [results, Tryz.results5, go_sem]) rfl ⟨rfl, HB1.out⟩
  case pos =>
  have g1 : decide ((n : Int) > 30) = false := by simp; omega
  have g1' : decide ((30 : Int) < (n : Int)) = false := by simp; omega
  have hPA := paths_ok E HI.out (by have := HN.out; omega) ao cap w1 (HE.out.mono (Nat.le_refl _) hb1)
  rw [← HN.out] at hPA
  have HPA := Lib.hid hPA
  clear hb1 HAW hPA
  go_wp2_with fail
  refine HPA.out.mono ?_
  rintro e w2 ⟨ga, gc, S, rfl, hga, hb2, hno, hyes⟩
  have HB2 := Lib.hid (below_more HB1.out hb2 HB1.out.size)
  have HGA := Lib.hid hga
  have hPR := rpaths18 E ao cap w2 (HE.out.mono (Nat.le_refl _) HB2.out) HI.out (by have := HN.out; omega)
  rw [← HN.out] at hPR
  have HPR := Lib.hid hPR
  have HNO := Lib.hid hno
  have HYES := Lib.hid hyes
  clear hga hb2 hno hyes hPR HPA
  go_wp2_with fail
  refine HPR.out.mono ?_
  rintro e w3 ⟨ra, rc, R, rfl, hra, hb3, hno, hrl, hyes⟩
  have HB3 := Lib.hid (below_more HB2.out hb3 HB2.out.size)
  obtain rfl : S = R := by
    by_cases h : RightE E
    · obtain ⟨q1, O, q2, q3⟩ := HYES.out h
      exact rpaths_same h q2 q3 q1 (hyes h)
    · rw [HNO.out h, hno h]
  have hall : S ≠ [] → (S.flatMap pedges).Nodup ∧ (∀ e, e ∈ S.flatMap pedges ↔ e ∈ E) ∧ (S.flatMap pedges).length = E.length := fun h => by
    have hR : RightE E := Classical.byContradiction fun q => h (HNO.out q)
    obtain ⟨-, O, q2, q3⟩ := HYES.out hR
    obtain ⟨p1, p2⟩ := q2.once hR
    have hp : (S.flatMap pedges).Perm (O.flatMap pedges) := q3.flatMap_right pedges
    have hm : ∀ e, e ∈ S.flatMap pedges ↔ e ∈ E := fun e => hp.mem_iff.trans (p2 e)
    have hn := hp.nodup_iff.2 p1
    exact ⟨hn, hm, ((List.perm_ext_iff_of_nodup hn hR.nd).2 hm).length_eq⟩
  have hall2 : (S.flatMap pedges).Nodup ∧ (∀ e, e ∈ S.flatMap pedges → e ∈ E) ∧ (S.flatMap pedges).length ≤ 30 := by
    by_cases h : S = []
    · subst h; simp
    · obtain ⟨q1, q2, q3⟩ := hall h
      exact ⟨q1, fun e => (q2 e).1, by have := HN.out; omega⟩
  have HALL := Lib.hid hall
  have HALL2 := Lib.hid hall2
  obtain ⟨sl, hsl⟩ : ∃ l, l = S.length := ⟨_, rfl⟩
  have HSL := Lib.hid hsl
  have hslb : sl ≤ 300 := by omega
  have HRX := Lib.hid (show ∀ X, Below w3.heap.size w3 X → RowsAt X ga S ∧ RowsAt X ra S ∧ Below w.heap.size w X from fun X h => ⟨(HGA.out.mono hb3).mono h, hra.mono h, below_more HB3.out h HB3.out.size⟩)
  obtain ⟨mm, hmm⟩ : ∃ m, m = w3.heap.size := ⟨_, rfl⟩
  have HMM := Lib.hid hmm
  have HSN0 := Lib.hid (show SnP w3 (w3.alloc (.map #[] 0)) mm ((S.take 0).flatMap pedges) from by
    rw [hmm]
    refine ⟨?_, (Below.refl _ _).alloc (Nat.le_refl _) _⟩
    have h := MapIs.made (F := edgeFam) w3
    have e : onceC ((S.take 0).flatMap pedges) = fun _ => none := funext fun b => onceC_no (by simp)
    rw [e]
    exact h)
  have hmk := @run_makeMap Tryz.prog
  have g2 : ((sl : Int) != (sl : Int)) = false := by simp
  rw [← hsl]
  clear hra hb3 hno hrl hyes hall hall2 hsl hmm HPR HNO HYES HGA
  go_wp2
  simp only [← HMM.out]
  go_loopw [28] (fun v ws => ∃ i : Nat, i ≤ sl ∧ v = .int .i64 i ∧ Hid (SnP w3 ws mm ((S.take i).flatMap pedges))) (fun v _ => sl - (intOf v).toNat)
  case atStart => exact ⟨0, by omega, rfl, HSN0⟩
  case round =>
  clear HSN0
  obtain ⟨i, hi, rfl, HSN⟩ := hrel
  obtain ⟨X, rfl⟩ : ∃ X : World, X = wr := ⟨_, rfl⟩
  by_cases hlt : i < sl
  case pos =>
    have hne : S ≠ [] := fun e => by have := HSL.out; rw [e] at this; simp at this; omega
    have hil : i < S.length := by rw [← HSL.out]; exact hlt
    have hbX : Below w3.heap.size w3 X := by have := HSN.out.2; rw [HMM.out] at this; exact this
    obtain ⟨hr1, hr2, -⟩ := HRX.out X hbX
    obtain ⟨gb, goff, rfl, -, hgc⟩ := hr1 hne
    obtain ⟨rb, roff, rfl, -, hrc⟩ := hr2 hne
    obtain ⟨pa, pc, c1, hpI⟩ := hgc i hil
    obtain ⟨qa, qc, c2, hqI⟩ := hrc i hil
    obtain ⟨P, hP⟩ : ∃ P, P = S.getD i [] := ⟨_, rfl⟩
    obtain ⟨pl, hpl⟩ : ∃ l, l = P.length := ⟨_, rfl⟩
    rw [← hP] at c1 c2 hpI hqI
    rw [← hpl] at c1 c2
    have hplb : pl ≤ 31 := by
      obtain ⟨R, q1, q2⟩ := flat_split hil
      have h3 := HALL2.out.2.2
      rw [q1, List.length_append, List.length_append, ← hP, pedges_len] at h3
      omega
    have hRO := rows18 P P pa qa pc qc X hpI hqI (by omega) (by omega)
    rw [← hpl] at hRO
    have HRO := Lib.hid hRO
    have HP := Lib.hid hP
    have HPL := Lib.hid hpl
    have HIL := Lib.hid hil
    -- where the path lies: below the map
    obtain ⟨hr1', -, -⟩ := HRX.out w3 (Below.refl _ _)
    obtain ⟨gb', goff', e', hgb, hgc'⟩ := hr1' hne
    cases e'
    obtain ⟨pa', pc', d1, hpI'⟩ := hgc' i hil
    have hpa : pa' = pa ∧ pc' = pc := by
      have h1 := hbX.cell (p := ⟨gb, goff + i, none⟩) hgb
      rw [d1, ← hP, ← hpl, c1] at h1
      simp at h1
      exact ⟨h1.1.symm, h1.2.symm⟩
    rw [hpa.1, ← hP] at hpI'
    have HPI := Lib.hid (show ∀ X, Below mm w3 X → IntsAt X pa P from fun X h => hpI'.mono (B := mm) (by rw [HMM.out]; exact Nat.le_refl _) h)
    have HSX := Lib.hid (show ∀ X2, Below X.heap.size X X2 → SnP w3 X2 mm ((S.take i).flatMap pedges ++ (pedges P).take 0) from fun X2 h => by
      rw [List.take_zero, List.append_nil]
      exact HSN.out.more h)
    have bi : (0 : Int) ≤ (i : Int) ∧ (i : Int) < (sl : Int) := by omega
    clear hne hil hbX hr1 hr2 hgc hrc hpI hqI hP hpl hRO hr1' hgb hgc' d1 hpI' hpa
    go_wp2_with fail
    refine HRO.out.mono ?_
    rintro e X2 ⟨r, rfl, hr, hbx⟩
    obtain rfl : r = true := by simpa using hr
    have HS2 := Lib.hid (HSX.out X2 hbx)
    clear hr hbx HRO HSX c1 c2
    go_wp2
    go_loopw [8] (fun kv ws => ∃ j k : Nat, k = j + 1 ∧ (j = 0 ∨ j < pl) ∧ kv = .int .i64 k ∧ Hid (SnP w3 ws mm ((S.take i).flatMap pedges ++ (pedges P).take j))) (fun kv _ => pl + 1 - (intOf kv).toNat)
    case atStart => exact ⟨0, 1, rfl, .inl rfl, rfl, HS2⟩
    case round =>
    clear HS2
    obtain ⟨j, k, hkj, hj, rfl, HS2⟩ := hrel
    obtain ⟨Y, rfl⟩ : ∃ X : World, X = wr := ⟨_, rfl⟩
    by_cases hkp : k < pl
    case neg =>
      have HNX := Lib.hid (show SnP w3 Y mm ((S.take (i + 1)).flatMap pedges) from by
        have h := HS2.out
        rw [List.take_of_length_le (l := pedges P) (by rw [pedges_len]; have := HPL.out; omega)] at h
        obtain ⟨R, -, q2⟩ := flat_split HIL.out
        rw [q2, ← HP.out]
        exact h)
      clear hj hkj
      go_wp2
      go_roundw
      case rel => exact ⟨i + 1, by omega, by go_num, HNX⟩
      case measure => simp [intOf]; omega
    case pos =>
    have hjp : j + 1 < P.length := by have := HPL.out; omega
    obtain ⟨pb, poff, rfl, hpb, hpc⟩ := HPI.out Y HS2.out.2 (List.length_pos_iff.1 (by omega))
    obtain ⟨x, hx⟩ : ∃ x, x = I! P j := ⟨_, rfl⟩
    obtain ⟨y, hy⟩ : ∃ y, y = I! P (j + 1) := ⟨_, rfl⟩
    obtain ⟨⟨u, v⟩, huv⟩ : ∃ e, e = flatE x y := ⟨_, rfl⟩
    have hwk : IntKind.i64.wrap ((k : Int) - 1) = (j : Int) := by rw [IntWalk.i64_in _ (by omega)]; omega
    have hw1 : IntKind.i64.wrap ((0 : Int) + 1) = 1 := by rfl
    have hw1' : IntKind.i64.wrap 1 = 1 := by rfl
    have bk : (0 : Int) ≤ (k : Int) ∧ (k : Int) < (pl : Int) := by omega
    have bj : (0 : Int) ≤ (j : Int) ∧ (j : Int) < (pl : Int) := by omega
    have HKP := Lib.hid (show ∀ Z, Below mm w3 Z → Z.cell? ⟨pb, poff + j, none⟩ = some (.int .i64 x) ∧ Z.cell? ⟨pb, poff + k, none⟩ = some (.int .i64 y) from fun Z h => by
      obtain ⟨pb', poff', e', -, hc'⟩ := HPI.out Z h (List.length_pos_iff.1 (by omega))
      cases e'
      rw [hx, hy, hkj]
      exact ⟨hc' j (by omega), hc' (j + 1) (by omega)⟩)
    have hmem : (u, v) ∈ S.flatMap pedges := by
      rw [huv, hx, hy]
      obtain ⟨R, q1, -⟩ := flat_split HIL.out
      rw [q1, ← HP.out]
      simp [(pedges_take hjp).2]
    have h64 : I64 u ∧ I64 v := HI.out _ (HALL2.out.2.1 _ hmem)
    have hnew : (u, v) ∉ (S.take i).flatMap pedges ++ (pedges P).take j := by
      rw [huv, hx, hy, HP.out]
      exact pedge_new HALL2.out.1 HIL.out (by rw [← HP.out]; exact hjp)
    have hnx : (S.take i).flatMap pedges ++ (pedges P).take (j + 1) = ((S.take i).flatMap pedges ++ (pedges P).take j) ++ [(u, v)] := by
      rw [(pedges_take hjp).1, huv, hx, hy, List.append_assoc]
    have HNX := Lib.hid hnx
    have HSTEP := Lib.hid (show ∀ Z, Below Y.drew.heap.size Y.drew Z → ∃ w1 w2 c, (Instr.lookup 46 (.map (some mm)) (.agg #[.int .i64 u, .int .i64 v]) false).run Tryz.prog Z = .ok (.int .i64 0) Z ∧
      (Instr.mapEntry 46 (.map (some mm)) (.agg #[.int .i64 u, .int .i64 v])).run Tryz.prog Z = .ok (.tuple #[.int .i64 0, .int .i64 ((c : Nat) : Int)]) w1 ∧
      (Instr.lookup 46 (.map (some mm)) (.agg #[.int .i64 u, .int .i64 v]) false).run Tryz.prog w1 = .ok (.int .i64 0) w1 ∧
      (Instr.entryStore 46 (.map (some mm)) (.int .i64 ((c : Nat) : Int)) (.int .i64 1)).run Tryz.prog w1 = .ok () w2 ∧
      Hid (Below mm w3 w1) ∧ Hid (SnP w3 w2 mm (((S.take i).flatMap pedges ++ (pedges P).take j) ++ [(u, v)])) from fun Z h =>
      ((HS2.out.more ((Below.refl _ _).drew)).more h).step (u, v) h64 hnew)
    have HBZ := Lib.hid (show ∀ Z, Below Y.drew.heap.size Y.drew Z → Below mm w3 Z from fun Z h => ((HS2.out.more ((Below.refl _ _).drew)).more h).2)
    have HBD := Lib.hid (show Below mm w3 Y.drew from (HS2.out.more ((Below.refl _ _).drew)).2)
    have HFL := Lib.hid (show ∀ w, Calls Tryz.prog 25 #[.agg #[.int .i64 x, .int .i64 y]] w fun e w' => e = .returned (.agg #[.int .i64 u, .int .i64 v]) ∧ Below w.heap.size w w' from fun w => by
      refine (flat18 x y w).mono ?_
      rintro e w' ⟨rfl, hb⟩
      rw [← huv]
      exact ⟨rfl, hb⟩)
    have HJ := Lib.hid (show k + 1 = (j + 1) + 1 ∧ (j + 1 = 0 ∨ j + 1 < pl) by omega)
    have hk31 : k ≤ 31 := by omega
    clear hjp hpb hpc hx hy huv hmem h64 hnew hnx hj hkj
    go_upto_region 17 with fail
    refine wp_region_held_drew (S := (fun w' => w'.cell? ⟨pb, poff + j, none⟩ = some (.int .i64 x) ∧ w'.cell? ⟨pb, poff + k, none⟩ = some (.int .i64 y))) (by kernel_rfl) ?_ (fun hHeld0 => ?_)
    · ((try dsimp only); first | exact HKP.out _ HBD.out | exact HKP.out _ HB5.out | exact HKP.out _ HB6.out | exact HKP.out _ HB7.out)
    refine wpAnyH_take (i := 0) (v := ?_) rfl (by kernel_rfl) (by kernel_rfl) (by kernel_rfl) (fun _ _ _ h => h) (Or.inl ⟨by rfl, ?_⟩) (by assumption) ?_
    rotate_left
    · (intro w hSw; (try dsimp only at hSw); go_simp; try with_reducible rfl)
    try simp only [List.getElem_toArray, List.getElem_cons_succ, List.getElem_cons_zero, Act.put, List.setIfInBounds_toArray, List.set_cons_zero, List.set_cons_succ]
    refine wpAnyH_take (i := 1) (v := ?_) rfl (by kernel_rfl) (by kernel_rfl) (by kernel_rfl) (fun _ _ _ h => h) (Or.inl ⟨by rfl, ?_⟩) (by assumption) ?_
    rotate_left
    · (intro w hSw; (try dsimp only at hSw); go_simp; try with_reducible rfl)
    try simp only [List.getElem_toArray, List.getElem_cons_succ, List.getElem_cons_zero, Act.put, List.setIfInBounds_toArray, List.set_cons_zero, List.set_cons_succ]
    refine wpAnyH_take (i := 2) (v := ?_) rfl (by kernel_rfl) (by kernel_rfl) (by kernel_rfl) (fun _ _ _ h => h) (Or.inl ⟨by rfl, ?_⟩) (by assumption) ?_
    rotate_left
    · (intro w hSw; (try dsimp only at hSw); go_simp; try with_reducible rfl)
    try simp only [List.getElem_toArray, List.getElem_cons_succ, List.getElem_cons_zero, Act.put, List.setIfInBounds_toArray, List.set_cons_zero, List.set_cons_succ]
    refine wpAnyH_take (i := 3) (v := (.int .i64 (j : Int))) rfl (by kernel_rfl) (by kernel_rfl) (by kernel_rfl) (fun _ _ _ h => h) (Or.inl ⟨by rfl, ?_⟩) (by assumption) ?_
    · (intro w hSw; (try dsimp only at hSw); go_simp; try with_reducible rfl)
    try simp only [List.getElem_toArray, List.getElem_cons_succ, List.getElem_cons_zero, Act.put, List.setIfInBounds_toArray, List.set_cons_zero, List.set_cons_succ]
    refine wpAnyH_take (i := 4) (v := ?_) rfl (by kernel_rfl) (by kernel_rfl) (by kernel_rfl) (fun _ _ _ h => h) (Or.inl ⟨by rfl, ?_⟩) (by assumption) ?_
    rotate_left
    · (intro w hSw; (try dsimp only at hSw); go_simp; try with_reducible rfl)
    try simp only [List.getElem_toArray, List.getElem_cons_succ, List.getElem_cons_zero, Act.put, List.setIfInBounds_toArray, List.set_cons_zero, List.set_cons_succ]
    refine wpAnyH_take (i := 5) (v := ?_) rfl (by kernel_rfl) (by kernel_rfl) (by kernel_rfl) (fun _ _ _ h => h) (Or.inl ⟨by rfl, ?_⟩) (by assumption) ?_
    rotate_left
    · (intro w hSw; (try dsimp only at hSw); go_simp; try with_reducible rfl)
    try simp only [List.getElem_toArray, List.getElem_cons_succ, List.getElem_cons_zero, Act.put, List.setIfInBounds_toArray, List.set_cons_zero, List.set_cons_succ]
    refine wpAnyH_take (i := 6) (v := ?_) rfl (by kernel_rfl) (by kernel_rfl) (by kernel_rfl) (fun _ _ _ h => h) (Or.inl ⟨by rfl, ?_⟩) (by assumption) ?_
    rotate_left
    · (intro w hSw; (try dsimp only at hSw); go_simp; try with_reducible rfl)
    try simp only [List.getElem_toArray, List.getElem_cons_succ, List.getElem_cons_zero, Act.put, List.setIfInBounds_toArray, List.set_cons_zero, List.set_cons_succ]
    refine wpAnyH_take (i := 7) (v := ?_) rfl (by kernel_rfl) (by kernel_rfl) (by kernel_rfl) (fun _ _ _ h => h) (Or.inl ⟨by rfl, ?_⟩) (by assumption) ?_
    rotate_left
    · (intro w hSw; (try dsimp only at hSw); go_simp; try with_reducible rfl)
    try simp only [List.getElem_toArray, List.getElem_cons_succ, List.getElem_cons_zero, Act.put, List.setIfInBounds_toArray, List.set_cons_zero, List.set_cons_succ]
    refine wpAnyH_take (i := 8) (v := ?_) rfl (by kernel_rfl) (by kernel_rfl) (by kernel_rfl) (fun _ _ _ h => h) (Or.inl ⟨by rfl, ?_⟩) (by assumption) ?_
    rotate_left
    · (intro w hSw; (try dsimp only at hSw); go_simp; try with_reducible rfl)
    try simp only [List.getElem_toArray, List.getElem_cons_succ, List.getElem_cons_zero, Act.put, List.setIfInBounds_toArray, List.set_cons_zero, List.set_cons_succ]
    refine wpAnyH_take (i := 9) (v := ?_) rfl (by kernel_rfl) (by kernel_rfl) (by kernel_rfl) (fun _ _ _ h => h) (Or.inl ⟨by rfl, ?_⟩) (by assumption) ?_
    rotate_left
    · (intro w hSw; (try dsimp only at hSw); go_simp; try with_reducible rfl)
    try simp only [List.getElem_toArray, List.getElem_cons_succ, List.getElem_cons_zero, Act.put, List.setIfInBounds_toArray, List.set_cons_zero, List.set_cons_succ]
    refine wpAnyH_take (i := 10) (v := ?_) rfl (by kernel_rfl) (by kernel_rfl) (by kernel_rfl) (fun _ _ _ h => h) (Or.inl ⟨by rfl, ?_⟩) (by assumption) ?_
    rotate_left
    · (intro w hSw; (try dsimp only at hSw); go_simp; try with_reducible rfl)
    try simp only [List.getElem_toArray, List.getElem_cons_succ, List.getElem_cons_zero, Act.put, List.setIfInBounds_toArray, List.set_cons_zero, List.set_cons_succ]
    refine wpAnyH_ready (rs := [11]) (by kernel_rfl) (by simp) ?_
    refine AllReadyH.cons rfl (fun K hK => ?_) AllReadyH.nil
    go_simp
    go_wp2_with ((go_at_call 25; (with_reducible refine (HFL.out _).mono ?_); rintro e w5 ⟨rfl, hb5⟩; obtain ⟨w6, w7, cl, l5, m5, l6, s6, HB6, HS7⟩ := HSTEP.out w5 hb5; have HB5 := Lib.hid (HBZ.out w5 hb5); have HB7 := Lib.hid HS7.out.2))
    refine hK.out _ _ ?_ (fun hHeld1 => ?_)
    · ((try dsimp only); first | exact HKP.out _ HBD.out | exact HKP.out _ HB5.out | exact HKP.out _ HB6.out | exact HKP.out _ HB7.out)
    clear hK K hHeld0
    refine wpAnyH_ready (rs := [12, 14]) (by kernel_rfl) (by simp) ?_
    refine AllReadyH.cons rfl (fun K hK => ?_) (AllReadyH.cons rfl (fun K hK => ?_) AllReadyH.nil)
    · skip
      go_simp
      refine hK.out _ _ ?_ (fun hHeld2 => ?_)
      · ((try dsimp only); first | exact HKP.out _ HBD.out | exact HKP.out _ HB5.out | exact HKP.out _ HB6.out | exact HKP.out _ HB7.out)
      clear hK K hHeld1
      refine wpAnyH_take (i := 13) (v := (.int .i64 1)) rfl (by kernel_rfl) (by kernel_rfl) (by kernel_rfl) (fun _ _ _ h => h) (Or.inl ⟨by rfl, ?_⟩) (by assumption) ?_
      · (intro w hSw; (try dsimp only at hSw); go_simp; try with_reducible rfl)
      try simp only [List.getElem_toArray, List.getElem_cons_succ, List.getElem_cons_zero, Act.put, List.setIfInBounds_toArray, List.set_cons_zero, List.set_cons_succ]
      refine wpAnyH_ready (rs := [14]) (by kernel_rfl) (by simp) ?_
      refine AllReadyH.cons rfl (fun K hK => ?_) AllReadyH.nil
      go_simp
      refine hK.out _ _ ?_ (fun hHeld3 => ?_)
      · ((try dsimp only); first | exact HKP.out _ HBD.out | exact HKP.out _ HB5.out | exact HKP.out _ HB6.out | exact HKP.out _ HB7.out)
      clear hK K hHeld2
      refine wpAnyH_take (i := 15) (v := ?_) rfl (by kernel_rfl) (by kernel_rfl) (by kernel_rfl) (fun _ _ _ h => h) (Or.inl ⟨by rfl, ?_⟩) (by assumption) ?_
      rotate_left
      · (intro w hSw; (try dsimp only at hSw); go_simp; try with_reducible rfl)
      try simp only [List.getElem_toArray, List.getElem_cons_succ, List.getElem_cons_zero, Act.put, List.setIfInBounds_toArray, List.set_cons_zero, List.set_cons_succ]
      refine wpAnyH_ready (rs := [16]) (by kernel_rfl) (by simp) ?_
      refine AllReadyH.cons rfl (fun K hK => ?_) AllReadyH.nil
      go_simp
      refine hK.out _ _ ?_ (fun hHeld4 => ?_)
      · ((try dsimp only); first | exact HKP.out _ HBD.out | exact HKP.out _ HB5.out | exact HKP.out _ HB6.out | exact HKP.out _ HB7.out)
      clear hK K hHeld3
      refine wpAnyH_done (by kernel_rfl) ?_ _
      clear hHeld4
      clear l5 m5 l6 s6 hb5
      go_wp2
      go_roundw
      case rel => exact ⟨j + 1, k + 1, HJ.out.1, HJ.out.2, by go_num, by rw [HNX.out]; exact HS7⟩
      case measure => simp [intOf]; omega
    · skip
      go_simp
      refine hK.out _ _ ?_ (fun hHeld5 => ?_)
      · ((try dsimp only); first | exact HKP.out _ HBD.out | exact HKP.out _ HB5.out | exact HKP.out _ HB6.out | exact HKP.out _ HB7.out)
      clear hK K hHeld1
      refine wpAnyH_take (i := 15) (v := ?_) rfl (by kernel_rfl) (by kernel_rfl) (by kernel_rfl) (fun _ _ _ h => h) (Or.inl ⟨by rfl, ?_⟩) (by assumption) ?_
      rotate_left
      · (intro w hSw; (try dsimp only at hSw); go_simp; try with_reducible rfl)
      try simp only [List.getElem_toArray, List.getElem_cons_succ, List.getElem_cons_zero, Act.put, List.setIfInBounds_toArray, List.set_cons_zero, List.set_cons_succ]
      refine wpAnyH_ready (rs := [12]) (by kernel_rfl) (by simp) ?_
      refine AllReadyH.cons rfl (fun K hK => ?_) AllReadyH.nil
      go_simp
      refine hK.out _ _ ?_ (fun hHeld6 => ?_)
      · ((try dsimp only); first | exact HKP.out _ HBD.out | exact HKP.out _ HB5.out | exact HKP.out _ HB6.out | exact HKP.out _ HB7.out)
      clear hK K hHeld5
      refine wpAnyH_take (i := 13) (v := (.int .i64 1)) rfl (by kernel_rfl) (by kernel_rfl) (by kernel_rfl) (fun _ _ _ h => h) (Or.inl ⟨by rfl, ?_⟩) (by assumption) ?_
      · (intro w hSw; (try dsimp only at hSw); go_simp; try with_reducible rfl)
      try simp only [List.getElem_toArray, List.getElem_cons_succ, List.getElem_cons_zero, Act.put, List.setIfInBounds_toArray, List.set_cons_zero, List.set_cons_succ]
      refine wpAnyH_ready (rs := [16]) (by kernel_rfl) (by simp) ?_
      refine AllReadyH.cons rfl (fun K hK => ?_) AllReadyH.nil
      go_simp
      refine hK.out _ _ ?_ (fun hHeld7 => ?_)
      · ((try dsimp only); first | exact HKP.out _ HBD.out | exact HKP.out _ HB5.out | exact HKP.out _ HB6.out | exact HKP.out _ HB7.out)
      clear hK K hHeld6
      refine wpAnyH_done (by kernel_rfl) ?_ _
      clear hHeld7
      clear l5 m5 l6 s6 hb5
      go_wp2
      go_roundw
      case rel => exact ⟨j + 1, k + 1, HJ.out.1, HJ.out.2, by go_num, by rw [HNX.out]; exact HS7⟩
      case measure => simp [intOf]; omega
  case neg =>
  obtain rfl : sl = i := by omega
  have HSN2 := Lib.hid (show SnP w3 X mm (S.flatMap pedges) from by
    have := HSN.out
    rw [List.take_of_length_le (by rw [HSL.out]; exact Nat.le_refl _)] at this
    exact this)
  have HBX := Lib.hid (HRX.out X (by have := HSN.out.2; rw [HMM.out] at this; exact this)).2.2
  by_cases hs0 : sl = 0
  case pos =>
    have g3 : ((sl : Int) == 0) = true := by simp; omega
    clear hs0 hi hlt HSN
    go_wp2
    exact bodyPost_ret (v := .bool true) (by simp [results, Tryz.results5, go_sem]) rfl ⟨rfl, HBX.out⟩
  case neg =>
  have g3 : ((sl : Int) == 0) = false := by simp; omega
  have hne : S ≠ [] := fun e => by have := HSL.out; rw [e] at this; simp at this; omega
  have HLL := Lib.hid (HALL.out hne).2
  clear hs0 hi hlt HSN hne
  go_wp2
  go_loopw [68] (fun v ws => ∃ i : Nat, i ≤ n ∧ v = .int .i64 i ∧ Hid (SnP w3 ws mm (S.flatMap pedges))) (fun v _ => n - (intOf v).toNat)
  case atStart => exact ⟨0, by omega, rfl, HSN2⟩
  case round =>
  clear HSN2
  obtain ⟨i, hi, rfl, HSN⟩ := hrel
  obtain ⟨Y, rfl⟩ : ∃ X : World, X = wr := ⟨_, rfl⟩
  have HBY := Lib.hid (HRX.out Y (by have := HSN.out.2; rw [HMM.out] at this; exact this)).2.2
  by_cases hin : i < n
  case neg =>
    obtain rfl : n = i := by omega
    have hln := mapIs_len HSN.out.1
    rw [HLL.out.2, ← HN.out] at hln
    have g4 : ((n : Int) == (n : Int)) = true := by simp
    clear hin
    go_wp2
    exact bodyPost_ret (v := .bool true) (by simp [results, Tryz.results5, go_sem]) rfl ⟨rfl, HBY.out⟩
  case pos =>
  have hil : i < E.length := by rw [← HN.out]; exact hin
  obtain ⟨eb, eoff, rfl, -, hec⟩ := (HE.out.mono (Nat.le_refl _) HBY.out) (fun e => by rw [e] at hil; simp at hil)
  obtain ⟨k1, k2⟩ := hec i hil
  have hmem := E!_mem hil
  obtain ⟨⟨a, b⟩, hab⟩ : ∃ e, e = E! E i := ⟨_, rfl⟩
  rw [← hab] at k1 k2 hmem
  have h64 : I64 a ∧ I64 b := HI.out _ hmem
  have bi : (0 : Int) ≤ (i : Int) ∧ (i : Int) < (n : Int) := by omega
  obtain ⟨xb, hxb⟩ : ∃ b, b = Y.heap.size := ⟨_, rfl⟩
  obtain ⟨Y1, hY1⟩ : ∃ Y1, Y1 = Y.alloc (.cells #[.int .i64 a, .int .i64 b] 40) := ⟨_, rfl⟩
  have hbY1 : Below Y.heap.size Y Y1 := by rw [hY1]; exact (Below.refl _ _).alloc (Nat.le_refl _) _
  have hrY1 : RowIs Y1 xb 40 [.int .i64 a, .int .i64 b] := by rw [hY1, hxb]; exact RowIs.made Y 40 [.int .i64 a, .int .i64 b]
  have HSN1 := Lib.hid (HSN.out.more hbY1)
  have hlk := HSN1.out.1.look 46 3 (by kernel_rfl) zeroInt18 (a, b) h64 false
  rw [onceC_yes ((HLL.out.1 _).2 hmem)] at hlk
  simp only [edgeFam, Option.getD_some, Bool.false_eq_true, if_false] at hlk
  have e0 := hrY1.cell (i := 0) rfl
  have e1 := hrY1.cell (i := 1) rfl
  have HY1 := Lib.hid hY1
  have HXB := Lib.hid hxb
  have g5 : ((1 : Int) != 1) = false := by rfl
  clear hil hec hmem hab h64 hbY1 hrY1 hY1 hxb
  go_upto_region 24 with fail
  rw [← HY1.out]
  simp only [← HXB.out]
  clear k1 k2
  go_wp2
  go_roundw
  case rel => exact ⟨i + 1, by omega, by go_num, HSN1⟩
  case measure => simp [intOf]; omega
end Go.Proofs.YtkjamheoihlekaaGreat

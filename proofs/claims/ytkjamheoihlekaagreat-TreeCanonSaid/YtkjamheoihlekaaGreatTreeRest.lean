/- tree.Rest: contract. -/
import Derived.Test.YtkjamheoihlekaaGreatTreeReach
import Derived.Test.YtkjamheoihlekaaGreatTreeOrder
import Derived.Test.YtkjamheoihlekaaGreatMapLaw
import Derived.Test.YtkjamheoihlekaaGreatLeftLaw
import Derived.Test.YtkjamheoihlekaaGreatEdgesW
namespace Go.Proofs.YtkjamheoihlekaaGreat
set_option linter.unusedVariables false
set_option linter.unusedSimpArgs false
open Go.RowKit Go.Maps
open Classical in
noncomputable def mC (P : Int × Int → Prop) : Int × Int → Option Value := fun e => if P e then some (.bool true) else none
theorem mC_ne {P : Int × Int → Prop} {e : Int × Int} : mC P e ≠ none ↔ P e := by
  unfold mC
  by_cases h : P e <;> simp [h]
theorem mC_congr {P Q : Int × Int → Prop} (h : ∀ e, P e ↔ Q e) : mC P = mC Q := by
  funext e
  unfold mC
  by_cases q : P e
  · rw [if_pos q, if_pos ((h e).1 q)]
  · rw [if_neg q, if_neg (fun r => q ((h e).2 r))]
theorem mC_store (P : Int × Int → Prop) (a : Int × Int) : (fun b => if b = a then some (Value.bool true) else mC P b) = mC (fun e => P e ∨ e = a) := by
  funext b
  unfold mC
  by_cases h : b = a
  · simp [h]
  · by_cases q : P b <;> simp [h, q]
theorem mC_del (P : Int × Int → Prop) (a : Int × Int) : (fun b => if b = a then none else mC P b) = mC (fun e => P e ∧ e ≠ a) := by
  funext b
  unfold mC
  by_cases h : b = a
  · simp [h]
  · by_cases q : P b <;> simp [h, q]
theorem mC_none : mC (fun _ => False) = fun _ => none := by
  funext b
  simp [mC]
/-- The edges of the first i triangles of the order, and j of the next one. -/
def PF (T : List Tr) (o : List Nat) (i j : Nat) (e : Int × Int) : Prop := ∃ i' j', (i' < i ∧ j' < 3 ∨ i' = i ∧ j' < j) ∧ e = ukey T (3 * o.getD i' 0 + j')
theorem PF_zero (T : List Tr) (o : List Nat) (e : Int × Int) : PF T o 0 0 e ↔ False := ⟨fun ⟨i', j', h, _⟩ => by omega, False.elim⟩
theorem PF_next (T : List Tr) (o : List Nat) (i : Nat) (e : Int × Int) : PF T o i 3 e ↔ PF T o (i + 1) 0 e :=
  ⟨fun ⟨i', j', h, q⟩ => ⟨i', j', by omega, q⟩, fun ⟨i', j', h, q⟩ => ⟨i', j', by omega, q⟩⟩
theorem PF_succ (T : List Tr) (o : List Nat) (i j : Nat) (e : Int × Int) : PF T o i (j + 1) e ↔ PF T o i j e ∨ e = ukey T (3 * o.getD i 0 + j) := by
  constructor
  · rintro ⟨i', j', h, q⟩
    by_cases hh : i' = i ∧ j' = j
    · obtain ⟨rfl, rfl⟩ := hh; exact .inr q
    · exact .inl ⟨i', j', by omega, q⟩
  · rintro (⟨i', j', h, q⟩ | q)
    · exact ⟨i', j', by omega, q⟩
    · exact ⟨i, j, by omega, q⟩
/-- And not faced by the first i links. -/
def PD (T : List Tr) (s : BfS) (i : Nat) (e : Int × Int) : Prop := PF T s.o s.o.length 0 e ∧ ¬ ∃ i' c : Nat, i' < i ∧ s.l i' = (c : Int) ∧ e = ukey T c
theorem PD_zero (T : List Tr) (s : BfS) (e : Int × Int) : PD T s 0 e ↔ PF T s.o s.o.length 0 e := ⟨fun h => h.1, fun h => ⟨h, fun ⟨i', c, q, _⟩ => by omega⟩⟩
theorem PD_skip (T : List Tr) (s : BfS) (i : Nat) (h : s.l i < 0) (e : Int × Int) : PD T s (i + 1) e ↔ PD T s i e := by
  unfold PD
  refine and_congr_right fun _ => not_congr ⟨?_, ?_⟩
  · rintro ⟨i', c, q, r, t⟩
    refine ⟨i', c, ?_, r, t⟩
    by_cases hi : i' = i
    · subst hi; omega
    · omega
  · rintro ⟨i', c, q, r, t⟩; exact ⟨i', c, by omega, r, t⟩
theorem PD_take (T : List Tr) (s : BfS) (i c : Nat) (h : s.l i = (c : Int)) (e : Int × Int) : PD T s (i + 1) e ↔ PD T s i e ∧ e ≠ ukey T c := by
  unfold PD
  constructor
  · rintro ⟨h1, h2⟩
    exact ⟨⟨h1, fun ⟨i', d, q, r, t⟩ => h2 ⟨i', d, by omega, r, t⟩⟩, fun q => h2 ⟨i, c, by omega, h, q⟩⟩
  · rintro ⟨⟨h1, h2⟩, h3⟩
    refine ⟨h1, ?_⟩
    rintro ⟨i', d, q, r, t⟩
    by_cases hi : i' = i
    · subst hi
      rw [h] at r
      exact h3 (by rw [t, show d = c by omega])
    · exact h2 ⟨i', d, by omega, r, t⟩
theorem PD_all {T : List Tr} {f : Nat} {s : BfS} (hI : BfI T f s) (e : Int × Int) : PD T s T.length e ↔ restB T s e := by
  unfold PD restB
  refine and_congr ⟨?_, ?_⟩ (not_congr ⟨?_, ?_⟩)
  · rintro ⟨i, j, h, rfl⟩
    have hi : i < s.o.length := by omega
    have := hI.lt _ (getD_mem18 hi)
    exact ⟨_, by omega, by rw [show (3 * s.o.getD i 0 + j) / 3 = s.o.getD i 0 by omega]; exact getD_mem18 hi, rfl⟩
  · rintro ⟨c, h1, h2, rfl⟩
    obtain ⟨i, hi, he⟩ := List.mem_iff_getElem.1 h2
    refine ⟨i, c % 3, by omega, ?_⟩
    rw [List.getD_eq_getElem?_getD, List.getElem?_eq_getElem hi]
    simp only [Option.getD_some]
    rw [he, show 3 * (c / 3) + c % 3 = c by omega]
  · rintro ⟨i, c, h1, h2, h3⟩
    refine ⟨i, c, ?_, h2, h3⟩
    apply Classical.byContradiction
    intro hn
    rw [hI.no i hn] at h2
    omega
  · rintro ⟨t, c, h1, h2, h3⟩
    exact ⟨t, c, hI.lt t h1, h2, h3⟩
/-- What tree.Rest comes to. -/
def RestP (T : List Tr) (f : Nat) (w : World) (e : Ending) (w' : World) : Prop :=
  ∃ ao cap D, (D.Nodup ∧ ∀ a, a ∈ D ↔ restB T (bfs T f) a) ∧ e = .returned (.slice ao D.length cap) ∧ EdgesAt w' ao (sortP D) ∧ Below w.heap.size w w'
set_option maxRecDepth 100000 in
set_option maxHeartbeats 4000000 in
theorem rest_ok (p : Nat) (N : Int) (T : List Tr) (f : Nat) (w : World) (h : Tab w p N T) (hs : Surf N T) (hf : f < 3 * T.length) :
    Calls Tryz.prog 17 #[.pointer (some ⟨p, 0, none⟩), .int .i64 f] w (RestP T f w) := by
  have HRC := Lib.hid (reach_ok p N T f w h hs hf)
  have hv := h.vin.vt (c := (f : Int)) (by omega) (by omega)
  have HV := Lib.hid (vertex_any (f : Int) w p N T h.len h.s (by omega) (by omega))
  have hI : BfI T f (bfs T f) := bfs_inv hs hf _
  have HI := Lib.hid hI
  have hol := hI.len
  have hn1 := hs.n1
  have ht1 := hs.t1
  obtain ⟨v, hvv⟩ : ∃ v, v = vt T (f : Int) := ⟨_, rfl⟩
  rw [← hvv] at hv HV
  have g0 : decide (v < 0) = false := by simpa using hv.1
  obtain ⟨B, hB⟩ : ∃ B, B = w.heap.size := ⟨_, rfl⟩
  have HBB := Lib.hid hB
  have HT := Lib.hid h
  have HS := Lib.hid hs
  obtain ⟨s, hs'⟩ : ∃ s, s = bfs T f := ⟨_, rfl⟩
  obtain ⟨F, hF⟩ : ∃ F, F = T.length := ⟨_, rfl⟩
  obtain ⟨on, hon⟩ : ∃ n, n = s.o.length := ⟨_, rfl⟩
  simp only [← hs', ← hF, ← hon] at HRC HI hol ht1
  have HSE := Lib.hid hs'
  have HF := Lib.hid hF
  have HON := Lib.hid hon
  have hob : on ≤ 8192 := by omega
  have hmm := @run_makeMap Tryz.prog
  clear h hs hf hv hvv hI hB hs' hF hon
  go_enter Tryz.func17, Tryz.ntmps17
  go_wp2_with fail
  refine HV.out.mono ?_
  rintro e w' ⟨rfl, rfl⟩
  go_wp2_with fail
  refine HRC.out.mono ?_
  rintro e w2 ⟨gl, ao, cap, rfl, hr, ho, hb⟩
  obtain ⟨m, hm⟩ : ∃ m, m = w2.heap.size := ⟨_, rfl⟩
  have HM := Lib.hid hm
  have HB2 := Lib.hid hb
  have HRL := Lib.hid hr
  have HRO := Lib.hid ho
  have HMP := Lib.hid (show MapB edgeFam (w2.alloc (.map #[] 0)) w2.heap.size 0 (mC (PF T s.o 0 0)) from by
    rw [mC_congr (PF_zero T s.o), mC_none]
    exact MapB.made w2)
  rw [← hm] at HMP
  have HBM := Lib.hid (show Below m w2 (w2.alloc (.map #[] 0)) from by rw [hm]; exact (Below.refl _ _).alloc (Nat.le_refl _) _)
  clear hm hb hr ho
  have HTX := Lib.hid (show ∀ X, Below m w2 X → TabS X p N T from fun X hX => ((HT.out.mono (B := w.heap.size) (Nat.le_refl _) HB2.out).mono (B := m) (by rw [HM.out]; exact Nat.le_refl _) hX).s)
  have HRX := Lib.hid (show ∀ X, Below m w2 X → RowIs X gl 3 (iv s.l F) ∧ IntsAt X ao (s.o.map fun (x : Nat) => (x : Int)) from fun X hX => ⟨HRL.out.below hX (by rw [HM.out]; exact HRL.out.lt), HRO.out.mono (by rw [HM.out]; exact Nat.le_refl _) hX⟩)
  have HVI := Lib.hid HT.out.vin
  have HLN := Lib.hid HT.out.len
  have HNL := Lib.hid HT.out.nle
  go_wp2
  simp only [← HM.out]
  go_loopw [26] (fun v ws => ∃ i cn : Nat, i ≤ on ∧ v = .int .i64 i ∧ MapB edgeFam ws m cn (mC (PF T s.o i 0)) ∧ cn ≤ 3 * i ∧ Below m w2 ws) (fun v _ => on - (intOf v).toNat)
  case atStart => exact ⟨0, 0, by omega, rfl, HMP.out, by omega, HBM.out⟩
  case round =>
  clear HMP HBM
  obtain ⟨i, cn, hi, rfl, hmap, hcn, hbel⟩ := hrel
  obtain ⟨X, rfl⟩ : ∃ X : World, X = wr := ⟨_, rfl⟩
  have HMAP := Lib.hid hmap
  have HBEL := Lib.hid hbel
  by_cases hlt : i < on
  case neg =>
    obtain rfl : i = on := by omega
    have HM0 := Lib.hid (show MapB edgeFam X m cn (mC (PD T s 0)) from by
      rw [mC_congr (PD_zero T s), ← HON.out]
      exact hmap)
    clear hmap hbel
    go_wp2
    go_loopw [47] (fun v ws => ∃ k c2 : Nat, k ≤ F ∧ v = .int .i64 k ∧ MapB edgeFam ws m c2 (mC (PD T s k)) ∧ c2 ≤ 3 * i ∧ Below m w2 ws) (fun v _ => F - (intOf v).toNat)
    case atStart => exact ⟨0, cn, by omega, rfl, HM0.out, hcn, HBEL.out⟩
    case round =>
    clear HM0 HMAP HBEL
    obtain ⟨k, c2, hk, rfl, hmap, hc2, hbel⟩ := hrel
    obtain ⟨Y, rfl⟩ : ∃ X : World, X = wr := ⟨_, rfl⟩
    have HMAP := Lib.hid hmap
    have HBEL := Lib.hid hbel
    by_cases hkF : k < F
    case neg =>
      obtain rfl : k = F := by omega
      have HPA := Lib.hid (show ∀ e, mC (PD T s k) e ≠ none ↔ restB T (bfs T f) e from fun e => by rw [mC_ne, HF.out, ← HSE.out]; exact PD_all HI.out e)
      have hbx : Below Y.heap.size Y (Y.alloc (.cells #[.map (some m)] 68)) := (Below.refl _ _).alloc (Nat.le_refl _) _
      have HKM := Lib.hid (keys_mk m Y)
      have HSF := Lib.hid (sorted_keys 47 order_cmp (enters_of Tryz.func47 (by kernel_rfl) rfl) Y.heap.size m c2 (by omega) (mC (PD T s k)) (Y.alloc (.cells #[.map (some m)] 68)) (by simp) ((RowIs.made Y 68 [.map (some m)]).cell (i := 0) rfl) (hmap.below (Nat.le_refl _) hbx))
      have hmY : m ≤ Y.heap.size := Nat.le_of_lt hmap.lt
      have HBX := Lib.hid (show Below m w2 (Y.alloc (.cells #[.map (some m)] 68)) ∧ m ≤ (Y.alloc (.cells #[.map (some m)] 68)).heap.size from ⟨below_more hbel hbx hmY, by simp; omega⟩)
      clear hmap hbel hbx hmY
      go_wp2_with fail
      refine HKM.out.mono ?_
      rintro e w' ⟨rfl, hw'⟩
      subst hw'
      go_wp2_with fail
      refine HSF.out.mono ?_
      rintro e w3 ⟨ao', cap', D, hD, rfl, hE3, hb3⟩
      have HP := Lib.hid (show RestP T f w (.returned (.slice ao' D.length cap')) w3 from ⟨ao', cap', D, ⟨hD.1, fun a => by rw [hD.2]; exact HPA.out a⟩, rfl, hE3, below_more HB2.out ((below_more HBX.out.1 hb3 HBX.out.2).mono (by rw [HM.out]; exact Nat.le_refl _)) HB2.out.size⟩)
      clear hD hE3 hb3
      go_wp2
      go_ret
      exact HP.out
    case pos =>
    have cl := (HRX.out Y hbel).1.cell (i := k) (v := .int .i64 (s.l k)) (iv_get _ hkF)
    have bk : (0 : Int) ≤ (k : Int) ∧ (k : Int) < (F : Int) := by omega
    have hlk : s.l k = -1 ∨ ∃ c : Nat, s.l k = (c : Int) ∧ c < 3 * F := by
      by_cases hm9 : k ∈ s.o
      · by_cases hr9 : k = f / 3
        · left; rw [hr9]; exact HI.out.rt
        · obtain ⟨c, e1, e2, -⟩ := HI.out.lk k hm9 hr9
          exact .inr ⟨c, e1, by rw [HF.out]; exact e2⟩
      · exact .inl (HI.out.no k hm9)
    rcases hlk with hl | ⟨c, hl, hc3⟩
    · rw [hl] at cl
      have HMS := Lib.hid (show MapB edgeFam Y m c2 (mC (PD T s (k + 1))) from by
        rw [mC_congr (PD_skip T s k (by omega))]
        exact hmap)
      clear hmap hbel hl
      go_wp2
      go_roundw
      case rel => exact ⟨k + 1, c2, by omega, by go_num, HMS.out, hc2, HBEL.out⟩
      case measure => simp [intOf]; omega
    · rw [hl] at cl
      have HED := Lib.hid (edge_any (c : Int) Y p N T HLN.out (HTX.out Y hbel) (by omega) (by rw [← HF.out]; omega))
      have hva := HVI.out.vt (nx_in (c := (c : Int)) (n := T.length) (by omega) (by rw [← HF.out]; omega)).1 (nx_in (c := (c : Int)) (n := T.length) (by omega) (by rw [← HF.out]; omega)).2
      have hvb := HVI.out.vt (pv_in (c := (c : Int)) (n := T.length) (by omega) (by rw [← HF.out]; omega)).1 (pv_in (c := (c : Int)) (n := T.length) (by omega) (by rw [← HF.out]; omega)).2
      have hkey : ukey T c = (min (vt T (nx (c : Int))) (vt T (pv (c : Int))), max (vt T (nx (c : Int))) (vt T (pv (c : Int)))) := by
        rw [nx_nat, pv_nat]
        rfl
      obtain ⟨a, ha⟩ : ∃ a, a = vt T (nx (c : Int)) := ⟨_, rfl⟩
      obtain ⟨b, hb'⟩ : ∃ a, a = vt T (pv (c : Int)) := ⟨_, rfl⟩
      rw [← ha] at HED hva hkey
      rw [← hb'] at HED hvb hkey
      have hok : I64 (min a b) ∧ I64 (max a b) := by have := HNL.out; unfold I64; omega
      have HKEY := Lib.hid hkey
      have HOK := Lib.hid hok
      have g1 : decide ((c : Int) ≥ 0) = true := by simp
      have HLK := Lib.hid hl
      clear hmap hbel hva hvb hkey ha hb' hok hl
      go_wp2_with fail
      refine HED.out.mono ?_
      rintro e w5 ⟨rfl, hb5⟩
      have HB5 := Lib.hid hb5
      clear hb5
      go_wp2_with fail
      refine (plain_ok a b w5).mono ?_
      rintro e w6 ⟨rfl, hb6⟩
      have hY6 : Below Y.heap.size Y w6 := below_more HB5.out hb6 HB5.out.size
      obtain ⟨Z', n', hst, hn', hM', hg'⟩ := (HMAP.out.below (Nat.le_refl _) hY6).delete 68 4 (by kernel_rfl) (min a b, max a b) HOK.out
      have hP : mC (fun e => PD T s k e ∧ e ≠ ukey T c) = mC (PD T s (k + 1)) := mC_congr fun e => (PD_take T s k c HLK.out e).symm
      rw [← HKEY.out, mC_del, hP] at hM'
      simp only [edgeFam] at hst
      have HN := Lib.hid (show ∃ c3, MapB edgeFam Z' m c3 (mC (PD T s (k + 1))) ∧ c3 ≤ 3 * i ∧ Below m w2 Z' from
        ⟨_, hM', by omega, (below_more HBEL.out hY6 (Nat.le_of_lt HMAP.out.lt)).grown hg' (by have := HMAP.out.lt; have := hY6.size; omega) (fun q hq => by cases hq; exact Nat.le_refl _)⟩)
      clear hb6 hY6 hM' hg' hn' hP
      go_wp2
      obtain ⟨c3, n1, n2, n3⟩ := HN.out
      go_roundw
      case rel => exact ⟨k + 1, c3, by omega, by go_num, n1, n2, n3⟩
      case measure => simp [intOf]; omega
  case pos =>
  have hof : s.o.getD i 0 ∈ s.o := getD_mem18 (by rw [← HON.out]; exact hlt)
  obtain ⟨t, ht⟩ : ∃ t, t = s.o.getD i 0 := ⟨_, rfl⟩
  rw [← ht] at hof
  have htF : t < F := by rw [HF.out]; exact HI.out.lt t hof
  obtain ⟨ob, ooff, rfl, hob', hoc⟩ := (HRX.out X hbel).2 (by intro e; have h9 := HON.out; have := congrArg List.length e; simp at this; rw [this] at h9; simp at h9; omega)
  have co := hoc i (by rw [List.length_map, ← HON.out]; exact hlt)
  have hti : I! (s.o.map fun (x : Nat) => (x : Int)) i = (t : Int) := by
    rw [ht]
    simp only [I!, List.getD_eq_getElem?_getD, List.getElem?_map]
    rw [List.getElem?_eq_getElem (by rw [← HON.out]; exact hlt)]
    rfl
  rw [hti] at co
  have bi : (0 : Int) ≤ (i : Int) ∧ (i : Int) < (on : Int) := by omega
  have HTI := Lib.hid ht
  clear hmap hbel hof hob' hoc hti ht
  go_wp2
  go_loopw [10] (fun v ws => ∃ j c2 : Nat, j ≤ 3 ∧ v = .int .i64 (3 * (t : Int) + (j : Int)) ∧ MapB edgeFam ws m c2 (mC (PF T s.o i j)) ∧ c2 ≤ 3 * i + j ∧ Below m w2 ws) (fun v _ => 3 * t + 3 - (intOf v).toNat)
  case atStart => exact ⟨0, cn, by omega, by go_num, HMAP.out, by omega, HBEL.out⟩
  case round =>
  clear HMAP HBEL
  obtain ⟨j, c2, hj, rfl, hmap, hc2, hbel⟩ := hrel
  obtain ⟨Y, rfl⟩ : ∃ X : World, X = wr := ⟨_, rfl⟩
  have HMAP := Lib.hid hmap
  have HBEL := Lib.hid hbel
  by_cases hj3 : j < 3
  case neg =>
    obtain rfl : j = 3 := by omega
    have HM3 := Lib.hid (show MapB edgeFam Y m c2 (mC (PF T s.o (i + 1) 0)) from by rw [← mC_congr (PF_next T s.o i)]; exact hmap)
    clear hmap hbel
    go_wp2
    go_roundw
    case rel => exact ⟨i + 1, c2, by omega, by go_num, HM3.out, by omega, HBEL.out⟩
    case measure => simp [intOf]; omega
  case pos =>
  have HED := Lib.hid (edge_any (3 * (t : Int) + (j : Int)) Y p N T HLN.out (HTX.out Y hbel) (by omega) (by rw [← HF.out]; omega))
  have hcn' : (3 * (t : Int) + (j : Int)) = ((3 * t + j : Nat) : Int) := by omega
  have hva := HVI.out.vt (nx_in (c := 3 * (t : Int) + (j : Int)) (n := T.length) (by omega) (by rw [← HF.out]; omega)).1 (nx_in (c := 3 * (t : Int) + (j : Int)) (n := T.length) (by omega) (by rw [← HF.out]; omega)).2
  have hvb := HVI.out.vt (pv_in (c := 3 * (t : Int) + (j : Int)) (n := T.length) (by omega) (by rw [← HF.out]; omega)).1 (pv_in (c := 3 * (t : Int) + (j : Int)) (n := T.length) (by omega) (by rw [← HF.out]; omega)).2
  have hkey : ukey T (3 * t + j) = (min (vt T (nx (3 * (t : Int) + (j : Int)))) (vt T (pv (3 * (t : Int) + (j : Int)))), max (vt T (nx (3 * (t : Int) + (j : Int)))) (vt T (pv (3 * (t : Int) + (j : Int))))) := by
    rw [hcn', nx_nat, pv_nat]
    rfl
  obtain ⟨a, ha⟩ : ∃ a, a = vt T (nx (3 * (t : Int) + (j : Int))) := ⟨_, rfl⟩
  obtain ⟨b, hb'⟩ : ∃ a, a = vt T (pv (3 * (t : Int) + (j : Int))) := ⟨_, rfl⟩
  rw [← ha] at HED hva hkey
  rw [← hb'] at HED hvb hkey
  have hok : I64 (min a b) ∧ I64 (max a b) := by have := HNL.out; unfold I64; omega
  have HKEY := Lib.hid hkey
  have HOK := Lib.hid hok
  clear hmap hbel hcn' hva hvb hkey ha hb' hok
  go_wp2_with fail
  refine HED.out.mono ?_
  rintro e w5 ⟨rfl, hb5⟩
  have HB5 := Lib.hid hb5
  clear hb5
  go_wp2_with fail
  refine (plain_ok a b w5).mono ?_
  rintro e w6 ⟨rfl, hb6⟩
  have hY6 : Below Y.heap.size Y w6 := below_more HB5.out hb6 HB5.out.size
  obtain ⟨Z', hst, hM', hg'⟩ := (HMAP.out.below (Nat.le_refl _) hY6).store 68 4 (by kernel_rfl) (min a b, max a b) HOK.out (.bool true)
  have hP : mC (fun e => PF T s.o i j e ∨ e = ukey T (3 * t + j)) = mC (PF T s.o i (j + 1)) := mC_congr fun e => by rw [PF_succ, ← HTI.out]
  rw [← HKEY.out, mC_store, hP] at hM'
  simp only [edgeFam] at hst
  have HN := Lib.hid (show ∃ c3, MapB edgeFam Z' m c3 (mC (PF T s.o i (j + 1))) ∧ c3 ≤ 3 * i + (j + 1) ∧ Below m w2 Z' from
    ⟨_, hM', by split <;> omega, (below_more HBEL.out hY6 (Nat.le_of_lt HMAP.out.lt)).grown hg' (by have := HMAP.out.lt; have := hY6.size; omega) (fun q hq => by cases hq; exact Nat.le_refl _)⟩)
  clear hb6 hY6 hM' hg'
  go_wp2
  obtain ⟨c3, n1, n2, n3⟩ := HN.out
  go_roundw
  case rel => exact ⟨j + 1, c3, by omega, by go_num, n1, n2, n3⟩
  case measure => simp [intOf]; omega
end Go.Proofs.YtkjamheoihlekaaGreat

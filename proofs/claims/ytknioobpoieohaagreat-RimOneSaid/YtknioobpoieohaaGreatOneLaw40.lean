/- One bay: no rim, and its cut is the surface. Each triangle a bay: the rim is where more than one meet. Who touches is touched. Plain. -/
import Derived.Test.YtknioobpoieohaaGreatWholeLaw
import Derived.Test.YtknioobpoieohaaGreatTouchLaw
namespace Go.Proofs.YtknioobpoieohaaGreat
set_option linter.unusedVariables false
set_option linter.unusedSimpArgs false
open Go.RowKit
theorem many_one {T : List Tr} {bays : List Int} {x : Int} (h : ∀ t, t < T.length → I! bays t = x) (v : Int) : manyB T bays v = false := by
  cases e : manyB T bays v
  · rfl
  · obtain ⟨c, d, hc, hd, -, -, hne⟩ := manyB_iff.1 e
    exact absurd ((h (c / 3) (by omega)).trans (h (d / 3) (by omega)).symm) hne
theorem rim_one {T : List Tr} {bays : List Int} {x : Int} (h : ∀ t, t < T.length → I! bays t = x) (n : Nat) : rimL T bays n = [] := by
  unfold rimL
  rw [List.filter_eq_nil_iff]
  intro v _
  rw [many_one h]
  simp
theorem sel_all {T : List Tr} {bays : List Int} {x : Int} (h : ∀ t, t < T.length → I! bays t = x) : sel bays x T.length = List.range T.length := by
  unfold sel
  rw [List.filter_eq_self]
  intro t ht
  simpa using h t (List.mem_range.1 ht)
/-- The vertices of the only bay are those of the surface, in order. -/
theorem one_cutV {n : Nat} {T : List Tr} {bays : List Int} {x : Int} {L : Nat → Int} {F : List Nat} (hc : CutIs T bays x L F) (hs : Surf n T) (h : ∀ t, t < T.length → I! bays t = x) : cutV T F = il (fun (v : Nat) => (v : Int)) n := by
  have hF : ∀ c, c ∈ F → c < 3 * T.length ∧ L c = c := fun c hcF => by
    have := hc.mem.1 hcF
    exact ⟨this.1, this.2.2⟩
  have hv : ∀ c, c ∈ F → vtx T c = vt T (c : Nat) := fun c hcF => by unfold vtx; rw [if_pos (hF c hcF).1]
  refine lt_unique ?_ ?_ fun a => ?_
  · unfold cutV
    rw [List.pairwise_map, List.pairwise_iff_getElem]
    intro i j hi hj hij
    have h1 := List.pairwise_iff_getElem.1 hc.sorted i j hi hj hij
    have hne : F[i] ≠ F[j] := fun e => by
      have := (List.getElem_inj hc.nodup).1 e
      omega
    have mi := List.getElem_mem hi
    have mj := List.getElem_mem hj
    unfold ltC at h1
    by_cases e : vtx T F[i] = vtx T F[j]
    · exfalso
      have e2 : vt T (F[i] : Nat) = vt T (F[j] : Nat) := by rw [← hv _ mi, ← hv _ mj, e]
      have hcn := one_side hs (many_one h _) (hF _ mi).1 (hF _ mj).1 e2 rfl
      have hl := (hc.least.iff sadj_in (hF _ mi).1 (hF _ mj).1).2 hcn
      rw [(hF _ mi).2, (hF _ mj).2] at hl
      exact hne (by omega)
    · omega
  · unfold il
    rw [List.pairwise_map, List.pairwise_iff_getElem]
    intro i j hi hj hij
    simp
    omega
  · simp only [cutV, il, List.mem_map, List.mem_range]
    constructor
    · rintro ⟨c, hcF, rfl⟩
      rw [hv c hcF]
      have := hs.vin.vt (c := (c : Int)) (by omega) (by have := (hF c hcF).1; omega)
      exact ⟨(vt T (c : Nat)).toNat, by omega, by omega⟩
    · rintro ⟨v, hvn, rfl⟩
      obtain ⟨i, hi, hb⟩ := hs.used v (by omega) (by omega)
      obtain ⟨j, hj, e⟩ := hasB_iff.1 hb
      have hcl : 3 * i + j < 3 * T.length := by omega
      have e1 : vt T ((3 * i + j : Nat) : Int) = v := by rw [vt3 T i hj, e]
      obtain ⟨h2, h3⟩ := hc.rep hcl (h _ (by omega))
      refine ⟨_, h3, ?_⟩
      rw [hv _ h3, ← e1]
      have h4 := hs.side_vt (hc.least.con _ hcl)
      exact h4.symm
theorem one_len {n : Nat} {T : List Tr} {bays : List Int} {x : Int} {L : Nat → Int} {F : List Nat} (hc : CutIs T bays x L F) (hs : Surf n T) (h : ∀ t, t < T.length → I! bays t = x) : F.length = n := by
  have := congrArg List.length (one_cutV hc hs h)
  simpa [cutV, il] using this
theorem one_cutT {n : Nat} {T : List Tr} {bays : List Int} {x : Int} {L : Nat → Int} {F : List Nat} (hc : CutIs T bays x L F) (hs : Surf n T) (h : ∀ t, t < T.length → I! bays t = x) : cutT bays x L F T.length = T := by
  have hnum : ∀ c, c < 3 * T.length → ixF F (L c) = vt T (c : Nat) := fun c hcl => by
    obtain ⟨k, e, hk, hkv⟩ := hc.old hs hcl (h _ (by omega))
    rw [one_cutV hc hs h, il_get _ (by rw [← one_len hc hs h]; exact hk)] at hkv
    rw [e, hkv]
  unfold cutT
  rw [sel_all h]
  apply List.ext_getElem
  · simp
  · intro t h1 h2
    have ht : t < T.length := h2
    have hT : T! T t = T[t] := by simp [T!, ht]
    simp only [List.getElem_map, List.getElem_range, cutTri]
    rw [hnum _ (by omega), hnum _ (by omega), hnum _ (by omega)]
    have e0 := vt3 T t (j := 0) (by omega)
    have e1 := vt3 T t (j := 1) (by omega)
    have e2 := vt3 T t (j := 2) (by omega)
    rw [Nat.add_zero] at e0
    rw [e0, e1, e2, hT]
    rfl
/-- How often a vertex stands at the first corners. -/
def degN (T : List Tr) (k : Nat) (v : Int) : Nat := (List.range k).countP fun (c : Nat) => decide (vt T (c : Int) = v)
theorem degN_succ (T : List Tr) (k : Nat) (v : Int) : degN T (k + 1) v = degN T k v + if vt T (k : Int) = v then 1 else 0 := by
  simp [degN, List.range_succ, List.countP_append, List.countP_cons]
theorem degN_le (T : List Tr) (k : Nat) (v : Int) : degN T k v ≤ k := by
  have := List.countP_le_length (p := fun c : Nat => decide (vt T (c : Int) = v)) (l := List.range k)
  simpa [degN] using this
theorem degN_step {T : List Tr} {k u : Nat} (h : vt T (k : Int) = u) : upd (fun v : Nat => (degN T k (v : Int) : Int)) u ((degN T k (u : Int) : Int) + 1) = fun v : Nat => (degN T (k + 1) (v : Int) : Int) := by
  funext v
  unfold upd
  rw [degN_succ, h]
  by_cases e : v = u
  · subst e; simp
  · have : ¬ (u : Int) = (v : Int) := by omega
    simp [e, this]
/-- Each triangle a bay of its own: rim vertices are those of more than one triangle. -/
theorem many_each {n : Nat} {T : List Tr} {bays : List Int} (hs : Surf n T) (h : ∀ t, t < T.length → I! bays t = (t : Int)) (v : Int) : manyB T bays v = decide (1 < degN T (3 * T.length) v) := by
  rw [Bool.eq_iff_iff, manyB_iff, decide_eq_true_iff]
  constructor
  · rintro ⟨c, d, hc, hd, h1, h2, hne⟩
    have := countP_two (fun c : Nat => decide (vt T (c : Int) = v)) (List.range (3 * T.length)) (a := c) (b := d) (List.mem_range.2 hc) (List.mem_range.2 hd) (fun e => hne (by rw [e])) (by simpa using h1) (by simpa using h2)
    exact this
  · intro h2
    unfold degN at h2
    rw [List.countP_eq_length_filter] at h2
    have g0 := List.getElem_mem (l := (List.range (3 * T.length)).filter fun c : Nat => decide (vt T (c : Int) = v)) (n := 0) (by omega)
    have g1 := List.getElem_mem (l := (List.range (3 * T.length)).filter fun c : Nat => decide (vt T (c : Int) = v)) (n := 1) (by omega)
    have nd : ((List.range (3 * T.length)).filter fun c : Nat => decide (vt T (c : Int) = v)).Nodup := List.Pairwise.filter _ List.nodup_range
    have hne : ((List.range (3 * T.length)).filter fun c : Nat => decide (vt T (c : Int) = v))[0] ≠ ((List.range (3 * T.length)).filter fun c : Nat => decide (vt T (c : Int) = v))[1] := fun e => by
      have := (List.getElem_inj nd).1 e
      omega
    obtain ⟨c, hce⟩ : ∃ c, c = ((List.range (3 * T.length)).filter fun c : Nat => decide (vt T (c : Int) = v))[0] := ⟨_, rfl⟩
    obtain ⟨d, hde⟩ : ∃ d, d = ((List.range (3 * T.length)).filter fun c : Nat => decide (vt T (c : Int) = v))[1] := ⟨_, rfl⟩
    rw [← hce] at g0 hne
    rw [← hde] at g1 hne
    simp only [List.mem_filter, List.mem_range, decide_eq_true_eq] at g0 g1
    refine ⟨c, d, g0.1, g1.1, g0.2, g1.2, fun e => hne ?_⟩
    have e3 : c / 3 = d / 3 := by
      have := h (c / 3) (by omega)
      have := h (d / 3) (by omega)
      unfold cbay at e
      omega
    have hnl := hs.noloop (c / 3) (by omega)
    have q1 := vt_nat T c
    have q2 := vt_nat T d
    rw [← e3] at q2
    have := tg_ne hnl (l := c % 3) (j := d % 3) (by omega) (by omega) (by rw [← q1, ← q2, g0.2, g1.2])
    omega
/-- Who touches is touched. -/
theorem touch_symm {n : Nat} {T : List Tr} {bays : List Int} (hs : Surf n T) {a b : Int} (h : touchB T bays a b = true) : touchB T bays b a = true := by
  obtain ⟨hne, c, hc, h0, ha, hb⟩ := touchB_iff.1 h
  obtain ⟨o, ho, hol, hback, -, -⟩ := hs.opp_opp hc h0
  refine touchB_iff.2 ⟨fun e => hne e.symm, o, hol, by rw [hback]; omega, ?_, ?_⟩
  · unfold obay at hb
    rw [ho] at hb
    exact hb
  · unfold obay
    rw [hback]
    exact ha
end Go.Proofs.YtknioobpoieohaaGreat

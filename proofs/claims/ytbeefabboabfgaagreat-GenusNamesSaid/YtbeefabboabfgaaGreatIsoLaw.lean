/- Shells alike have the same numbers: names, order and sides don't matter. gypsumlaw14.GenusJoins, plain: the shells of two surfaces side by side; of a part. -/
import Derived.Test.YtbeefabboabfgaaGreatCycLaw
import Derived.Test.YtbeefabboabfgaaGreatHoleLaw
import Derived.Test.YtbeefabboabfgaaGreatOwnSort
namespace Go.Proofs.YtbeefabboabfgaaGreat
set_option linter.unusedVariables false
set_option linter.unusedSimpArgs false
open Go.RowKit
/-- A corner of a shell. -/
def InSh (T : List Tr) (L : Nat → Int) (k : Nat) (c : Nat) : Prop := c < 3 * T.length ∧ L (c / 3) = (k : Int)
theorem InSh.nxn {T : List Tr} {L : Nat → Int} {k c : Nat} (h : InSh T L k c) : InSh T L k (nxn c) := ⟨nxn_lt h.1, by rw [nxn_div]; exact h.2⟩
theorem InSh.pvn {T : List Tr} {L : Nat → Int} {k c : Nat} (h : InSh T L k c) : InSh T L k (pvn c) := ⟨pvn_lt h.1, by rw [pvn_div]; exact h.2⟩
/-- Two shells alike, corner by corner, this way round or the other (rev). -/
structure Iso (n : Nat) (T : List Tr) (L : Nat → Int) (k : Nat) (m : Nat) (U : List Tr) (M : Nat → Int) (j : Nat) (rev : Bool) (φ ψ : Nat → Nat) : Prop where
  s1 : Surf n T
  s2 : Surf m U
  l1 : IsShells (Adj T) T.length L
  l2 : IsShells (Adj U) U.length M
  fw : ∀ c, InSh T L k c → InSh U M j (φ c)
  bw : ∀ d, InSh U M j d → InSh T L k (ψ d)
  inv1 : ∀ c, InSh T L k c → ψ (φ c) = c
  inv2 : ∀ d, InSh U M j d → φ (ψ d) = d
  vti : ∀ c d, InSh T L k c → InSh T L k d → (vt T (c : Nat) = vt T (d : Nat) ↔ vt U (φ c : Nat) = vt U (φ d : Nat))
  nxi : ∀ c, InSh T L k c → φ (nxn c) = if rev then pvn (φ c) else nxn (φ c)
section
variable {n : Nat} {T : List Tr} {L : Nat → Int} {k : Nat} {m : Nat} {U : List Tr} {M : Nat → Int} {j : Nat} {rev : Bool} {φ ψ : Nat → Nat}
theorem Iso.pv (h : Iso n T L k m U M j rev φ ψ) {c : Nat} (hc : InSh T L k c) : φ (pvn c) = if rev then nxn (φ c) else pvn (φ c) := by
  have h1 := h.nxi (nxn c) hc.nxn
  rw [nxn_nxn, h.nxi c hc] at h1
  rw [h1]
  cases rev
  · simp [nxn_nxn]
  · simp [pvn_pvn]
theorem Iso.symm (h : Iso n T L k m U M j rev φ ψ) : Iso m U M j n T L k rev ψ φ where
  s1 := h.s2
  s2 := h.s1
  l1 := h.l2
  l2 := h.l1
  fw := h.bw
  bw := h.fw
  inv1 := h.inv2
  inv2 := h.inv1
  vti c d hc hd := by
    have := h.vti (ψ c) (ψ d) (h.bw c hc) (h.bw d hd)
    rw [h.inv2 c hc, h.inv2 d hd] at this
    exact this.symm
  nxi d hd := by
    have hp := h.bw d hd
    have h1 := h.nxi (ψ d) hp
    have h2 := h.pv hp
    rw [h.inv2 d hd] at h1 h2
    cases rev
    · simp only [Bool.false_eq_true, if_false] at h1 ⊢
      rw [← h1, h.inv1 _ hp.nxn]
    · simp only [if_true] at h2 ⊢
      rw [← h2, h.inv1 _ hp.pvn]
theorem Iso.inj (h : Iso n T L k m U M j rev φ ψ) {c d : Nat} (hc : InSh T L k c) (hd : InSh T L k d) (e : φ c = φ d) : c = d := by
  rw [← h.inv1 c hc, ← h.inv1 d hd, e]
theorem corners_in {c : Nat} : c ∈ cornersOf T L (k : Int) ↔ InSh T L k c := corners_mem
theorem corners_three (T : List Tr) (L : Nat → Int) (k : Nat) : (cornersOf T L (k : Int)).length = 3 * nF T L k := cntK_three L k T.length
theorem Iso.corners (h : Iso n T L k m U M j rev φ ψ) : (cornersOf T L (k : Int)).length ≤ (cornersOf U M (j : Int)).length := by
  have := sub_len ((cornersOf T L (k : Int)).map φ) (cornersOf U M (j : Int)) (nodup_on (fun a ha b hb e => h.inj (corners_in.1 ha) (corners_in.1 hb) e) (nodup_rf _ _)) (fun d hd => by
    obtain ⟨c, hc, rfl⟩ := List.mem_map.1 hd
    exact corners_in.2 (h.fw c (corners_in.1 hc)))
  rw [List.length_map] at this
  exact this
theorem Iso.eqF (h : Iso n T L k m U M j rev φ ψ) : nF T L k = nF U M j := by
  have h1 := h.corners
  have h2 := h.symm.corners
  rw [corners_three, corners_three] at h1 h2
  omega
theorem vert_corner (hs : Surf n T) (hL : IsShells (Adj T) T.length L) {v : Nat} : v ∈ vertsOf T L n k ↔ ∃ c, InSh T L k c ∧ vt T (c : Nat) = (v : Int) := by
  constructor
  · intro h
    obtain ⟨h1, h2⟩ := List.mem_filter.1 h
    obtain ⟨d, d1, d2, d3⟩ := shV_corner (L := L) hs (List.mem_range.1 h1)
    exact ⟨d, ⟨d1, by rw [← d3]; simpa using h2⟩, d2⟩
  · rintro ⟨c, hc, hv⟩
    have := shV_at hs hL hc.1 hv
    exact List.mem_filter.2 ⟨List.mem_range.2 this.1, by rw [this.2, hc.2]; simp⟩
theorem vt_nat_of (hs : Surf n T) {c : Nat} (hc : c < 3 * T.length) : ∃ v : Nat, vt T (c : Nat) = (v : Int) := by
  have := hs.vin.vt (c := ((c : Nat) : Int)) (by omega) (by omega)
  exact ⟨(vt T (c : Nat)).toNat, by omega⟩
theorem Iso.verts (h : Iso n T L k m U M j rev φ ψ) : nV T L n k ≤ nV U M m j := by
  obtain ⟨C, hC⟩ : ∃ C : Nat → Nat, ∀ v, v ∈ vertsOf T L n k → InSh T L k (C v) ∧ vt T (C v : Nat) = (v : Int) := by
    have : ∀ v : Nat, ∃ c : Nat, v ∈ vertsOf T L n k → InSh T L k c ∧ vt T (c : Nat) = (v : Int) := fun v => by
      by_cases hv : v ∈ vertsOf T L n k
      · obtain ⟨c, h1⟩ := (vert_corner h.s1 h.l1).1 hv
        exact ⟨c, fun _ => h1⟩
      · exact ⟨0, fun g => absurd g hv⟩
    exact Classical.skolem.1 this
  rw [← verts_length, ← verts_length]
  have := sub_len ((vertsOf T L n k).map fun v => (vt U (φ (C v) : Nat)).toNat) (vertsOf U M m j) (nodup_on (fun u hu v hv e => by
    obtain ⟨u1, u2⟩ := hC u hu
    obtain ⟨v1, v2⟩ := hC v hv
    obtain ⟨a, ha⟩ := vt_nat_of h.s2 (h.fw _ u1).1
    obtain ⟨b, hb⟩ := vt_nat_of h.s2 (h.fw _ v1).1
    try dsimp only at e
    rw [ha, hb] at e
    have e2 : vt U (φ (C u) : Nat) = vt U (φ (C v) : Nat) := by rw [ha, hb]; simp at e; rw [e]
    have := (h.vti _ _ u1 v1).2 e2
    rw [u2, v2] at this
    omega) (nodup_rf _ _)) (fun w hw => by
    obtain ⟨v, hv, rfl⟩ := List.mem_map.1 hw
    obtain ⟨v1, v2⟩ := hC v hv
    obtain ⟨b, hb⟩ := vt_nat_of h.s2 (h.fw _ v1).1
    refine (vert_corner h.s2 h.l2).2 ⟨φ (C v), h.fw _ v1, ?_⟩
    rw [hb]; simp)
  rw [List.length_map] at this
  exact this
theorem Iso.eqV (h : Iso n T L k m U M j rev φ ψ) : nV T L n k = nV U M m j := Nat.le_antisymm h.verts h.symm.verts
/-- A corner has one across. -/
theorem opp_iff (hs : Surf n T) (hL : IsShells (Adj T) T.length L) {c : Nat} (hc : InSh T L k c) : 0 ≤ opp T (c : Nat) ↔ ∃ d, InSh T L k d ∧ vt T (nxn d : Nat) = vt T (pvn c : Nat) ∧ vt T (pvn d : Nat) = vt T (nxn c : Nat) := by
  constructor
  · intro h
    obtain ⟨o, o1, o2, -, o4, o5⟩ := hs.opp_opp hc.1 h
    exact ⟨o, ⟨o2, by rw [shell_opp hs hL hc.1 o1, hc.2]⟩, o4, o5⟩
  · rintro ⟨d, hd, d1, d2⟩
    rw [opp_nat]
    exact facing_of hd.1 (by rw [edgeAt_nat, d1, d2])
theorem Iso.opp1 (h : Iso n T L k m U M j rev φ ψ) {c : Nat} (hc : InSh T L k c) (ho : 0 ≤ opp T (c : Nat)) : 0 ≤ opp U (φ c : Nat) := by
  obtain ⟨d, hd, d1, d2⟩ := (opp_iff h.s1 h.l1 hc).1 ho
  refine (opp_iff h.s2 h.l2 (h.fw c hc)).2 ⟨φ d, h.fw d hd, ?_⟩
  have e1 := (h.vti _ _ hd.nxn hc.pvn).1 d1
  have e2 := (h.vti _ _ hd.pvn hc.nxn).1 d2
  rw [h.nxi d hd, h.pv hc] at e1
  rw [h.pv hd, h.nxi c hc] at e2
  cases rev
  · exact ⟨e1, e2⟩
  · exact ⟨e2, e1⟩
theorem Iso.oppI (h : Iso n T L k m U M j rev φ ψ) {c : Nat} (hc : InSh T L k c) : opp T (c : Nat) < 0 ↔ opp U (φ c : Nat) < 0 := by
  have h1 := fun g => h.opp1 hc g
  have h2 := fun g => h.symm.opp1 (h.fw c hc) g
  rw [h.inv1 c hc] at h2
  constructor
  · intro g; apply Classical.byContradiction; intro e; have := h2 (by omega); omega
  · intro g; apply Classical.byContradiction; intro e; have := h1 (by omega); omega
theorem bord_in {c : Nat} : c ∈ bordOf T L (k : Int) ↔ InSh T L k c ∧ opp T (c : Nat) < 0 := by
  unfold bordOf InSh
  simp [and_assoc]
theorem Iso.bords (h : Iso n T L k m U M j rev φ ψ) : (bordOf T L (k : Int)).length ≤ (bordOf U M (j : Int)).length := by
  have := sub_len ((bordOf T L (k : Int)).map φ) (bordOf U M (j : Int)) (nodup_on (fun a ha b hb e => h.inj (bord_in.1 ha).1 (bord_in.1 hb).1 e) (nodup_rf _ _)) (fun d hd => by
    obtain ⟨c, hc, rfl⟩ := List.mem_map.1 hd
    have := bord_in.1 hc
    exact bord_in.2 ⟨h.fw c this.1, (h.oppI this.1).1 this.2⟩)
  rw [List.length_map] at this
  exact this
theorem Iso.eqT (h : Iso n T L k m U M j rev φ ψ) : nT T L k = nT U M j := by
  have h1 := h.bords
  have h2 := h.symm.bords
  rw [nT_bord, nT_bord, h.eqF]
  omega
/-- One border edge behind the other. -/
def Beh (T : List Tr) (L : Nat → Int) (k : Nat) (c d : Nat) : Prop := (InSh T L k c ∧ opp T (c : Nat) < 0) ∧ (InSh T L k d ∧ opp T (d : Nat) < 0) ∧ vt T (nxn d : Nat) = vt T (pvn c : Nat)
theorem bord_sg (hs : Surf n T) {c : Nat} (hc : c < 3 * T.length) (hb : opp T (c : Nat) < 0) : sg (bordE T (3 * T.length)) (vt T (pvn c : Nat)) = vt T (nxn c : Nat) := by
  have hp : (vt T (nxn c : Nat), vt T (pvn c : Nat)) ∈ bordE T (3 * T.length) := bord_mem_edges.2 ⟨c, hc, hb, rfl⟩
  unfold sg
  rw [nextB_of hs.oneIn.ends hp]; rfl
theorem bord_end (hs : Surf n T) {c : Nat} (hc : c < 3 * T.length) (hb : opp T (c : Nat) < 0) : vt T (pvn c : Nat) ∈ (bordE T (3 * T.length)).map Prod.snd := List.mem_map.2 ⟨_, bord_mem_edges.2 ⟨c, hc, hb, rfl⟩, rfl⟩
theorem beh_orb (hs : Surf n T) {c d : Nat} (h : Conn (Beh T L k) c d) (hc : InSh T L k c ∧ opp T (c : Nat) < 0) : vt T (pvn d : Nat) ∈ orb (bordE T (3 * T.length)) (vt T (pvn c : Nat)) := by
  have hO := hs.oneIn
  have one : ∀ a b, Beh T L k a b → vt T (pvn a : Nat) ∈ orb (bordE T (3 * T.length)) (vt T (pvn b : Nat)) := fun a b hab => by
    refine (hO.orb_mem (bord_end hs hab.2.1.1.1 hab.2.1.2)).2 ⟨1, ?_⟩
    change _ = sg _ (vt T (pvn b : Nat))
    rw [bord_sg hs hab.2.1.1.1 hab.2.1.2, hab.2.2]
  induction h with
  | refl => exact hO.orb_self (bord_end hs hc.1.1 hc.2)
  | step _ ha ih => exact hO.orb_trans ih (hO.orb_symm (one _ _ ha))
  | back _ ha ih => exact hO.orb_trans ih (one _ _ ha)
theorem orb_beh (hs : Surf n T) (hL : IsShells (Adj T) T.length L) {c : Nat} (hc : InSh T L k c ∧ opp T (c : Nat) < 0) : ∀ q, ∃ d, (InSh T L k d ∧ opp T (d : Nat) < 0) ∧ Conn (Beh T L k) c d ∧ vt T (pvn d : Nat) = it (bordE T (3 * T.length)) q (vt T (pvn c : Nat))
  | 0 => ⟨c, hc, .refl _, rfl⟩
  | q + 1 => by
    obtain ⟨d, hd, hcn, hv⟩ := orb_beh hs hL hc q
    obtain ⟨e, e1, e2, e3⟩ := hs.out_in hd.1.1 hd.2
    have hsh : L (e / 3) = (k : Int) := by
      obtain ⟨v, hv2⟩ := vt_nat_of hs (pvn_lt e1)
      have a := (shV_at hs hL (pvn_lt e1) hv2).2
      have b := (shV_at hs hL (nxn_lt hd.1.1) (v := v) (by rw [← e3, hv2])).2
      rw [pvn_div] at a
      rw [nxn_div] at b
      rw [← a, b, hd.1.2]
    refine ⟨e, ⟨⟨e1, hsh⟩, e2⟩, .back hcn ⟨⟨⟨e1, hsh⟩, e2⟩, hd, e3.symm⟩, ?_⟩
    change _ = sg _ (it _ q _)
    rw [← hv, bord_sg hs hd.1.1 hd.2, e3]
theorem beh_iff (hs : Surf n T) (hL : IsShells (Adj T) T.length L) {c d : Nat} (hc : InSh T L k c ∧ opp T (c : Nat) < 0) (hd : InSh T L k d ∧ opp T (d : Nat) < 0) : Conn (Beh T L k) c d ↔ vt T (pvn d : Nat) ∈ orb (bordE T (3 * T.length)) (vt T (pvn c : Nat)) := by
  constructor
  · exact fun h => beh_orb hs h hc
  · intro h
    obtain ⟨q, e⟩ := (hs.oneIn.orb_mem (bord_end hs hc.1.1 hc.2)).1 h
    obtain ⟨d', h1, h2, h3⟩ := orb_beh hs hL hc q
    rw [← e] at h3
    have := hs.in_one h1.1.1 hd.1.1 h1.2 hd.2 h3
    exact this ▸ h2
theorem Conn.symm' {A : Nat → Nat → Prop} {i j : Nat} (h : Conn A i j) : Conn A j i := by
  induction h with
  | refl => exact .refl _
  | step _ ha ih => exact (Conn.back (.refl _) ha).trans ih
  | back _ ha ih => exact (Conn.step (.refl _) ha).trans ih
theorem Iso.beh (h : Iso n T L k m U M j rev φ ψ) {c d : Nat} (hb : Beh T L k c d) : Conn (Beh U M j) (φ c) (φ d) := by
  have c2 : InSh U M j (φ c) ∧ opp U (φ c : Nat) < 0 := ⟨h.fw c hb.1.1, (h.oppI hb.1.1).1 hb.1.2⟩
  have d2 : InSh U M j (φ d) ∧ opp U (φ d : Nat) < 0 := ⟨h.fw d hb.2.1.1, (h.oppI hb.2.1.1).1 hb.2.1.2⟩
  have e := (h.vti _ _ hb.2.1.1.nxn hb.1.1.pvn).1 hb.2.2
  rw [h.nxi d hb.2.1.1, h.pv hb.1.1] at e
  cases rev
  · exact .step (.refl _) ⟨c2, d2, e⟩
  · exact .back (.refl _) ⟨d2, c2, e.symm⟩
theorem Iso.behs (h : Iso n T L k m U M j rev φ ψ) {c d : Nat} (hb : Conn (Beh T L k) c d) : Conn (Beh U M j) (φ c) (φ d) := by
  induction hb with
  | refl => exact .refl _
  | step _ ha ih => exact ih.trans (h.beh ha)
  | back _ ha ih => exact ih.trans (h.beh ha).symm'
theorem loop_corner (hs : Surf n T) (hL : IsShells (Adj T) T.length L) {w : Nat} (hw : w ∈ loopsOf T L n k) : ∃ c, (InSh T L k c ∧ opp T (c : Nat) < 0) ∧ vt T (pvn c : Nat) = (w : Int) := by
  obtain ⟨w1, w2, w3⟩ := loops_mem.1 hw
  obtain ⟨c, c1, c2, c3⟩ := bord_corner (minB_iff.1 w2).1
  have hsv := (shV_at hs hL (pvn_lt c1) c3).2
  rw [pvn_div] at hsv
  exact ⟨c, ⟨⟨c1, by rw [← hsv, w3]⟩, c2⟩, c3⟩
theorem corner_loop (hs : Surf n T) (hL : IsShells (Adj T) T.length L) {c : Nat} (hc : InSh T L k c ∧ opp T (c : Nat) < 0) : ∃ w, w ∈ loopsOf T L n k ∧ (w : Int) ∈ orb (bordE T (3 * T.length)) (vt T (pvn c : Nat)) := by
  obtain ⟨w, g1, g2, g3⟩ := head_of hs (bord_end hs hc.1.1 hc.2)
  refine ⟨w, loops_mem.2 ⟨g3, g2, ?_⟩, g1⟩
  have e1 := orb_shell hs hL g1
  obtain ⟨v, hv⟩ := vt_nat_of hs (pvn_lt hc.1.1)
  have e2 := (shV_at hs hL (pvn_lt hc.1.1) hv).2
  have e3 : shI T L (w : Int) = shV T L w := by unfold shI; rw [Int.toNat_natCast]
  rw [← e3, e1, hv]
  show shV T L ((v : Int)).toNat = _
  rw [Int.toNat_natCast, e2, pvn_div, hc.1.2]
theorem Iso.loops (h : Iso n T L k m U M j rev φ ψ) : nB T L n k ≤ nB U M m j := by
  have hO1 := h.s1.oneIn
  have hO2 := h.s2.oneIn
  obtain ⟨K, hK⟩ : ∃ K : Nat → Nat, ∀ w, w ∈ loopsOf T L n k → ∃ c, (InSh T L k c ∧ opp T (c : Nat) < 0) ∧ vt T (pvn c : Nat) = (w : Int) ∧ K w ∈ loopsOf U M m j ∧ (K w : Int) ∈ orb (bordE U (3 * U.length)) (vt U (pvn (φ c) : Nat)) := by
    have : ∀ w : Nat, ∃ x : Nat, w ∈ loopsOf T L n k → ∃ c, (InSh T L k c ∧ opp T (c : Nat) < 0) ∧ vt T (pvn c : Nat) = (w : Int) ∧ x ∈ loopsOf U M m j ∧ (x : Int) ∈ orb (bordE U (3 * U.length)) (vt U (pvn (φ c) : Nat)) := fun w => by
      by_cases hw : w ∈ loopsOf T L n k
      · obtain ⟨c, h1, h2⟩ := loop_corner h.s1 h.l1 hw
        obtain ⟨x, x1, x2⟩ := corner_loop h.s2 h.l2 (c := φ c) (k := j) ⟨h.fw c h1.1, (h.oppI h1.1).1 h1.2⟩
        exact ⟨x, fun _ => ⟨c, h1, h2, x1, x2⟩⟩
      · exact ⟨0, fun g => absurd g hw⟩
    exact Classical.skolem.1 this
  rw [← loops_length, ← loops_length]
  have := sub_len ((loopsOf T L n k).map K) (loopsOf U M m j) (nodup_on (fun u hu v hv e => by
    obtain ⟨c, c1, c2, c3, c4⟩ := hK u hu
    obtain ⟨d, d1, d2, d3, d4⟩ := hK v hv
    rw [← e] at d4
    have hcu : InSh U M j (φ c) ∧ opp U (φ c : Nat) < 0 := ⟨h.fw c c1.1, (h.oppI c1.1).1 c1.2⟩
    have hdu : InSh U M j (φ d) ∧ opp U (φ d : Nat) < 0 := ⟨h.fw d d1.1, (h.oppI d1.1).1 d1.2⟩
    have ho := hO2.orb_trans c4 (hO2.orb_symm d4)
    have hcn := h.symm.behs ((beh_iff h.s2 h.l2 hcu hdu).2 ho)
    rw [h.inv1 c c1.1, h.inv1 d d1.1] at hcn
    have hr := (beh_iff h.s1 h.l1 c1 d1).1 hcn
    rw [c2, d2] at hr
    have m1 := (minB_iff.1 (loops_mem.1 hu).2.1).2 _ hr
    have m2 := (minB_iff.1 (loops_mem.1 hv).2.1).2 _ (hO1.orb_symm hr)
    omega) (List.Pairwise.filter _ (nodup_rf _ _))) (fun x hx => by
    obtain ⟨w, hw, rfl⟩ := List.mem_map.1 hx
    obtain ⟨c, -, -, c3, -⟩ := hK w hw
    exact c3)
  rw [List.length_map] at this
  exact this
theorem Iso.eqB (h : Iso n T L k m U M j rev φ ψ) : nB T L n k = nB U M m j := Nat.le_antisymm h.loops h.symm.loops
/-- The six numbers. -/
theorem Iso.gen (h : Iso n T L k m U M j rev φ ψ) {i : Nat} (hi : i < 6) : genF T L n (k * 6 + i) = genF U M m (j * 6 + i) := by
  have e : euK T L n k = euK U M m j := by unfold euK; rw [h.eqV, h.eqT, h.eqF]
  have g : gnK T L n k = gnK U M m j := by unfold gnK; rw [h.eqB, e]
  match i, hi with
  | 0, _ => rw [Nat.add_zero, Nat.add_zero, gen0, gen0, h.eqV]
  | 1, _ => rw [gen1, gen1, h.eqT]
  | 2, _ => rw [gen2, gen2, h.eqF]
  | 3, _ => rw [gen3, gen3, h.eqB]
  | 4, _ => rw [gen4, gen4, e]
  | 5, _ => rw [gen5, gen5, g]
end
section
variable {n n' : Nat} {T U : List Tr} {L M : Nat → Int} {m m' : Nat}
theorem vt_left {c : Nat} (hc : c < 3 * T.length) : vt (side T U (n : Int)) (c : Nat) = vt T (c : Nat) := by
  rw [vt_nat3, vt_nat3, side_left U _ (by omega)]
theorem vt_right {c : Nat} (hc : c < 3 * U.length) : vt (side T U (n : Int)) ((3 * T.length + c : Nat) : Int) = vt U (c : Nat) + n := by
  rw [vt_nat3, vt_nat3, show (3 * T.length + c) / 3 = T.length + c / 3 by omega, show (3 * T.length + c) % 3 = c % 3 by omega, side_right T _ (by omega), tg_sh]
theorem side_lab (h1 : Surf n T) (h2 : Surf n' U) (hN : n + n' ≤ 4096) (hT : T.length + U.length ≤ 8192) (hL : IsShells (Adj T) T.length L) (hM : IsShells (Adj U) U.length M) :
    Surf ((n + n' : Nat) : Int) (side T U (n : Int)) ∧ IsShells (Adj (side T U (n : Int))) (side T U (n : Int)).length (sideL L M T.length (cnt L T.length)) := by
  have hs := side_surf h1 h2 (by omega) hT
  refine ⟨by rw [Int.natCast_add]; exact hs, ?_⟩
  exact side_shells h1 h2 (by omega) hT hL hM
theorem iso_left (h1 : Surf n T) (h2 : Surf n' U) (hN : n + n' ≤ 4096) (hT : T.length + U.length ≤ 8192) (hL : IsShells (Adj T) T.length L) (hM : IsShells (Adj U) U.length M) {k : Nat} (hk : (k : Int) < cnt L T.length) :
    Iso n T L k (n + n') (side T U (n : Int)) (sideL L M T.length (cnt L T.length)) k false (fun c => c) (fun c => c) where
  s1 := h1
  s2 := (side_lab h1 h2 hN hT hL hM).1
  l1 := hL
  l2 := (side_lab h1 h2 hN hT hL hM).2
  fw c hc := ⟨by rw [side_length]; have := hc.1; omega, by unfold sideL; rw [if_pos (by have := hc.1; omega)]; exact hc.2⟩
  bw d hd := by
    have h3 := hd.1
    have h4 := hd.2
    rw [side_length] at h3
    unfold sideL at h4
    by_cases e : d / 3 < T.length
    · rw [if_pos e] at h4
      exact ⟨by omega, h4⟩
    · rw [if_neg e] at h4
      have := hM.nonneg (d / 3 - T.length) (by omega)
      omega
  inv1 _ _ := rfl
  inv2 _ _ := rfl
  vti c d hc hd := by rw [vt_left hc.1, vt_left hd.1]
  nxi _ _ := rfl
theorem iso_right (h1 : Surf n T) (h2 : Surf n' U) (hN : n + n' ≤ 4096) (hT : T.length + U.length ≤ 8192) (hL : IsShells (Adj T) T.length L) (hM : IsShells (Adj U) U.length M) (hm : (m : Int) = cnt L T.length) (j : Nat) :
    Iso n' U M j (n + n') (side T U (n : Int)) (sideL L M T.length (cnt L T.length)) (m + j) false (fun c => 3 * T.length + c) (fun d => d - 3 * T.length) where
  s1 := h2
  s2 := (side_lab h1 h2 hN hT hL hM).1
  l1 := hM
  l2 := (side_lab h1 h2 hN hT hL hM).2
  fw c hc := ⟨by rw [side_length]; have := hc.1; omega, by
    unfold sideL
    rw [if_neg (by omega), show (3 * T.length + c) / 3 - T.length = c / 3 by omega, hc.2, ← hm]
    omega⟩
  bw d hd := by
    have h3 := hd.1
    have h4 := hd.2
    rw [side_length] at h3
    unfold sideL at h4
    by_cases e : d / 3 < T.length
    · rw [if_pos e] at h4
      have := cnt_lt L T.length (d / 3) e
      omega
    · rw [if_neg e] at h4
      refine ⟨by omega, ?_⟩
      rw [show (d - 3 * T.length) / 3 = d / 3 - T.length by omega]
      omega
  inv1 c _ := by omega
  inv2 d hd := by
    have h3 := hd.1
    have h4 := hd.2
    rw [side_length] at h3
    unfold sideL at h4
    by_cases e : d / 3 < T.length
    · rw [if_pos e] at h4
      have := cnt_lt L T.length (d / 3) e
      omega
    · omega
  vti c d hc hd := by
    rw [vt_right hc.1, vt_right hd.1]
    omega
  nxi c _ := by
    show 3 * T.length + nxn c = nxn (3 * T.length + c)
    unfold nxn
    omega
/-- The numbers of a join's shells. -/
theorem join_left (h1 : Surf n T) (h2 : Surf n' U) (hN : n + n' ≤ 4096) (hT : T.length + U.length ≤ 8192) (hL : IsShells (Adj T) T.length L) (hM : IsShells (Adj U) U.length M) (hm : (m : Int) = cnt L T.length) {k i : Nat} (hk : k < m) (hi : i < 6) :
    genF (side T U (n : Int)) (sideL L M T.length (cnt L T.length)) (n + n') (k * 6 + i) = genF T L n (k * 6 + i) := ((iso_left h1 h2 hN hT hL hM (k := k) (by omega)).gen hi).symm
theorem join_right (h1 : Surf n T) (h2 : Surf n' U) (hN : n + n' ≤ 4096) (hT : T.length + U.length ≤ 8192) (hL : IsShells (Adj T) T.length L) (hM : IsShells (Adj U) U.length M) (hm : (m : Int) = cnt L T.length) {j i : Nat} (hi : i < 6) :
    genF (side T U (n : Int)) (sideL L M T.length (cnt L T.length)) (n + n') ((m + j) * 6 + i) = genF U M n' (j * 6 + i) := ((iso_right h1 h2 hN hT hL hM hm j).gen hi).symm
theorem join_cnt (hm : (m : Int) = cnt L T.length) (hm' : (m' : Int) = cnt M U.length) : ((m + m' : Nat) : Int) = cnt (sideL L M T.length (cnt L T.length)) (side T U (n : Int)).length := by
  rw [side_length, side_cnt, ← hm, ← hm']
  omega
/-- A part is its shell. -/
theorem iso_part (hs : Surf n T) (hL : IsShells (Adj T) T.length L) (hm : (m : Int) = cnt L T.length) {k : Nat} (hk : k < m) (hM : IsShells (Adj (subS T (ofShell L T.length k))) (subS T (ofShell L T.length k)).length M) :
    Iso (vertsP T (ofShell L T.length k)).length (subS T (ofShell L T.length k)) M 0 n T L k false (up (ofShell L T.length k)) (fun d => 3 * (ofShell L T.length k).idxOf (d / 3) + d % 3) := by
  obtain ⟨E, hE⟩ : ∃ E, E = ofShell L T.length k := ⟨_, rfl⟩
  have hp := part_surf hs hL k
  have h1 := part_one hs hL hm hk hM
  rw [← hE] at hM hp h1 ⊢
  have hme : ∀ e, e ∈ E ↔ e < T.length ∧ L e = (k : Int) := fun e => by rw [hE]; exact mem_ofShell
  have hnd : E.Nodup := by rw [hE]; exact nodup_rf _ _
  have hz := zero_of_cnt hM h1
  rw [subS_length] at hz
  have hget : ∀ i, i < E.length → E[i]? = some (E.getD i 0) := fun i hi => by simp [hi]
  have hix : ∀ e, e ∈ E → E.idxOf e < E.length ∧ E.getD (E.idxOf e) 0 = e := fun e he => by
    have h := List.idxOf_lt_length_of_mem he
    refine ⟨h, ?_⟩
    have : E.getD (E.idxOf e) 0 = E[E.idxOf e] := by simp [h]
    rw [this]
    exact List.getElem_idxOf h
  refine ⟨hp, hs, hM, hL, fun c hc => ?_, fun d hd => ?_, fun c hc => ?_, fun d hd => ?_, fun c d hc hd => ?_, fun c hc => ?_⟩
  · have hl := hc.1
    rw [subS_length] at hl
    have := (hme _).1 (getD_mem (I := E) (i := c / 3) (by omega))
    exact ⟨by unfold up; omega, by rw [up_div]; exact this.2⟩
  · have := hix (d / 3) ((hme _).2 ⟨by have := hd.1; omega, hd.2⟩)
    refine ⟨by rw [subS_length]; omega, ?_⟩
    rw [show (3 * E.idxOf (d / 3) + d % 3) / 3 = E.idxOf (d / 3) by omega, hz _ this.1]
    rfl
  · have hl := hc.1
    rw [subS_length] at hl
    have hm1 := getD_mem (I := E) (i := c / 3) (by omega)
    have := hix _ hm1
    have e : E.idxOf (E.getD (c / 3) 0) = c / 3 := by
      refine (List.getElem?_inj this.1 hnd).1 ?_
      rw [hget _ this.1, hget _ (by omega), this.2]
    show 3 * E.idxOf (up E c / 3) + up E c % 3 = c
    rw [up_div, e]
    unfold up
    omega
  · have := hix (d / 3) ((hme _).2 ⟨by have := hd.1; omega, hd.2⟩)
    show up E (3 * E.idxOf (d / 3) + d % 3) = d
    unfold up
    rw [show (3 * E.idxOf (d / 3) + d % 3) / 3 = E.idxOf (d / 3) by omega, this.2]
    omega
  · have hl := hc.1
    have hl' := hd.1
    rw [subS_length] at hl hl'
    rw [vt_nat3, vt_nat3, vt_nat3 T, vt_nat3 T, up_div, up_div, show up E c % 3 = c % 3 by unfold up; omega, show up E d % 3 = d % 3 by unfold up; omega]
    exact sub_tg_iff (hget _ (by omega)) (hget _ (by omega)) _ _
  · exact up_nxn E c
theorem part_gen (hs : Surf n T) (hL : IsShells (Adj T) T.length L) (hm : (m : Int) = cnt L T.length) {k : Nat} (hk : k < m) (hM : IsShells (Adj (subS T (ofShell L T.length k))) (subS T (ofShell L T.length k)).length M) {i : Nat} (hi : i < 6) :
    genF (subS T (ofShell L T.length k)) M (vertsP T (ofShell L T.length k)).length (0 * 6 + i) = genF T L n (k * 6 + i) := (iso_part hs hL hm hk hM).gen hi
end
end Go.Proofs.YtbeefabboabfgaaGreat

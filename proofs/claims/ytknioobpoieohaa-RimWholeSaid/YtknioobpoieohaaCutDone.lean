/- rim.Cut: what lies at the end. -/
import Derived.Test.YtknioobpoieohaaCutSpec
import Derived.Test.YtknioobpoieohaaCutSt
namespace Go.Proofs.Ytknioobpoieohaa
set_option linter.unusedVariables false
set_option linter.unusedSimpArgs false
open Go.RowKit Go.Lib
/-- The five rows behind the loops, and behind the store of the answer. -/
def CutEnd (b : Nat) (w' : World) (T P : List Tr) (K bays : List Int) (bay : Int) (n : Nat) (L : Nat → Int) (F : List Nat) (vT vP vK vV vR : Value) : Prop :=
  ∃ (a1 a2 a3 a4 a5 : Option Addr) (c1 c2 c3 c4 c5 : Nat),
    (New b a1 ∧ New b a2 ∧ New b a3 ∧ New b a4 ∧ New b a5) ∧ vT = .slice a1 (cutT bays bay L F T.length).length c1 ∧ TrisAt w' a1 (cutT bays bay L F T.length) ∧ vP = .slice a2 (cutP P T F).length c2 ∧ TrisAt w' a2 (cutP P T F) ∧ vK = .slice a3 (cutK K bays bay T.length).length c3 ∧ IntsAt w' a3 (cutK K bays bay T.length) ∧
    vV = .slice a4 (cutV T F).length c4 ∧ IntsAt w' a4 (cutV T F) ∧ vR = .slice a5 (cutR T bays n F).length c5 ∧ IntsAt w' a5 (cutR T bays n F)
theorem cut_done {W8 W9 X Y : World} {ob m : Nat} {T P : List Tr} {K bays : List Int} {bay : Int} {n j bl nT nK b : Nat} {L : Nat → Int} {F : List Nat} {vT vP vK vV vR : Value} {cs cs' : List Value} {C C' : Int → Option Value} {n1 n2 : Nat}
    (hst : CSt W9 X ob m W9.heap.size 37 cs n1 C [⟨42, 3, vT, nT, tcells (cutT bays bay L F bl)⟩, ⟨3, 1, vK, nK, ic (cutK K bays bay bl)⟩])
    (hst9 : CSt W8 W9 ob m W8.heap.size 37 cs' n2 C' [⟨43, 3, vP, j, tcells (cutP P T F)⟩, ⟨3, 1, vV, j, ic (cutV T F)⟩, ⟨3, 1, vR, j, ic (cutR T bays n F)⟩])
    (hnT : nT = (sel bays bay bl).length) (hnK : nK = (cutK K bays bay bl).length) (hj : j = F.length) (hl : bl = T.length) (hg : X.grownBy Y (some b)) (hb : b < ob) : CutEnd b Y T P K bays bay n L F vT vP vK vV vR := by
  subst hl
  have hob := hst.obm
  have hm8 := hst9.mb
  have fresh : ∀ {e : TypeId} {size k : Nat} {v : Value} {xs : List Value}, W9.ownsRow W8.heap.size e size v k xs → Y.ownsRow W8.heap.size e size v k xs := fun {e size k v xs} ho =>
    (hst.old ho fun q hq => by have := ho.lt q hq; omega).kept hg (owns_off ho (by omega))
  have hT := (hst.rows.own ⟨42, 3, vT, nT, tcells (cutT bays bay L F T.length)⟩ (by simp)).kept hg (owns_off (hst.rows.own ⟨42, 3, vT, nT, tcells (cutT bays bay L F T.length)⟩ (by simp)) (by have := hst.mb; omega))
  have hK := (hst.rows.own ⟨3, 1, vK, nK, ic (cutK K bays bay T.length)⟩ (by simp)).kept hg (owns_off (hst.rows.own ⟨3, 1, vK, nK, ic (cutK K bays bay T.length)⟩ (by simp)) (by have := hst.mb; omega))
  have hP := fresh (hst9.rows.own ⟨43, 3, vP, j, tcells (cutP P T F)⟩ (by simp))
  have hV := fresh (hst9.rows.own ⟨3, 1, vV, j, ic (cutV T F)⟩ (by simp))
  have hR := fresh (hst9.rows.own ⟨3, 1, vR, j, ic (cutR T bays n F)⟩ (by simp))
  have eT : nT = (cutT bays bay L F T.length).length := by rw [hnT]; simp [cutT]
  have eP : j = (cutP P T F).length := by rw [hj]; simp [cutP]
  have eV : j = (cutV T F).length := by rw [hj]; simp [cutV]
  have eR : j = (cutR T bays n F).length := by rw [hj]; simp [cutR]
  simp only at hT hK hP hV hR
  rw [eT] at hT
  rw [eP] at hP
  obtain ⟨a1, c1, e1, h1⟩ := owns_tris hT
  obtain ⟨a2, c2, e2, h2⟩ := owns_tris hP
  obtain ⟨a3, c3, e3, h3⟩ := owns_ic hK hnK
  obtain ⟨a4, c4, e4, h4⟩ := owns_ic hV eV
  obtain ⟨a5, c5, e5, h5⟩ := owns_ic hR eR
  have new : ∀ {B : Nat} {e : TypeId} {size k : Nat} {v : Value} {xs : List Value} {a : Option Addr} {l c : Nat}, Y.ownsRow B e size v k xs → b ≤ B → v = .slice a l c → New b a := fun {B e size k v xs a l c} ho hB hv p hp => by
    subst hp
    have := (ho.lt p.block (by rw [hv]; rfl)).1
    omega
  have hmb := hst.mb
  exact ⟨a1, a2, a3, a4, a5, c1, c2, c3, c4, c5, ⟨new hT (by omega) e1, new hP (by omega) e2, new hK (by omega) e3, new hV (by omega) e4, new hR (by omega) e5⟩, e1, h1, e2, h2, by rw [e3, hnK], h3, by rw [e4, eV], h4, by rw [e5, eR], h5⟩
end Go.Proofs.Ytknioobpoieohaa

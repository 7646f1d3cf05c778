/- rim.Cut: what it tells. Plain; small contracts. rim.Cut: what lies at the end. -/
import Derived.Test.YtfbpjlfimmjieaaGreatCutCmp
import Derived.Test.YtfbpjlfimmjieaaGreatRims
import Derived.Test.YtfbpjlfimmjieaaGreatRimTab
import Derived.Test.YtfbpjlfimmjieaaGreatRowFam
namespace Go.Proofs.YtfbpjlfimmjieaaGreat
set_option linter.unusedVariables false
set_option linter.unusedSimpArgs false
open Go.RowKit Go.Lib
theorem I!_zs {bays : List Int} {b off : Nat} {w : World} (hc : ∀ i, i < bays.length → w.cell? ⟨b, off + i, none⟩ = some (.int .i64 (I! bays i))) : ∀ j, j < bays.length → w.cell? ⟨b, off + j, none⟩ = some (.int .i64 (bays.getD j 0)) := hc
theorem contains_any (bo : Option Addr) (cap : Nat) (bays : List Int) (x : Int) (w : World) (hB : IntsAt w bo bays) (hl : bays.length ≤ 100000) :
    Calls Tryz.prog 77 #[.slice bo bays.length cap, .int .i64 x] w fun e w' => e = .returned (.bool (bays.contains x)) ∧ w' = w := by
  by_cases h0 : bays = []
  · subst h0
    exact Tryz.slices_Contains_int_empty bo cap x w
  · obtain ⟨b, off, rfl, hlt, hc⟩ := hB h0
    have := Tryz.slices_Contains_int b off bays.length cap bays x w (Nat.le_refl _) (by omega) (I!_zs hc)
    rwa [List.take_length] at this
theorem index_any (bo : Option Addr) (cap : Nat) (bays : List Int) (x : Int) (w : World) (hB : IntsAt w bo bays) (hl : bays.length ≤ 100000) :
    Calls Tryz.prog 81 #[.slice bo bays.length cap, .int .i64 x] w fun e w' => e = .returned (.int .i64 (Lib.idxOf bays x)) ∧ w' = w := by
  by_cases h0 : bays = []
  · subst h0
    exact Tryz.slices_Index_int_empty bo cap x w
  · obtain ⟨b, off, rfl, hlt, hc⟩ := hB h0
    have := Tryz.slices_Index_int b off bays.length cap bays x w (Nat.le_refl _) (by omega) (I!_zs hc)
    rwa [List.take_length] at this
/-- What is told of a bay that there is. -/
structure CutIs (T : List Tr) (bays : List Int) (bay : Int) (L : Nat → Int) (F : List Nat) : Prop where
  least : IsLeast (SAdj T (I! bays)) (3 * T.length) L
  perm : F.Perm (reps bays bay L (3 * T.length))
  sorted : F.Pairwise (fun a b => ¬ ltC T b a)
def cutR (T : List Tr) (bays : List Int) (n : Nat) (F : List Nat) : List Int := F.map fun c => Lib.idxOf (nl (rimL T bays n)) (vtx T c)
def cutP (P : List Tr) (T : List Tr) (F : List Nat) : List Tr := F.map fun c => T! P (vtx T c).toNat
def cutK (K : List Int) (bays : List Int) (bay : Int) (k : Nat) : List Int := if K.length = 0 then [] else (sel bays bay k).flatMap fun i => [I! K (3 * i), I! K (3 * i + 1), I! K (3 * i + 2)]
def zeroLocal : Array Value := #[.int .i64 0, .slice none 0 0, .slice none 0 0, .slice none 0 0, .slice none 0 0, .slice none 0 0]
def CutPost (n : Nat) (T P : List Tr) (K bays : List Int) (bay : Int) (w : World) (e : Ending) (w' : World) : Prop :=
  ((bay ∉ bays ∧ e = .returned (.tuple #[.agg zeroLocal, .int .i64 8])) ∨
    (bay ∈ bays ∧ ∃ (L : Nat → Int) (F : List Nat) (a1 a2 a3 a4 a5 : Option Addr) (c1 c2 c3 c4 c5 l1 l2 l3 l4 l5 : Nat), CutIs T bays bay L F ∧
      e = .returned (.tuple #[.agg #[.int .i64 (F.length : Int), .slice a1 l1 c1, .slice a2 l2 c2, .slice a3 l3 c3, .slice a4 l4 c4, .slice a5 l5 c5], .int .i64 0]) ∧
      (New w.heap.size a1 ∧ New w.heap.size a2 ∧ New w.heap.size a3 ∧ New w.heap.size a4 ∧ New w.heap.size a5) ∧
      l1 = (cutT bays bay L F T.length).length ∧ TrisAt w' a1 (cutT bays bay L F T.length) ∧ l2 = (cutP P T F).length ∧ TrisAt w' a2 (cutP P T F) ∧ l3 = (cutK K bays bay T.length).length ∧ IntsAt w' a3 (cutK K bays bay T.length) ∧
      l4 = (cutV T F).length ∧ IntsAt w' a4 (cutV T F) ∧ l5 = (cutR T bays n F).length ∧ IntsAt w' a5 (cutR T bays n F))) ∧ Below w.heap.size w w'
/-- The five rows behind the loops, and behind the store of the answer. -/
def CutEnd (b : Nat) (w' : World) (T P : List Tr) (K bays : List Int) (bay : Int) (n : Nat) (L : Nat → Int) (F : List Nat) (vT vP vK vV vR : Value) : Prop :=
  ∃ (a1 a2 a3 a4 a5 : Option Addr) (c1 c2 c3 c4 c5 : Nat),
    (New b a1 ∧ New b a2 ∧ New b a3 ∧ New b a4 ∧ New b a5) ∧ vT = .slice a1 (cutT bays bay L F T.length).length c1 ∧ TrisAt w' a1 (cutT bays bay L F T.length) ∧ vP = .slice a2 (cutP P T F).length c2 ∧ TrisAt w' a2 (cutP P T F) ∧ vK = .slice a3 (cutK K bays bay T.length).length c3 ∧ IntsAt w' a3 (cutK K bays bay T.length) ∧
    vV = .slice a4 (cutV T F).length c4 ∧ IntsAt w' a4 (cutV T F) ∧ vR = .slice a5 (cutR T bays n F).length c5 ∧ IntsAt w' a5 (cutR T bays n F)
theorem cut_done {W8 W9 X Y : World} {ob m : Nat} {T P : List Tr} {K bays : List Int} {bay : Int} {n j bl nT nK b : Nat} {L : Nat → Int} {F : List Nat} {vT vP vK vV vR : Value} {cs cs' : List Value} {C C' : Int → Option Value} {n1 n2 : Nat}
    (hst : CSt W9 X ob m W9.heap.size 63 cs n1 C [⟨49, 3, vT, nT, tcells (cutT bays bay L F bl)⟩, ⟨3, 1, vK, nK, ic (cutK K bays bay bl)⟩])
    (hst9 : CSt W8 W9 ob m W8.heap.size 63 cs' n2 C' [⟨108, 3, vP, j, tcells (cutP P T F)⟩, ⟨3, 1, vV, j, ic (cutV T F)⟩, ⟨3, 1, vR, j, ic (cutR T bays n F)⟩])
    (hnT : nT = (sel bays bay bl).length) (hnK : nK = (cutK K bays bay bl).length) (hj : j = F.length) (hl : bl = T.length) (hg : X.grownBy Y (some b)) (hb : b < ob) : CutEnd b Y T P K bays bay n L F vT vP vK vV vR := by
  subst hl
  have hob := hst.obm
  have hm8 := hst9.mb
  have fresh : ∀ {e : TypeId} {size k : Nat} {v : Value} {xs : List Value}, W9.ownsRow W8.heap.size e size v k xs → Y.ownsRow W8.heap.size e size v k xs := fun {e size k v xs} ho =>
    (hst.old ho fun q hq => by have := ho.lt q hq; omega).kept hg (owns_off ho (by omega))
  have hT := (hst.rows.own ⟨49, 3, vT, nT, tcells (cutT bays bay L F T.length)⟩ (by simp)).kept hg (owns_off (hst.rows.own ⟨49, 3, vT, nT, tcells (cutT bays bay L F T.length)⟩ (by simp)) (by have := hst.mb; omega))
  have hK := (hst.rows.own ⟨3, 1, vK, nK, ic (cutK K bays bay T.length)⟩ (by simp)).kept hg (owns_off (hst.rows.own ⟨3, 1, vK, nK, ic (cutK K bays bay T.length)⟩ (by simp)) (by have := hst.mb; omega))
  have hP := fresh (hst9.rows.own ⟨108, 3, vP, j, tcells (cutP P T F)⟩ (by simp))
  have hV := fresh (hst9.rows.own ⟨3, 1, vV, j, ic (cutV T F)⟩ (by simp))
  have hR := fresh (hst9.rows.own ⟨3, 1, vR, j, ic (cutR T bays n F)⟩ (by simp))
  have eT : nT = (cutT bays bay L F T.length).length := by rw [hnT]; simp [cutT]
  have eP : j = (cutP P T F).length := by rw [hj]; simp [cutP]
  have eV : j = (cutV T F).length := by rw [hj]; simp [cutV]
  have eR : j = (cutR T bays n F).length := by rw [hj]; simp [cutR]
  simp only at hT hK hP hV hR
  rw [eT] at hT
  rw [eP] at hP
  obtain ⟨a1, c1, e1, h1⟩ := owns_tris hT
  obtain ⟨a2, c2, e2, h2⟩ := owns_tris hP
  obtain ⟨a3, c3, e3, h3⟩ := owns_ic hK hnK
  obtain ⟨a4, c4, e4, h4⟩ := owns_ic hV eV
  obtain ⟨a5, c5, e5, h5⟩ := owns_ic hR eR
  have new : ∀ {B : Nat} {e : TypeId} {size k : Nat} {v : Value} {xs : List Value} {a : Option Addr} {l c : Nat}, Y.ownsRow B e size v k xs → b ≤ B → v = .slice a l c → New b a := fun {B e size k v xs a l c} ho hB hv p hp => by
    subst hp
    have := (ho.lt p.block (by rw [hv]; rfl)).1
    omega
  have hmb := hst.mb
  exact ⟨a1, a2, a3, a4, a5, c1, c2, c3, c4, c5, ⟨new hT (by omega) e1, new hP (by omega) e2, new hK (by omega) e3, new hV (by omega) e4, new hR (by omega) e5⟩, e1, h1, e2, h2, by rw [e3, hnK], h3, by rw [e4, eV], h4, by rw [e5, eR], h5⟩
end Go.Proofs.YtfbpjlfimmjieaaGreat

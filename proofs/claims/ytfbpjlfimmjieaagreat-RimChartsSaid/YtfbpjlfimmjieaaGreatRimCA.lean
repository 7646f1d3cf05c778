/- rim.Cut of a bay that is there, chart.Surface's surface in a box: for gypsumlaw40.RimCharts. -/
import Derived.Test.YtfbpjlfimmjieaaGreatRimCLaw
import Derived.Test.YtfbpjlfimmjieaaGreatAwake40
import Derived.Deep.MidRow
namespace Go.Proofs.YtfbpjlfimmjieaaGreat
set_option linter.unusedVariables false
set_option linter.unusedSimpArgs false
open Go.RowKit
def CutSC (T : List Tr) (bays : List Int) (bay N' : Int) (T' : List Tr) (V' : List Int) : Prop := ∃ (L : Nat → Int) (F : List Nat), CutIs T bays bay L F ∧ N' = F.length ∧ T' = cutT bays bay L F T.length ∧ V' = cutV T F
def CutUC (T : List Tr) (bays : List Int) (bay : Int) (X : World) (e : Ending) (w' : World) : Prop :=
  ∃ (N' : Int) (T' P' : List Tr) (K' V' R' : List Int) (a1 a2 a3 a4 a5 : Option Addr) (c1 c2 c3 c4 c5 l1 l2 l3 l4 l5 : Nat),
    e = .returned (.tuple #[.agg #[.int .i64 N', .slice a1 l1 c1, .slice a2 l2 c2, .slice a3 l3 c3, .slice a4 l4 c4, .slice a5 l5 c5], .int .i64 0]) ∧
    Hid (K'.length ≠ 1 ∧ V'.length ≠ 1 ∧ R'.length ≠ 1 ∧ CutSC T bays bay N' T' V' ∧ l1 = T'.length ∧ TrisAt w' a1 T' ∧ l2 = P'.length ∧ TrisAt w' a2 P' ∧ l3 = K'.length ∧ IntsAt w' a3 K' ∧ l4 = V'.length ∧ IntsAt w' a4 V' ∧ l5 = R'.length ∧ IntsAt w' a5 R') ∧
    Below X.heap.size X w'
theorem cut_uc {n : Nat} {T P : List Tr} {K bays : List Int} {bay : Int} {X w' : World} {e : Ending} (hin : bay ∈ bays) (hne : ∀ L F, CutIs T bays bay L F → F.length ≠ 1) (h : CutPost n T P K bays bay X e w') : CutUC T bays bay X e w' := by
  obtain ⟨hc, hbel⟩ := h
  rcases hc with ⟨hno, he⟩ | ⟨-, L, F, a1, a2, a3, a4, a5, c1, c2, c3, c4, c5, l1, l2, l3, l4, l5, hcut, he, -, e1, h1, e2, h2, e3, h3, e4, h4, e5, h5⟩
  · exact absurd hin hno
  · have hF := hne L F hcut
    exact ⟨_, _, _, _, _, _, a1, a2, a3, a4, a5, c1, c2, c3, c4, c5, l1, l2, l3, l4, l5, he, Lib.hid ⟨cutK_not1 _ _ _ _, by simpa [cutV] using hF, by simpa [cutR] using hF, ⟨L, F, hcut, rfl, rfl, rfl⟩, e1, h1, e2, h2, e3, h3, e4, h4, e5, h5⟩, hbel⟩
/-- A soup's box, just made. -/
def zsoup : List Value := [.int .i64 0, .slice none 0 0]
theorem zsoup_off {Y : World} {lb b off : Nat} {e : TypeId} {x : Int} (hz : RowIs Y lb e zsoup) (h1 : Y.cell? ⟨b, off + 1, none⟩ = some (.int .i64 x)) : b ≠ lb := by
  rintro rfl
  unfold RowIs zsoup at hz
  simp only [World.cell?, hz] at h1
  rcases (show off = 0 ∨ 1 ≤ off by omega) with rfl | h
  · simp at h1
  · rw [show List.toArray [Value.int .i64 0, .slice none 0 0] = #[Value.int .i64 0, .slice none 0 0] from rfl, Array.getElem?_eq_none (by simp; omega)] at h1
    simp at h1
abbrev set2 (Y : World) (lb : Nat) (v0 v1 : Value) : World := (Y.setCell ⟨lb, 0, none⟩ v0).setCell ⟨lb, 1, none⟩ v1
theorem set2_row {Y : World} {lb : Nat} {e : TypeId} (hz : RowIs Y lb e zsoup) (v0 v1 : Value) : RowIs (set2 Y lb v0 v1) lb e [v0, v1] := (hz.set 0 v0).set 1 v1
theorem set2_below {B : Nat} {a Y : World} {lb : Nat} (h : Below B a Y) (hB : B ≤ lb) (v0 v1 : Value) : Below B a (set2 Y lb v0 v1) := (h.setCell (p := ⟨lb, 0, none⟩) hB v0).setCell (p := ⟨lb, 1, none⟩) hB v1
theorem set2_other {Y : World} {lb b i : Nat} (h : b ≠ lb) (v0 v1 : Value) : (set2 Y lb v0 v1).cell? ⟨b, i, none⟩ = Y.cell? ⟨b, i, none⟩ := by
  simp [set2, World.cell?, World.setCell, Array.getElem?_modify, Ne.symm h]
theorem set2_size (Y : World) (lb : Nat) (v0 v1 : Value) : (set2 Y lb v0 v1).heap.size = Y.heap.size := by simp [set2, World.setCell]
theorem set2_tris {Y : World} {lb : Nat} {e : TypeId} {a : Option Addr} {T : List Tr} (hz : RowIs Y lb e zsoup) (h : TrisAt Y a T) (v0 v1 : Value) : TrisAt (set2 Y lb v0 v1) a T := by
  intro hT
  obtain ⟨b, off, rfl, hlt, hc⟩ := h hT
  have hne : b ≠ lb := by
    have := (hc 0 (by cases T; exact absurd rfl hT; simp)).2.1
    exact zsoup_off hz this
  refine ⟨b, off, rfl, by rw [set2_size]; exact hlt, fun i hi => ?_⟩
  rw [set2_other hne, set2_other hne, set2_other hne]
  exact hc i hi
theorem set2_ints {Y : World} {lb : Nat} {e : TypeId} {a : Option Addr} {xs : List Int} (hz : RowIs Y lb e zsoup) (h : IntsAt Y a xs) (h1 : xs.length ≠ 1) (v0 v1 : Value) : IntsAt (set2 Y lb v0 v1) a xs := by
  intro hx
  obtain ⟨b, off, rfl, hlt, hc⟩ := h hx
  have hne : b ≠ lb := zsoup_off hz (hc 1 (by cases xs with | nil => exact absurd rfl hx | cons _ t => cases t <;> simp at h1 ⊢))
  refine ⟨b, off, rfl, by rw [set2_size]; exact hlt, fun i hi => ?_⟩
  rw [set2_other hne]
  exact hc i hi
/-- A soup in a block of its own, and a list of numbers. -/
def SoupAt (w : World) (lb : Nat) (N : Int) (T : List Tr) (a2 : Option Addr) (V : List Int) : Prop :=
  ∃ (a1 : Option Addr) (c1 l1 : Nat), RowIs w lb 24 [.int .i64 N, .slice a1 l1 c1] ∧ l1 = T.length ∧ TrisAt w a1 T ∧ IntsAt w a2 V
theorem soup_alloc {Y : World} {N : Int} {T : List Tr} {V : List Int} {a1 a2 : Option Addr} {c1 l1 : Nat} (e1 : l1 = T.length) (h1 : TrisAt Y a1 T) (h2 : IntsAt Y a2 V) : SoupAt (Y.alloc (.cells #[.int .i64 N, .slice a1 l1 c1] 24)) Y.heap.size N T a2 V :=
  ⟨a1, c1, l1, RowIs.made Y 24 [_, _], e1, tris_alloc h1 _, ints_alloc h2 _⟩
theorem soup_store {Y : World} {lb : Nat} {N : Int} {T : List Tr} {V : List Int} {a1 a2 : Option Addr} {c1 l1 : Nat} (hz : RowIs Y lb 24 zsoup) (e1 : l1 = T.length) (h1 : TrisAt Y a1 T) (h2 : IntsAt Y a2 V) (n2 : V.length ≠ 1) : SoupAt (set2 Y lb (.int .i64 N) (.slice a1 l1 c1)) lb N T a2 V :=
  ⟨a1, c1, l1, set2_row hz _ _, e1, set2_tris hz h1 _ _, set2_ints hz h2 n2 _ _⟩
theorem RowIs.there {w : World} {g : Nat} {e : TypeId} {xs : List Value} (h : RowIs w g e xs) : w.there g 0 xs.length := fun j hj => by
  rw [Nat.zero_add]
  exact ⟨by rw [h.cell (List.getElem?_eq_getElem hj)]; rfl, h.free j⟩
theorem wp_storeL {op : Oper} {a : Act} {w : World} {K : Act → World → Prop} {Q : Exit → Act → World → Prop} {e : TypeId} {zs : List Value} (ty : TypeId) (x y : Operand) (ho : op.op = .store ty x y) (b : Nat) (cs : List Value)
    (hx : a.eval x = .pointer (some ⟨b, 0, none⟩)) (hy : a.eval y = .agg cs.toArray) (hz : RowIs w b e zs) (hl : zs.length = cs.length) (hi : (Tryz.prog.info? ty).map (·.size) = some cs.length)
    (h1 : ∀ v ∈ cs, v.oneCell' = true) (h : K (a.put op.dst undef) (w.setCells b 0 cs)) : op.wp Tryz.prog a w K Q :=
  wp_store_mid ty x y ho b 0 cs.toArray hx hy (by have := hz.there; rw [hl] at this; simpa using this) (by simpa using hi) (all_oneCell_toArray h1) (by simpa using h)
theorem setL_below {B : Nat} {a Y : World} {lb : Nat} (h : Below B a Y) (hB : B ≤ lb) (v0 v1 v2 v3 v4 v5 : Value) : Below B a (Y.setCells lb 0 [v0, v1, v2, v3, v4, v5]) := set6_below h hB v0 v1 v2 v3 v4 v5
theorem setL2_below {B : Nat} {a Y : World} {lb : Nat} (h : Below B a Y) (hB : B ≤ lb) (v0 v1 : Value) : Below B a (Y.setCells lb 0 [v0, v1]) := set2_below h hB v0 v1
theorem loc_storeL {Y : World} {B lb : Nat} {N : Int} {T P : List Tr} {K V R : List Int} {a1 a2 a3 a4 a5 : Option Addr} {c1 c2 c3 c4 c5 l1 l2 l3 l4 l5 : Nat} (hz : RowIs Y lb 63 zrow) (hn : New B a1 ∧ New B a2 ∧ New B a3 ∧ New B a4 ∧ New B a5)
    (e1 : l1 = T.length) (h1 : TrisAt Y a1 T) (e2 : l2 = P.length) (h2 : TrisAt Y a2 P) (e3 : l3 = K.length) (h3 : IntsAt Y a3 K) (e4 : l4 = V.length) (h4 : IntsAt Y a4 V) (e5 : l5 = R.length) (h5 : IntsAt Y a5 R)
    (n3 : K.length ≠ 1) (n4 : V.length ≠ 1) (n5 : R.length ≠ 1) :
    LocAt (Y.setCells lb 0 [.int .i64 N, .slice a1 l1 c1, .slice a2 l2 c2, .slice a3 l3 c3, .slice a4 l4 c4, .slice a5 l5 c5]) B lb N T P K V R := loc_store hz hn e1 h1 e2 h2 e3 h3 e4 h4 e5 h5 n3 n4 n5
theorem soup_storeL {Y : World} {lb : Nat} {N : Int} {T : List Tr} {V : List Int} {a1 a2 : Option Addr} {c1 l1 : Nat} (hz : RowIs Y lb 24 zsoup) (e1 : l1 = T.length) (h1 : TrisAt Y a1 T) (h2 : IntsAt Y a2 V) (n2 : V.length ≠ 1) :
    SoupAt (Y.setCells lb 0 [.int .i64 N, .slice a1 l1 c1]) lb N T a2 V := soup_store hz e1 h1 h2 n2
end Go.Proofs.YtfbpjlfimmjieaaGreat

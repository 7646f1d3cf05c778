/- A rim.Local in a block of its own: what rim.Cut handed back, stored. An api.Body in a block of its own, laid behind a call. -/
import Derived.Test.YtfbpjlfimmjieaaGreatRim40a
import Derived.Test.YtfbpjlfimmjieaaGreatCutW
namespace Go.Proofs.YtfbpjlfimmjieaaGreat
set_option linter.unusedVariables false
set_option linter.unusedSimpArgs false
open Go.RowKit
def zrow : List Value := [.int .i64 0, .slice none 0 0, .slice none 0 0, .slice none 0 0, .slice none 0 0, .slice none 0 0]
theorem zrow_off {Y : World} {lb b off : Nat} {e : TypeId} {x : Int} (hz : RowIs Y lb e zrow) (h1 : Y.cell? ⟨b, off + 1, none⟩ = some (.int .i64 x)) : b ≠ lb := by
  rintro rfl
  unfold RowIs zrow at hz
  simp only [World.cell?, hz] at h1
  rcases (show off = 0 ∨ off = 1 ∨ off = 2 ∨ off = 3 ∨ off = 4 ∨ 5 ≤ off by omega) with rfl | rfl | rfl | rfl | rfl | h
  · simp at h1
  · simp at h1
  · simp at h1
  · simp at h1
  · simp at h1
  · rw [show List.toArray [Value.int .i64 0, .slice none 0 0, .slice none 0 0, .slice none 0 0, .slice none 0 0, .slice none 0 0] = #[Value.int .i64 0, .slice none 0 0, .slice none 0 0, .slice none 0 0, .slice none 0 0, .slice none 0 0] from rfl, Array.getElem?_eq_none (by simp; omega)] at h1
    simp at h1
/-- Six cells of a block are set. -/
abbrev set6 (Y : World) (lb : Nat) (v0 v1 v2 v3 v4 v5 : Value) : World := ((((((Y.setCell ⟨lb, 0, none⟩ v0).setCell ⟨lb, 1, none⟩ v1).setCell ⟨lb, 2, none⟩ v2).setCell ⟨lb, 3, none⟩ v3).setCell ⟨lb, 4, none⟩ v4).setCell ⟨lb, 5, none⟩ v5)
theorem set6_row {Y : World} {lb : Nat} {e : TypeId} (hz : RowIs Y lb e zrow) (v0 v1 v2 v3 v4 v5 : Value) : RowIs (set6 Y lb v0 v1 v2 v3 v4 v5) lb e [v0, v1, v2, v3, v4, v5] := (((((hz.set 0 v0).set 1 v1).set 2 v2).set 3 v3).set 4 v4).set 5 v5
theorem set6_below {B : Nat} {a Y : World} {lb : Nat} (h : Below B a Y) (hB : B ≤ lb) (v0 v1 v2 v3 v4 v5 : Value) : Below B a (set6 Y lb v0 v1 v2 v3 v4 v5) :=
  (((((h.setCell (p := ⟨lb, 0, none⟩) hB v0).setCell (p := ⟨lb, 1, none⟩) hB v1).setCell (p := ⟨lb, 2, none⟩) hB v2).setCell (p := ⟨lb, 3, none⟩) hB v3).setCell (p := ⟨lb, 4, none⟩) hB v4).setCell (p := ⟨lb, 5, none⟩) hB v5
theorem set6_other {Y : World} {lb b i : Nat} (h : b ≠ lb) (v0 v1 v2 v3 v4 v5 : Value) : (set6 Y lb v0 v1 v2 v3 v4 v5).cell? ⟨b, i, none⟩ = Y.cell? ⟨b, i, none⟩ := by
  simp [set6, World.cell?, World.setCell, Array.getElem?_modify, Ne.symm h]
theorem set6_size (Y : World) (lb : Nat) (v0 v1 v2 v3 v4 v5 : Value) : (set6 Y lb v0 v1 v2 v3 v4 v5).heap.size = Y.heap.size := by simp [set6, World.setCell]
theorem set6_tris {Y : World} {lb : Nat} {e : TypeId} {a : Option Addr} {T : List Tr} (hz : RowIs Y lb e zrow) (h : TrisAt Y a T) (v0 v1 v2 v3 v4 v5 : Value) : TrisAt (set6 Y lb v0 v1 v2 v3 v4 v5) a T := by
  intro hT
  obtain ⟨b, off, rfl, hlt, hc⟩ := h hT
  have hne : b ≠ lb := by
    have := (hc 0 (by cases T; exact absurd rfl hT; simp)).2.1
    exact zrow_off hz this
  refine ⟨b, off, rfl, by rw [set6_size]; exact hlt, fun i hi => ?_⟩
  rw [set6_other hne, set6_other hne, set6_other hne]
  exact hc i hi
theorem set6_ints {Y : World} {lb : Nat} {e : TypeId} {a : Option Addr} {xs : List Int} (hz : RowIs Y lb e zrow) (h : IntsAt Y a xs) (h1 : xs.length ≠ 1) (v0 v1 v2 v3 v4 v5 : Value) : IntsAt (set6 Y lb v0 v1 v2 v3 v4 v5) a xs := by
  intro hx
  obtain ⟨b, off, rfl, hlt, hc⟩ := h hx
  have hne : b ≠ lb := zrow_off hz (hc 1 (by cases xs with | nil => exact absurd rfl hx | cons _ t => cases t <;> simp at h1 ⊢))
  refine ⟨b, off, rfl, by rw [set6_size]; exact hlt, fun i hi => ?_⟩
  rw [set6_other hne]
  exact hc i hi
theorem new5 {a1 a2 a3 a4 a5 : Option Addr} : New 0 a1 ∧ New 0 a2 ∧ New 0 a3 ∧ New 0 a4 ∧ New 0 a5 := ⟨fun _ _ => Nat.zero_le _, fun _ _ => Nat.zero_le _, fun _ _ => Nat.zero_le _, fun _ _ => Nat.zero_le _, fun _ _ => Nat.zero_le _⟩
/-- A bay in a block of its own, its rows in blocks from B on. -/
def LocAt (w : World) (B lb : Nat) (N : Int) (T P : List Tr) (K V R : List Int) : Prop :=
  ∃ (a1 a2 a3 a4 a5 : Option Addr) (c1 c2 c3 c4 c5 l1 l2 l3 l4 l5 : Nat), RowIs w lb 63 [.int .i64 N, .slice a1 l1 c1, .slice a2 l2 c2, .slice a3 l3 c3, .slice a4 l4 c4, .slice a5 l5 c5] ∧
    (New B a1 ∧ New B a2 ∧ New B a3 ∧ New B a4 ∧ New B a5) ∧ l1 = T.length ∧ TrisAt w a1 T ∧ l2 = P.length ∧ TrisAt w a2 P ∧ l3 = K.length ∧ IntsAt w a3 K ∧ l4 = V.length ∧ IntsAt w a4 V ∧ l5 = R.length ∧ IntsAt w a5 R
theorem ints_alloc {X : World} {a : Option Addr} {T : List Int} (h : IntsAt X a T) (o : Obj) : IntsAt (X.alloc o) a T := h.mono (Nat.le_refl _) ((Below.refl _ _).alloc (Nat.le_refl _) o)
theorem tris_alloc {X : World} {a : Option Addr} {T : List Tr} (h : TrisAt X a T) (o : Obj) : TrisAt (X.alloc o) a T := h.mono (Nat.le_refl _) ((Below.refl _ _).alloc (Nat.le_refl _) o)
theorem tris_drew {X : World} {a : Option Addr} {T : List Tr} (h : TrisAt X a T) : TrisAt X.drew a T := h
theorem ints_drew {X : World} {a : Option Addr} {T : List Int} (h : IntsAt X a T) : IntsAt X.drew a T := h
theorem loc_alloc {Y : World} {B : Nat} {N : Int} {T P : List Tr} {K V R : List Int} {a1 a2 a3 a4 a5 : Option Addr} {c1 c2 c3 c4 c5 l1 l2 l3 l4 l5 : Nat} (hn : New B a1 ∧ New B a2 ∧ New B a3 ∧ New B a4 ∧ New B a5)
    (e1 : l1 = T.length) (h1 : TrisAt Y a1 T) (e2 : l2 = P.length) (h2 : TrisAt Y a2 P) (e3 : l3 = K.length) (h3 : IntsAt Y a3 K) (e4 : l4 = V.length) (h4 : IntsAt Y a4 V) (e5 : l5 = R.length) (h5 : IntsAt Y a5 R) :
    LocAt (Y.alloc (.cells #[.int .i64 N, .slice a1 l1 c1, .slice a2 l2 c2, .slice a3 l3 c3, .slice a4 l4 c4, .slice a5 l5 c5] 63)) B Y.heap.size N T P K V R :=
  ⟨a1, a2, a3, a4, a5, c1, c2, c3, c4, c5, l1, l2, l3, l4, l5, RowIs.made Y 63 [_, _, _, _, _, _], hn, e1, tris_alloc h1 _, e2, tris_alloc h2 _, e3, ints_alloc h3 _, e4, ints_alloc h4 _, e5, ints_alloc h5 _⟩
theorem loc_store {Y : World} {B lb : Nat} {N : Int} {T P : List Tr} {K V R : List Int} {a1 a2 a3 a4 a5 : Option Addr} {c1 c2 c3 c4 c5 l1 l2 l3 l4 l5 : Nat} (hz : RowIs Y lb 63 zrow) (hn : New B a1 ∧ New B a2 ∧ New B a3 ∧ New B a4 ∧ New B a5)
    (e1 : l1 = T.length) (h1 : TrisAt Y a1 T) (e2 : l2 = P.length) (h2 : TrisAt Y a2 P) (e3 : l3 = K.length) (h3 : IntsAt Y a3 K) (e4 : l4 = V.length) (h4 : IntsAt Y a4 V) (e5 : l5 = R.length) (h5 : IntsAt Y a5 R)
    (n3 : K.length ≠ 1) (n4 : V.length ≠ 1) (n5 : R.length ≠ 1) :
    LocAt (set6 Y lb (.int .i64 N) (.slice a1 l1 c1) (.slice a2 l2 c2) (.slice a3 l3 c3) (.slice a4 l4 c4) (.slice a5 l5 c5)) B lb N T P K V R :=
  ⟨a1, a2, a3, a4, a5, c1, c2, c3, c4, c5, l1, l2, l3, l4, l5, set6_row hz _ _ _ _ _ _, hn, e1, set6_tris hz h1 _ _ _ _ _ _, e2, set6_tris hz h2 _ _ _ _ _ _, e3, set6_ints hz h3 n3 _ _ _ _ _ _, e4, set6_ints hz h4 n4 _ _ _ _ _ _, e5, set6_ints hz h5 n5 _ _ _ _ _ _⟩
theorem LocAt.more {w w' : World} {B lb : Nat} {N : Int} {T P : List Tr} {K V R : List Int} (h : LocAt w B lb N T P K V R) (hb : Below w.heap.size w w') : LocAt w' B lb N T P K V R := by
  obtain ⟨a1, a2, a3, a4, a5, c1, c2, c3, c4, c5, l1, l2, l3, l4, l5, h0, hn, e1, h1, e2, h2, e3, h3, e4, h4, e5, h5⟩ := h
  exact ⟨a1, a2, a3, a4, a5, c1, c2, c3, c4, c5, l1, l2, l3, l4, l5, h0.after hb, hn, e1, h1.mono (Nat.le_refl _) hb, e2, h2.mono (Nat.le_refl _) hb, e3, h3.mono (Nat.le_refl _) hb, e4, h4.mono (Nat.le_refl _) hb, e5, h5.mono (Nat.le_refl _) hb⟩
theorem flat3_len (l : List Nat) (f g h : Nat → Int) : (l.flatMap fun i => [f i, g i, h i]).length = 3 * l.length := by
  induction l with
  | nil => rfl
  | cons a t ih => simp only [List.flatMap_cons, List.length_append, List.length_cons, List.length_nil, ih]; omega
theorem cutK_len (K bays : List Int) (bay : Int) (n : Nat) (h : K.length ≠ 0) : (cutK K bays bay n).length = 3 * (sel bays bay n).length := by
  unfold cutK
  rw [if_neg h]
  exact flat3_len _ _ _ _
theorem cutK_not1 (K bays : List Int) (bay : Int) (n : Nat) : (cutK K bays bay n).length ≠ 1 := by
  by_cases h : K.length = 0
  · unfold cutK; rw [if_pos h]; simp
  · rw [cutK_len _ _ _ _ h]; omega
def brow : List Value := [.int .i64 0, .slice none 0 0, .slice none 0 0, .slice none 0 0]
theorem brow_off {Y : World} {lb b off : Nat} {e : TypeId} {x : Int} (hz : RowIs Y lb e brow) (h1 : Y.cell? ⟨b, off + 1, none⟩ = some (.int .i64 x)) : b ≠ lb := by
  rintro rfl
  unfold RowIs brow at hz
  simp only [World.cell?, hz] at h1
  rcases (show off = 0 ∨ off = 1 ∨ off = 2 ∨ 3 ≤ off by omega) with rfl | rfl | rfl | h
  · simp at h1
  · simp at h1
  · simp at h1
  · rw [show List.toArray [Value.int .i64 0, .slice none 0 0, .slice none 0 0, .slice none 0 0] = #[Value.int .i64 0, .slice none 0 0, .slice none 0 0, .slice none 0 0] from rfl, Array.getElem?_eq_none (by simp; omega)] at h1
    simp at h1
abbrev set4 (Y : World) (lb : Nat) (v0 v1 v2 v3 : Value) : World := ((((Y.setCell ⟨lb, 0, none⟩ v0).setCell ⟨lb, 1, none⟩ v1).setCell ⟨lb, 2, none⟩ v2).setCell ⟨lb, 3, none⟩ v3)
theorem set4_row {Y : World} {lb : Nat} {e : TypeId} (hz : RowIs Y lb e brow) (v0 v1 v2 v3 : Value) : RowIs (set4 Y lb v0 v1 v2 v3) lb e [v0, v1, v2, v3] := (((hz.set 0 v0).set 1 v1).set 2 v2).set 3 v3
theorem set4_below {B : Nat} {a Y : World} {lb : Nat} (h : Below B a Y) (hB : B ≤ lb) (v0 v1 v2 v3 : Value) : Below B a (set4 Y lb v0 v1 v2 v3) :=
  (((h.setCell (p := ⟨lb, 0, none⟩) hB v0).setCell (p := ⟨lb, 1, none⟩) hB v1).setCell (p := ⟨lb, 2, none⟩) hB v2).setCell (p := ⟨lb, 3, none⟩) hB v3
theorem set4_other {Y : World} {lb b i : Nat} (h : b ≠ lb) (v0 v1 v2 v3 : Value) : (set4 Y lb v0 v1 v2 v3).cell? ⟨b, i, none⟩ = Y.cell? ⟨b, i, none⟩ := by
  simp [set4, World.cell?, World.setCell, Array.getElem?_modify, Ne.symm h]
theorem set4_size (Y : World) (lb : Nat) (v0 v1 v2 v3 : Value) : (set4 Y lb v0 v1 v2 v3).heap.size = Y.heap.size := by simp [set4, World.setCell]
theorem set4_tris {Y : World} {lb : Nat} {e : TypeId} {a : Option Addr} {T : List Tr} (hz : RowIs Y lb e brow) (h : TrisAt Y a T) (v0 v1 v2 v3 : Value) : TrisAt (set4 Y lb v0 v1 v2 v3) a T := by
  intro hT
  obtain ⟨b, off, rfl, hlt, hc⟩ := h hT
  have hne : b ≠ lb := by
    have := (hc 0 (by cases T; exact absurd rfl hT; simp)).2.1
    exact brow_off hz this
  refine ⟨b, off, rfl, by rw [set4_size]; exact hlt, fun i hi => ?_⟩
  rw [set4_other hne, set4_other hne, set4_other hne]
  exact hc i hi
/-- A body of n points. -/
def BodyAt (w : World) (bb n : Nat) (ao : Option Addr) (len cap : Nat) (po : Option Addr) (pc : Nat) (ko : Option Addr) (kl kc : Nat) (P : List Tr) : Prop :=
  RowIs w bb 61 [.int .i64 (n : Int), .slice ao len cap, .slice po n pc, .slice ko kl kc] ∧ TrisAt w po P
section
variable {Y : World} {n : Nat} {ao : Option Addr} {len cap : Nat} {po : Option Addr} {pc : Nat} {ko : Option Addr} {kl kc : Nat} {P : List Tr}
theorem body_alloc (h : TrisAt Y po P) : BodyAt (Y.alloc (.cells #[.int .i64 (n : Int), .slice ao len cap, .slice po n pc, .slice ko kl kc] 61)) Y.heap.size n ao len cap po pc ko kl kc P :=
  ⟨RowIs.made Y 61 [_, _, _, _], tris_alloc h _⟩
theorem body_store {bb : Nat} (hz : RowIs Y bb 61 brow) (h : TrisAt Y po P) : BodyAt (set4 Y bb (.int .i64 (n : Int)) (.slice ao len cap) (.slice po n pc) (.slice ko kl kc)) bb n ao len cap po pc ko kl kc P :=
  ⟨set4_row hz _ _ _ _, set4_tris hz h _ _ _ _⟩
theorem BodyAt.more {w w' : World} {bb : Nat} (h : BodyAt w bb n ao len cap po pc ko kl kc P) (hb : Below w.heap.size w w') : BodyAt w' bb n ao len cap po pc ko kl kc P := ⟨h.1.after hb, h.2.mono (Nat.le_refl _) hb⟩
theorem BodyAt.drew {w : World} {bb : Nat} (h : BodyAt w bb n ao len cap po pc ko kl kc P) : BodyAt w.drew bb n ao len cap po pc ko kl kc P := h
end
end Go.Proofs.YtfbpjlfimmjieaaGreat

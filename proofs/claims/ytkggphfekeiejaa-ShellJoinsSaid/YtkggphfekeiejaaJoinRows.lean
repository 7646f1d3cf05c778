/- Parts by their cells; rows gathered out of parts. Two rows that grow side by side, beside two fixed blocks. -/
import Derived.Test.YtkggphfekeiejaaJoinSpec
import Derived.Test.YtkggphfekeiejaaShellC
import Derived.Deep.AppendLies
namespace Go.Proofs.Ytkggphfekeiejaa
set_option linter.unusedVariables false
set_option linter.unusedSimpArgs false
open Go.RowKit
/-- Four cells are a part. -/
def PartVal (w : World) (r : Nat → Value) (P : PartV) : Prop :=
  ∃ aoS cS aoV cV aoT cT, r 0 = .int .i64 P.N ∧ r 1 = .slice aoS P.S.length cS ∧ r 2 = .slice aoV P.V.length cV ∧ r 3 = .slice aoT P.T.length cT ∧ TrisAt w aoS P.S ∧ IntsAt w aoV P.V ∧ IntsAt w aoT P.T
theorem PartsAt.vals {w : World} {a : Option Addr} {P : Nat → PartV} {m : Nat} (h : PartsAt w a P m) : ∃ (b : Nat) (F : Nat → Nat → Value), (0 < m → a = some ⟨b, 0, none⟩ ∧ b < w.heap.size) ∧
    ∀ k, k < m → (w.cell? ⟨b, k * 4, none⟩ = some (F k 0) ∧ w.cell? ⟨b, k * 4 + 1, none⟩ = some (F k 1) ∧ w.cell? ⟨b, k * 4 + 2, none⟩ = some (F k 2) ∧ w.cell? ⟨b, k * 4 + 3, none⟩ = some (F k 3)) ∧ PartVal w (F k) (P k) := by
  by_cases h0 : 0 < m
  · obtain ⟨b, e, hb, hk⟩ := h h0
    refine ⟨b, fun k c => (w.cell? ⟨b, k * 4 + c, none⟩).getD (.int .i64 0), fun _ => ⟨e, hb⟩, fun k hk' => ?_⟩
    obtain ⟨aoS, cS, aoV, cV, aoT, cT, c0, c1, c2, c3, hS, hV, hT⟩ := hk k hk'
    refine ⟨⟨?_, ?_, ?_, ?_⟩, aoS, cS, aoV, cV, aoT, cT, ?_, ?_, ?_, ?_, hS, hV, hT⟩ <;> simp [c0, c1, c2, c3]
  · exact ⟨0, fun _ _ => .int .i64 0, fun h => absurd h h0, fun k hk => by omega⟩
theorem PartVal.mono {w w' : World} {r : Nat → Value} {P : PartV} (h : PartVal w r P) (hb : Below w.heap.size w w') : PartVal w' r P := by
  obtain ⟨aoS, cS, aoV, cV, aoT, cT, h0, h1, h2, h3, h4, h5, h6⟩ := h
  exact ⟨aoS, cS, aoV, cV, aoT, cT, h0, h1, h2, h3, h4.mono (Nat.le_refl _) hb, h5.mono (Nat.le_refl _) hb, h6.mono (Nat.le_refl _) hb⟩
theorem rows_own {w : World} {base m : Nat} {v : Value} {f : Nat → Value} {X : Nat → List Int} {t : TypeId} (h : w.ownsRow base t 1 v m (vv f m)) (hf : ∀ k, k < m → ∃ aoX cX, f k = .slice aoX (X k).length cX ∧ IntsAt w aoX (X k)) :
    ∃ ao cap, v = .slice ao m cap ∧ RowsAt w ao X m := by
  by_cases h0 : 0 < m
  · obtain ⟨g, cap, rfl, hb, hlt, hc, hm, hcell, hfr⟩ := owns_block h h0
    refine ⟨_, cap, rfl, fun _ => ⟨g, rfl, hlt, fun k hk => ?_⟩⟩
    obtain ⟨aoX, cX, e, hi⟩ := hf k hk
    exact ⟨aoX, cX, by rw [← e]; exact hcell k _ (vv_get f hk), hi⟩
  · obtain ⟨ao, cap, rfl⟩ := owns_slice h
    exact ⟨ao, cap, rfl, fun h => absurd h h0⟩
theorem vv_snoc (f : Nat → Value) (n : Nat) : vv f (n + 1) = vv f n ++ [f n] := by simp [vv, List.range_succ]
/-- The cells of n triangles by a function. -/
def jv (f : Nat → Tr) (n : Nat) : List Value := iv (fun c => tg (f (c / 3)) (c % 3)) (n * 3)
/-- In the middle of a triangle. -/
def jm (f : Nat → Tr) (x : Nat) (t : Tr) (j n : Nat) : List Value := iv (fun c => if c / 3 = x ∧ c % 3 < j then tg t (c % 3) else tg (f (c / 3)) (c % 3)) (n * 3)
theorem jm_zero (f : Nat → Tr) (x : Nat) (t : Tr) (n : Nat) : jm f x t 0 n = jv f n := iv_congr fun c _ => by simp
theorem jm_three (f : Nat → Tr) (x : Nat) (t : Tr) (n : Nat) : jm f x t 3 n = jv (updT f x t) n := iv_congr fun c _ => by
  have h : c % 3 < 3 := by omega
  unfold updT
  by_cases e : c / 3 = x <;> simp [e, h]
theorem jm_set (f : Nat → Tr) (x : Nat) (t : Tr) (j n : Nat) (hj : j < 3) : (jm f x t j n).set (x * 3 + j) (.int .i64 (tg t j)) = jm f x t (j + 1) n := by
  unfold jm
  rw [iv_set]
  refine iv_congr fun c _ => ?_
  unfold upd
  by_cases e : c = x * 3 + j
  · have h1 : c / 3 = x := by omega
    have h2 : c % 3 = j := by omega
    rw [if_pos e, h1, h2, if_pos ⟨rfl, by omega⟩]
  · rw [if_neg e]
    show (if c / 3 = x ∧ c % 3 < j then tg t (c % 3) else tg (f (c / 3)) (c % 3)) = _
    by_cases e1 : c / 3 = x ∧ c % 3 < j
    · rw [if_pos e1, if_pos ⟨e1.1, by omega⟩]
    · rw [if_neg e1, if_neg]
      rintro ⟨h1, h2⟩
      exact e1 ⟨h1, by omega⟩
theorem RowIs.jtris {w : World} {g n : Nat} {e : TypeId} {f : Nat → Tr} (h : RowIs w g e (jv f n)) : TrisAt w (some ⟨g, 0, none⟩) ((List.range n).map f) := fun _ =>
  ⟨g, 0, rfl, h.lt, fun i hi => by
    simp at hi
    have e : T! ((List.range n).map f) i = f i := by simp [T!, List.getD_eq_getElem?_getD, hi]
    rw [e, Nat.zero_add]
    have g0 := h.cell (iv_get (fun c => tg (f (c / 3)) (c % 3)) (show i * 3 < n * 3 by omega))
    have g1 := h.cell (iv_get (fun c => tg (f (c / 3)) (c % 3)) (show i * 3 + 1 < n * 3 by omega))
    have g2 := h.cell (iv_get (fun c => tg (f (c / 3)) (c % 3)) (show i * 3 + 2 < n * 3 by omega))
    simp only [show i * 3 / 3 = i by omega, show (i * 3 + 1) / 3 = i by omega, show (i * 3 + 2) / 3 = i by omega, show i * 3 % 3 = 0 by omega, show (i * 3 + 1) % 3 = 1 by omega, show (i * 3 + 2) % 3 = 2 by omega] at g0 g1 g2
    exact ⟨g0, g1, g2⟩⟩
theorem madeCells_jv (n : Nat) : (madeCells #[Value.int .i64 0, .int .i64 0, .int .i64 0] (n * 3)).toList = jv (fun _ => (0, 0, 0)) n := by
  apply List.ext_getElem
  · simp [madeCells, jv, iv]
  · intro i h1 h2
    have h3 : i % 3 < 3 := by omega
    match e : i % 3, h3 with
    | 0, _ => simp [madeCells, jv, iv, e, tg]
    | 1, _ => simp [madeCells, jv, iv, e, tg]
    | 2, _ => simp [madeCells, jv, iv, e, tg]
/-- What Join returns. -/
def JoinPost (P : Nat → PartV) (m : Nat) (w w' : World) (e : Ending) : Prop :=
  ∃ (N : Int) (ao : Option Addr) (cap : Nat) (T : List Tr) (c : Int), e = .returned (.tuple #[.agg #[.int .i64 N, .slice ao T.length cap], .int .i64 c]) ∧ c = jcode P m ∧ (c = 0 → JRes P m N T) ∧ (c ≠ 0 → N = 0 ∧ T = []) ∧ TrisAt w' ao T ∧ Below w.heap.size w w'
/-- Sizes that fit. -/
def Sized (P : Nat → PartV) (m : Nat) : Prop := ∀ k, k < m → (P k).S.length ≤ 100 ∧ (P k).V.length ≤ 100 ∧ (P k).T.length ≤ 100
theorem joinPost_fail {P : Nat → PartV} {m : Nat} {w w' : World} {c : Int} (hc : jcode P m = c) (h0 : c ≠ 0) (hb : Below w.heap.size w w') : JoinPost P m w w' (.returned (.tuple #[.agg #[.int .i64 0, .slice none 0 0], .int .i64 c])) :=
  ⟨0, none, 0, [], c, rfl, hc.symm, fun h => absurd h h0, fun _ => ⟨rfl, rfl⟩, fun h => absurd rfl h, hb⟩
theorem jcode_1 {P : Nat → PartV} {m : Nat} (h : ¬ RightAll P m) : jcode P m = 1 := by unfold jcode; rw [if_neg h]
theorem jcode_2 {P : Nat → PartV} {m : Nat} (h : RightAll P m) (h2 : ¬ InAll P m) : jcode P m = 2 := by unfold jcode; rw [if_pos h, if_neg h2]
theorem jcode_9 {P : Nat → PartV} {m : Nat} (h : RightAll P m) (h2 : InAll P m) (h3 : ¬ OnceAll P m) : jcode P m = 9 := by unfold jcode; rw [if_pos h, if_pos h2, if_neg h3]
theorem jcode_0 {P : Nat → PartV} {m : Nat} (h : RightAll P m) (h2 : InAll P m) (h3 : OnceAll P m) : jcode P m = 0 := by unfold jcode; rw [if_pos h, if_pos h2, if_pos h3]
theorem gather_len {X : Nat → List Int} {m : Nat} (h : ∀ k, k < m → (X k).length ≤ 100) : (gather X m).length ≤ m * 100 := by
  induction m with
  | zero => simp [gather]
  | succ m ih =>
    rw [gather_succ, List.length_append]
    have := h m (by omega)
    have := ih fun k hk => h k (by omega)
    omega
/-- The state of shell.Join's first loop. -/
structure JSt (w : World) (B : Nat) (r0 r1 : List Value) (X : World) (v5 v6 : Value) (n5 n6 : Nat) (xs5 xs6 : List Value) : Prop where
  own5 : X.ownsRow (B + 2) 34 1 v5 n5 xs5
  own6 : X.ownsRow (B + 2) 34 1 v6 n6 xs6
  apart : v5.ownBlock = none ∨ v5.ownBlock ≠ v6.ownBlock
  row0 : RowIs X B 24 r0
  row1 : RowIs X (B + 1) 24 r1
  below : Below B w X
section
variable {w X w1 : World} {B : Nat} {r0 r1 : List Value} {v5 v6 : Value} {n5 n6 : Nat} {xs5 xs6 : List Value}
theorem JSt.size (h : JSt w B r0 r1 X v5 v6 n5 n6 xs5 xs6) : B + 2 ≤ X.heap.size := h.row1.lt
theorem JSt.more (h : JSt w B r0 r1 X v5 v6 n5 n6 xs5 xs6) (hb : Below X.heap.size X w1) : JSt w B r0 r1 w1 v5 v6 n5 n6 xs5 xs6 :=
  ⟨owns_below h.own5 hb, owns_below h.own6 hb, h.apart, h.row0.below hb h.row0.lt, h.row1.below hb h.row1.lt, below_more h.below hb (by have := h.size; omega)⟩
theorem JSt.alloc (h : JSt w B r0 r1 X v5 v6 n5 n6 xs5 xs6) (o : Obj) : JSt w B r0 r1 (X.alloc o) v5 v6 n5 n6 xs5 xs6 := h.more ((Below.refl _ _).alloc (Nat.le_refl _) o)
theorem JSt.drew (h : JSt w B r0 r1 X v5 v6 n5 n6 xs5 xs6) : JSt w B r0 r1 X.drew v5 v6 n5 n6 xs5 xs6 := h.more (Below.refl _ _).drew
theorem JSt.store (h : JSt w B r0 r1 X v5 v6 n5 n6 xs5 xs6) (i : Nat) (v : Value) : JSt w B r0 (r1.set i v) (X.setCell ⟨B + 1, i, none⟩ v) v5 v6 n5 n6 xs5 xs6 := by
  have hg := grown_set X (B + 1) i v
  have ne : ∀ {u : Value} {n : Nat} {xs : List Value}, X.ownsRow (B + 2) 34 1 u n xs → u.ownBlock = none ∨ u.ownBlock ≠ some (B + 1) := fun {u n xs} hu => by
    cases e : u.ownBlock with
    | none => exact .inl rfl
    | some q => exact .inr fun e' => by cases e'; have := (hu.lt _ e).1; omega
  exact ⟨h.own5.kept hg (ne h.own5), h.own6.kept hg (ne h.own6), h.apart, h.row0.other (by simp) v, h.row1.set i v, h.below.setCell (Nat.le_succ _) v⟩
theorem own_at {u : Value} {g n c : Nat} (hat : u.ownBlock = some g ∨ g = X.heap.size) {y : Value} {base m : Nat} {ys : List Value} (hy : X.ownsRow base 34 1 y m ys) (ha : y.ownBlock = none ∨ y.ownBlock ≠ u.ownBlock) :
    y.ownBlock = none ∨ y.ownBlock ≠ (Value.slice (some ⟨g, 0, none⟩) n c).ownBlock := by
  cases e : y.ownBlock with
  | none => exact .inl rfl
  | some q =>
    refine .inr fun e' => ?_
    have e2 : q = g := by simpa [Value.ownBlock] using e'
    subst e2
    rcases hat with hat | hat
    · rcases ha with ha | ha
      · rw [e] at ha; cases ha
      · exact ha (e.trans hat.symm)
    · have := (hy.lt _ e).2; omega
theorem apart_symm {a b : Value} (h : a.ownBlock = none ∨ a.ownBlock ≠ b.ownBlock) : b.ownBlock = none ∨ b.ownBlock ≠ a.ownBlock := by
  rcases h with h | h
  · cases e : b.ownBlock with
    | none => exact .inl rfl
    | some q => exact .inr (by rw [h]; simp)
  · exact .inr fun e => h e.symm
theorem JSt.push5 (h : JSt w B r0 r1 X v5 v6 n5 n6 xs5 xs6) {g cap n : Nat} {xs : List Value} (hown : w1.ownsRow (B + 2) 34 1 (.slice (some ⟨g, 0, none⟩) n cap) n xs) (hgrow : X.grownBy w1 v5.ownBlock) (hat : v5.ownBlock = some g ∨ g = X.heap.size) :
    JSt w B r0 r1 w1 (.slice (some ⟨g, 0, none⟩) n cap) v6 n n6 xs xs6 := by
  have ne : ∀ b, b < B + 2 → some b ≠ v5.ownBlock := fun b hb e => by have := (h.own5.lt b e.symm).1; omega
  exact ⟨hown, h.own6.kept hgrow (apart_symm h.apart), apart_symm (own_at hat h.own6 (apart_symm h.apart)), h.row0.grown hgrow (ne _ (by omega)), h.row1.grown hgrow (ne _ (by omega)), h.below.grown hgrow (by have := h.size; omega) fun k hk => by have := (h.own5.lt k hk).1; omega⟩
theorem JSt.push6 (h : JSt w B r0 r1 X v5 v6 n5 n6 xs5 xs6) {g cap n : Nat} {xs : List Value} (hown : w1.ownsRow (B + 2) 34 1 (.slice (some ⟨g, 0, none⟩) n cap) n xs) (hgrow : X.grownBy w1 v6.ownBlock) (hat : v6.ownBlock = some g ∨ g = X.heap.size) :
    JSt w B r0 r1 w1 v5 (.slice (some ⟨g, 0, none⟩) n cap) n5 n xs5 xs := by
  have ne : ∀ b, b < B + 2 → some b ≠ v6.ownBlock := fun b hb e => by have := (h.own6.lt b e.symm).1; omega
  exact ⟨h.own5.kept hgrow h.apart, hown, own_at hat h.own5 h.apart, h.row0.grown hgrow (ne _ (by omega)), h.row1.grown hgrow (ne _ (by omega)), h.below.grown hgrow (by have := h.size; omega) fun k hk => by have := (h.own6.lt k hk).1; omega⟩
/-- Beside a third block, that of the part in hand. -/
structure JBox (w : World) (B : Nat) (r0 r1 : List Value) (pb : Nat) (rp : List Value) (X : World) (v5 v6 : Value) (n5 n6 : Nat) (xs5 xs6 : List Value) : Prop where
  st : JSt w B r0 r1 X v5 v6 n5 n6 xs5 xs6
  box : RowIs X pb 40 rp
  off5 : some pb ≠ v5.ownBlock
  off6 : some pb ≠ v6.ownBlock
  up : B + 2 ≤ pb
section
variable {w X w1 : World} {B pb : Nat} {r0 r1 rp : List Value} {v5 v6 : Value} {n5 n6 : Nat} {xs5 xs6 : List Value}
theorem JBox.alloc (h : JBox w B r0 r1 pb rp X v5 v6 n5 n6 xs5 xs6) (o : Obj) : JBox w B r0 r1 pb rp (X.alloc o) v5 v6 n5 n6 xs5 xs6 := ⟨h.st.alloc o, h.box.alloc o, h.off5, h.off6, h.up⟩
theorem JBox.drew (h : JBox w B r0 r1 pb rp X v5 v6 n5 n6 xs5 xs6) : JBox w B r0 r1 pb rp X.drew v5 v6 n5 n6 xs5 xs6 := ⟨h.st.drew, h.box.drew1, h.off5, h.off6, h.up⟩
theorem JBox.more (h : JBox w B r0 r1 pb rp X v5 v6 n5 n6 xs5 xs6) (hb : Below X.heap.size X w1) : JBox w B r0 r1 pb rp w1 v5 v6 n5 n6 xs5 xs6 := ⟨h.st.more hb, h.box.below hb h.box.lt, h.off5, h.off6, h.up⟩
theorem JBox.store (h : JBox w B r0 r1 pb rp X v5 v6 n5 n6 xs5 xs6) (i : Nat) (v : Value) : JBox w B r0 (r1.set i v) pb rp (X.setCell ⟨B + 1, i, none⟩ v) v5 v6 n5 n6 xs5 xs6 := ⟨h.st.store i v, h.box.other (by have := h.up; simp; omega) v, h.off5, h.off6, h.up⟩
theorem JBox.own5 (h : JBox w B r0 r1 pb rp X v5 v6 n5 n6 xs5 xs6) : X.ownsRow (B + 2) 34 1 v5 n5 xs5 := h.st.own5
theorem JBox.own6 (h : JBox w B r0 r1 pb rp X v5 v6 n5 n6 xs5 xs6) : X.ownsRow (B + 2) 34 1 v6 n6 xs6 := h.st.own6
theorem JBox.size (h : JBox w B r0 r1 pb rp X v5 v6 n5 n6 xs5 xs6) : B + 2 ≤ X.heap.size := h.st.size
theorem off_at {u : Value} {g n c : Nat} (hat : u.ownBlock = some g ∨ g = X.heap.size) (ho : some pb ≠ u.ownBlock) (hp : pb < X.heap.size) : some pb ≠ (Value.slice (some ⟨g, 0, none⟩) n c).ownBlock := by
  intro e
  have e2 : pb = g := by simpa [Value.ownBlock] using e
  subst e2
  rcases hat with hat | hat
  · exact ho hat.symm
  · omega
theorem JBox.push5 (h : JBox w B r0 r1 pb rp X v5 v6 n5 n6 xs5 xs6) {g cap n : Nat} {xs : List Value} (hown : w1.ownsRow (B + 2) 34 1 (.slice (some ⟨g, 0, none⟩) n cap) n xs) (hgrow : X.grownBy w1 v5.ownBlock) (hat : v5.ownBlock = some g ∨ g = X.heap.size) :
    JBox w B r0 r1 pb rp w1 (.slice (some ⟨g, 0, none⟩) n cap) v6 n n6 xs xs6 := ⟨h.st.push5 hown hgrow hat, h.box.grown hgrow h.off5, off_at hat h.off5 h.box.lt, h.off6, h.up⟩
theorem JBox.push6 (h : JBox w B r0 r1 pb rp X v5 v6 n5 n6 xs5 xs6) {g cap n : Nat} {xs : List Value} (hown : w1.ownsRow (B + 2) 34 1 (.slice (some ⟨g, 0, none⟩) n cap) n xs) (hgrow : X.grownBy w1 v6.ownBlock) (hat : v6.ownBlock = some g ∨ g = X.heap.size) :
    JBox w B r0 r1 pb rp w1 v5 (.slice (some ⟨g, 0, none⟩) n cap) n5 n xs5 xs := ⟨h.st.push6 hown hgrow hat, h.box.grown hgrow h.off6, h.off5, off_at hat h.off6 h.box.lt, h.up⟩
theorem But.mono {B B' g : Nat} {a b : World} (h : But B g a b) (hB : B' ≤ B) : But B' g a b := ⟨h.os, h.tape, h.output, h.size, fun k hk hg => h.block k (by omega) hg⟩
theorem row_made1 (w : World) (o : Obj) (e : TypeId) (xs : List Value) : RowIs ((w.alloc o).alloc (.cells xs.toArray e)) (w.heap.size + 1) e xs := by simpa using RowIs.made (w.alloc o) e xs
/-- 'append' to the first row, at a step of a region that draws. -/
theorem step_row5 {ops : Array Oper} {o : Oper} {a : Act} {K : Act → World → Prop} {Q : Exit → Act → World → Prop} {E : Prop} (hgd : o.guard = none) (s x : Operand)
    (ho : o.op = .call { callee := .builtin .append, args := #[s, x], argTypes := #[79, 79] }) (h : JBox w B r0 r1 pb rp X v5 v6 n5 n6 xs5 xs6) (hs : a.eval s = v5) (u : Value) (p : Nat) (hx : a.eval x = .slice (some ⟨p, 0, none⟩) 1 1)
    (hp : RowIs X p 34 [u]) (h1 : u.oneCell' = true) (hn : n5 ≤ 100) (S : Nat) (hS : ∀ q, S ≤ q → some q ≠ v5.ownBlock)
    (hk : ∀ g cap w1, JBox w B r0 r1 pb rp w1 (.slice (some ⟨g, 0, none⟩) (n5 + 1) cap) v6 (n5 + 1) n6 (xs5 ++ [u]) xs6 → (∀ q t zs, S ≤ q → RowIs X q t zs → RowIs w1 q t zs) → K (a.put o.dst (.slice (some ⟨g, 0, none⟩) (n5 + 1) cap)) w1) :
    if Region.wanted o (yielded ops a.tmps) = true then Oper.wp Try.prog o a X K Q else E := by
  obtain ⟨i0, hi, hz0, hz1, hz2⟩ := info_parts info34
  refine step_append_lies X hgd s x 79 ho (B + 2) 34 i0 (.slice none 0 0) 1 24 (by kernel_rfl) hi hz0 hz1 hz2 rfl (by decide) v5 n5 xs5 hs h.own5 ⟨p, 0, none⟩ 1 1 [u] hx rfl (World.news_of_block hp) (by intro z hz; simp at hz; subst hz; exact h1) (by omega) (by unfold maxLen; omega) (by omega) h.size _ rfl ?_
  intro g cap w1 hown hgrow hat _
  exact hk g cap w1 (h.push5 hown hgrow hat) fun q t zs hq hr => hr.grown hgrow (hS q hq)
theorem step_row6 {ops : Array Oper} {o : Oper} {a : Act} {K : Act → World → Prop} {Q : Exit → Act → World → Prop} {E : Prop} (hgd : o.guard = none) (s x : Operand)
    (ho : o.op = .call { callee := .builtin .append, args := #[s, x], argTypes := #[79, 79] }) (h : JBox w B r0 r1 pb rp X v5 v6 n5 n6 xs5 xs6) (hs : a.eval s = v6) (u : Value) (p : Nat) (hx : a.eval x = .slice (some ⟨p, 0, none⟩) 1 1)
    (hp : RowIs X p 34 [u]) (h1 : u.oneCell' = true) (hn : n6 ≤ 100) (S : Nat) (hS : ∀ q, S ≤ q → some q ≠ v6.ownBlock)
    (hk : ∀ g cap w1, JBox w B r0 r1 pb rp w1 v5 (.slice (some ⟨g, 0, none⟩) (n6 + 1) cap) n5 (n6 + 1) xs5 (xs6 ++ [u]) → (∀ q t zs, S ≤ q → RowIs X q t zs → RowIs w1 q t zs) → K (a.put o.dst (.slice (some ⟨g, 0, none⟩) (n6 + 1) cap)) w1) :
    if Region.wanted o (yielded ops a.tmps) = true then Oper.wp Try.prog o a X K Q else E := by
  obtain ⟨i0, hi, hz0, hz1, hz2⟩ := info_parts info34
  refine step_append_lies X hgd s x 79 ho (B + 2) 34 i0 (.slice none 0 0) 1 24 (by kernel_rfl) hi hz0 hz1 hz2 rfl (by decide) v6 n6 xs6 hs h.own6 ⟨p, 0, none⟩ 1 1 [u] hx rfl (World.news_of_block hp) (by intro z hz; simp at hz; subst hz; exact h1) (by omega) (by unfold maxLen; omega) (by omega) h.size _ rfl ?_
  intro g cap w1 hown hgrow hat _
  exact hk g cap w1 (h.push6 hown hgrow hat) fun q t zs hq hr => hr.grown hgrow (hS q hq)
theorem JBox.ks {k : Int} {vS vV vT : Value} (h : JBox w B r0 r1 pb [.int .i64 k, vS, vV, vT] X v5 v6 n5 n6 xs5 xs6) : X.cell? ⟨pb, 2, none⟩ = some vV ∧ X.cell? ⟨pb, 3, none⟩ = some vT := ⟨h.box.cell rfl, h.box.cell rfl⟩
end
end
end Go.Proofs.Ytkggphfekeiejaa

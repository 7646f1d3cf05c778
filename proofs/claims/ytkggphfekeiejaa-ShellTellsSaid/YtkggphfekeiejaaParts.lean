/- Rows of parts; worlds that change in one old block alone. shell.Split's closure: a triangle's number is put behind those of its part. -/
import Derived.Test.YtkggphfekeiejaaTabSoup
import Derived.Test.YtkggphfekeiejaaQueue
import Derived.Deep.AppendLies
import Derived.Deep.RegionHeldLaw
namespace Go.Proofs.Ytkggphfekeiejaa
set_option linter.unusedVariables false
set_option linter.unusedSimpArgs false
open Go.RowKit
/-- The cells of m parts: f k 0 .. f k 3. -/
def pc (f : Nat → Nat → Value) (m : Nat) : List Value := (List.range (m * 4)).map fun i => f (i / 4) (i % 4)
theorem pc_length (f : Nat → Nat → Value) (m : Nat) : (pc f m).length = m * 4 := by simp [pc]
theorem pc_get (f : Nat → Nat → Value) {m k c : Nat} (hk : k < m) (hc : c < 4) : (pc f m)[k * 4 + c]? = some (f k c) := by
  have h1 : k * 4 + c < m * 4 := by omega
  have h2 : (k * 4 + c) / 4 = k := by omega
  have h3 : (k * 4 + c) % 4 = c := by omega
  simp [pc, h1, h2, h3]
def up2 (f : Nat → Nat → Value) (k c : Nat) (v : Value) : Nat → Nat → Value := fun j d => if j = k ∧ d = c then v else f j d
theorem pc_set (f : Nat → Nat → Value) (m k c : Nat) (hc : c < 4) (v : Value) : (pc f m).set (k * 4 + c) v = pc (up2 f k c v) m := by
  refine set_map_range (m * 4) _ _ _ v fun i => ?_
  unfold up2
  by_cases h : i = k * 4 + c
  · have h2 : i / 4 = k := by omega
    have h3 : i % 4 = c := by omega
    rw [if_pos h, if_pos ⟨h2, h3⟩]
  · rw [if_neg h, if_neg (by omega)]
theorem up2_same (f : Nat → Nat → Value) (k c : Nat) (v : Value) : up2 f k c v k c = v := by simp [up2]
theorem up2_col (f : Nat → Nat → Value) (k c j : Nat) (v : Value) : up2 f k c v j c = if j = k then v else f j c := by simp [up2]
theorem up2_other (f : Nat → Nat → Value) (k c j d : Nat) (v : Value) (h : d ≠ c) : up2 f k c v j d = f j d := by simp [up2, h]
/-- Below block B, but block g, w' is as w was. -/
structure But (B g : Nat) (w w' : World) : Prop where
  os : w'.os = w.os
  tape : w'.tape = w.tape
  output : w'.output = w.output
  size : w.heap.size ≤ w'.heap.size
  block : ∀ k, k < B → k ≠ g → w'.heap[k]? = w.heap[k]?
theorem But.refl (B g : Nat) (w : World) : But B g w w := ⟨rfl, rfl, rfl, Nat.le_refl _, fun _ _ _ => rfl⟩
theorem But.trans {B g : Nat} {a b c : World} (h : But B g a b) (k : But B g b c) : But B g a c :=
  ⟨k.os.trans h.os, k.tape.trans h.tape, k.output.trans h.output, Nat.le_trans h.size k.size, fun i hi hg => (k.block i hi hg).trans (h.block i hi hg)⟩
theorem But.below {B B' g : Nat} {a b : World} (h : But B g a b) (h1 : B' ≤ B) (h2 : B' ≤ g) : Below B' a b :=
  ⟨h.os, h.tape, h.output, h.size, fun i hi => h.block i (by omega) (by omega)⟩
theorem But.more {B B' g : Nat} {a b c : World} (h : But B g a b) (k : Below B' b c) (hB : B ≤ B') : But B g a c :=
  h.trans ⟨k.os, k.tape, k.output, k.size, fun i hi _ => k.block i (by omega)⟩
theorem But.grown {B g : Nat} {row : Option Nat} {a b c : World} (h : But B g a b) (k : b.grownBy c row) (hB : B ≤ b.heap.size) (hr : ∀ q, row = some q → B ≤ q ∨ q = g) : But B g a c :=
  h.trans ⟨k.os, k.tape, k.output, k.size, fun i hi hg => k.block i (by omega) fun e => by
    rcases hr i e.symm with h | h
    · omega
    · exact hg h⟩
theorem grown_set (w : World) (b i : Nat) (v : Value) : w.grownBy (w.setCell ⟨b, i, none⟩ v) (some b) := ⟨rfl, rfl, rfl, by simp [World.setCell], fun j hj hne => by
  have : b ≠ j := fun e => hne (by rw [e])
  simp [World.setCell, Array.getElem?_modify, this]⟩
theorem But.cell {B g : Nat} {a b : World} (h : But B g a b) {k i : Nat} (hk : k < B) (hg : k ≠ g) : b.cell? ⟨k, i, none⟩ = a.cell? ⟨k, i, none⟩ := by
  simp [World.cell?, h.block k hk hg]
theorem But.row {B g : Nat} {a b : World} (h : But B g a b) {k : Nat} {e : TypeId} {xs : List Value} (hr : RowIs a k e xs) (hk : k < B) (hg : k ≠ g) : RowIs b k e xs := (h.block k hk hg).trans hr
theorem gather_end {w X w1 : World} {gp m k i base n g cap : Nat} {f : Nat → Nat → Value} {E : Nat → List Nat} (hX : Below w.heap.size w X) (hF : Fam w base (fun j => f j 3) E) (hn : n = (E k).length)
    (hown : w1.ownsRow base 3 1 (.slice (some ⟨g, 0, none⟩) (n + 1) cap) (n + 1) (nv (E k) ++ [.int .i64 (i : Int)])) (hgrow : X.grownBy w1 (f k 3).ownBlock) (hat : (f k 3).ownBlock = some g ∨ g = X.heap.size)
    (hR : RowIs w1 gp 40 (pc f m)) (h1 : gp < base) (h2 : base ≤ w.heap.size) :
    ∃ v', RowIs (w1.setCell ⟨gp, k * 4 + 3, none⟩ (.slice (some ⟨g, 0, none⟩) (n + 1) cap)) gp 40 (pc (up2 f k 3 v') m) ∧
      Fam (w1.setCell ⟨gp, k * 4 + 3, none⟩ (.slice (some ⟨g, 0, none⟩) (n + 1) cap)) base (fun j => up2 f k 3 v' j 3) (fun j => if j = k then E k ++ [i] else E j) ∧
      But base gp w (w1.setCell ⟨gp, k * 4 + 3, none⟩ (.slice (some ⟨g, 0, none⟩) (n + 1) cap)) := by
  subst hn
  have hs := hX.size
  refine ⟨.slice (some ⟨g, 0, none⟩) ((E k).length + 1) cap, ?_, ?_, ?_⟩
  · have := hR.set (k * 4 + 3) (.slice (some ⟨g, 0, none⟩) ((E k).length + 1) cap)
    rwa [pc_set f m k 3 (by omega)] at this
  · have h := ((hF.more hX).push k i _ hown hgrow ?_).other (grown_set w1 gp (k * 4 + 3) (.slice (some ⟨g, 0, none⟩) ((E k).length + 1) cap)) h1
    · simpa only [up2_col] using h
    · rcases hat with hat | hat
      · left; rw [hat]; rfl
      · right; exact ⟨g, by omega, rfl⟩
  · refine (((But.refl base gp w).more hX h2).grown hgrow (by omega) fun q hq => .inl ((hF.1 k).lt q hq).1).grown (grown_set _ _ _ _) ?_ fun q hq => .inr (Option.some.inj hq).symm
    have := hgrow.size
    omega
set_option maxRecDepth 100000 in
set_option maxHeartbeats 1000000 in
theorem gather_any (w : World) (bp gp m k i base : Nat) (f : Nat → Nat → Value) (E : Nat → List Nat) (hb : w.cell? ⟨bp, 0, none⟩ = some (.slice (some ⟨gp, 0, none⟩) m m)) (hm : m ≤ 10000) (hk : k < m) (hi9 : i ≤ 10000)
    (hr : RowIs w gp 40 (pc f m)) (hF : Fam w base (fun j => f j 3) E) (hE : (E k).length ≤ 100000) (h1 : gp < bp) (h2 : bp < base) (h3 : base ≤ w.heap.size) :
    Calls Try.prog 29 #[.int .i64 (k : Int), .int .i64 (i : Int), .pointer (some ⟨bp, 0, none⟩)] w fun e w' => ∃ v', e = .returned (.tuple #[]) ∧ RowIs w' gp 40 (pc (up2 f k 3 v') m) ∧
      Fam w' base (fun j => up2 f k 3 v' j 3) (fun j => if j = k then E k ++ [i] else E j) ∧ But base gp w w' := by
  obtain ⟨i0, hi, hz0, hz1, hz2⟩ := info_parts info3
  have c3 := hr.cell (pc_get f hk (c := 3) (by omega))
  have f3 := hr.free (k * 4 + 3)
  have HR := Lib.hid hr
  have HF := Lib.hid hF
  have hown := hF.1 k
  obtain ⟨v, hv⟩ : ∃ v, v = f k 3 := ⟨_, rfl⟩
  rw [← hv] at c3
  have HV := Lib.hid hv
  have HO := Lib.hid (show w.ownsRow base 3 1 v (E k).length (nv (E k)) from by rw [hv]; exact hown)
  obtain ⟨n, hn⟩ : ∃ n, n = (E k).length := ⟨_, rfl⟩
  rw [← hn] at HO hE
  have HN := Lib.hid hn
  have HNE := Lib.hid (show some gp ≠ v.ownBlock from fun e => by have := (HO.out.lt gp e.symm).1; omega)
  have HNB := Lib.hid (show some bp ≠ v.ownBlock from fun e => by have := (HO.out.lt bp e.symm).1; omega)
  clear hr hF hown hv hn
  have hb' : ∀ o, (w.alloc o).cell? ⟨bp, 0, none⟩ = some (.slice (some ⟨gp, 0, none⟩) m m) := fun o => (((Below.refl _ _).alloc (Nat.le_refl w.heap.size) o).cell (p := ⟨bp, 0, none⟩) (show bp < w.heap.size by omega)).trans hb
  have c3' : ∀ o, (w.alloc o).cell? ⟨gp, k * 4 + 3, none⟩ = some v := fun o => (((Below.refl _ _).alloc (Nat.le_refl w.heap.size) o).cell (p := ⟨gp, k * 4 + 3, none⟩) (show gp < w.heap.size by omega)).trans c3
  go_enter Try.func29, Try.ntmps29
  go_upto_region 0 with fail
  go_region_law ((refine step_append_lies _ (by rfl) _ _ _ (by rfl) base 3 i0 (.int .i64 0) 1 8 (by kernel_rfl) hi hz0 hz1 hz2 rfl (by decide) v n (nv (E k)) (by rfl) (HO.out.alloc _) ⟨w.heap.size, 0, none⟩ 1 1 [.int .i64 (i : Int)] (by rfl) rfl (World.news_of_block (heap_alloc_new w _)) (by intro u hu; simp at hu; subst hu; rfl) (by omega) (by unfold maxLen; omega) (by omega) (by simp; omega) (w.heap.size + 1) (by simp) ?_; intro g cap w1 hown hgrow hat hlt; have HR1 := Lib.hid (show RowIs w1 gp 40 (pc f m) from RowIs.grown (by first | exact HR.out.alloc _ | exact RowIs.drew1 (HR.out.alloc _)) hgrow HNE.out); have d3 := HR1.out.cell (pc_get f hk (c := 3) (by omega)); have d4 := HR1.out.free (k * 4 + 3); have d5 : w1.cell? ⟨bp, 0, none⟩ = some (.slice (some ⟨gp, 0, none⟩) m m) := (hgrow.cell_far ⟨bp, 0, none⟩ (by simp; omega) HNB.out).trans (by exact hb' _)))
  all_goals
    go_wp2_with fail
    rw [HV.out] at hgrow hat
    obtain ⟨v', r1, r2, r3⟩ := gather_end (X := _) (by first | exact (Below.refl _ _).alloc (Nat.le_refl _) _ | exact ((Below.refl _ _).alloc (Nat.le_refl _) _).drew) HF.out HN.out hown hgrow (by simpa using hat) HR1.out (by omega) (by omega)
    refine bodyPost_end (v := .tuple #[]) (by simp [results, Try.results29, go_sem]) rfl ⟨v', rfl, ?_, ?_, ?_⟩
    · first | exact r1 | exact RowIs.drew1 r1
    · first | exact r2 | exact Fam.more r2 (Below.refl _ _).drew
    · first | exact r3 | exact r3.more (Below.refl _ _).drew (by have := r3.size; omega)
end Go.Proofs.Ytkggphfekeiejaa

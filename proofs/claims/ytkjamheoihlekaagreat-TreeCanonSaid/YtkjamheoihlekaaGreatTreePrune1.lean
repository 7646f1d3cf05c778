/- tree.degrees; the test of tree.Prune. -/
import Derived.Test.YtkjamheoihlekaaGreatPruneLaw
import Derived.Test.YtkjamheoihlekaaGreatMapLaw
import Derived.Test.YtkjamheoihlekaaGreatBordEdge
import Derived.BigQuiet
namespace Go.Proofs.YtkjamheoihlekaaGreat
set_option linter.unusedVariables false
set_option linter.unusedSimpArgs false
open Go.RowKit Go.Maps
/-- A map that counts. -/
def mN (f : Int → Nat) : Int → Option Value := fun v => if f v = 0 then none else some (.int .i64 (f v : Nat))
theorem mN_get (f : Int → Nat) (a : Int) : (mN f a).getD (.int .i64 0) = .int .i64 (f a : Nat) := by
  unfold mN
  by_cases h : f a = 0
  · simp [h]
  · simp [h]
theorem mN_store (f : Int → Nat) (a : Int) : (fun b => if b = a then some (Value.int .i64 ((f a : Nat) + 1 : Int)) else mN f b) = mN (fun v => f v + if v = a then 1 else 0) := by
  funext b
  unfold mN
  by_cases h : b = a
  · subst h; simp
  · simp [h]
theorem degE_take {E : List (Int × Int)} {k : Nat} (hk : k < E.length) (v : Int) : degE (E.take (k + 1)) v = degE (E.take k) v + (if v = (E! E k).1 then 1 else 0) + (if v = (E! E k).2 then 1 else 0) := by
  have e : E.take (k + 1) = E.take k ++ [E! E k] := by
    rw [List.take_add_one, List.getElem?_eq_getElem hk]
    simp [E!, hk]
  rw [e]
  unfold degE
  rw [List.countP_append, List.countP_append]
  simp only [List.countP_singleton]
  by_cases h1 : v = (E! E k).1 <;> by_cases h2 : v = (E! E k).2
  · simp [← h1, ← h2]; omega
  · have h2' : ¬ (E! E k).2 = v := fun q => h2 q.symm
    simp [← h1, h2, h2']; omega
  · have h1' : ¬ (E! E k).1 = v := fun q => h1 q.symm
    simp [← h2, h1, h1']; omega
  · have h1' : ¬ (E! E k).1 = v := fun q => h1 q.symm
    have h2' : ¬ (E! E k).2 = v := fun q => h2 q.symm
    simp [h1, h2, h1', h2']
theorem degE_le (E : List (Int × Int)) (v : Int) : degE E v ≤ 2 * E.length := by
  have a := List.countP_le_length (p := fun e : Int × Int => decide (e.1 = v)) (l := E)
  have b := List.countP_le_length (p := fun e : Int × Int => decide (e.2 = v)) (l := E)
  unfold degE
  omega
/-- Edges of numbers that a cell holds. -/
def EI64 (E : List (Int × Int)) : Prop := ∀ e, e ∈ E → I64 e.1 ∧ I64 e.2
theorem zeroI : ∀ w, (zeroValue 3).run Tryz.prog w = .ok (.int .i64 0) w := fun _ => by kernel_rfl
set_option maxRecDepth 100000 in
set_option maxHeartbeats 4000000 in
theorem degrees_ok (E : List (Int × Int)) (ao : Option Addr) (cap : Nat) (w : World) (hE : EdgesAt w ao E) (hI : EI64 E) (hl : E.length ≤ 100000) :
    Calls Tryz.prog 51 #[.slice ao E.length cap] w fun e w' => ∃ m n, e = .returned (.map (some m)) ∧ w.heap.size ≤ m ∧ MapIs intFam w' m n (mN (degE E)) ∧ Below w.heap.size w w' := by
  obtain ⟨n, hn⟩ : ∃ n, n = E.length := ⟨_, rfl⟩
  obtain ⟨m, hm⟩ : ∃ m, m = w.heap.size := ⟨_, rfl⟩
  have HE := Lib.hid hE
  have HI := Lib.hid hI
  have HN := Lib.hid hn
  have HM := Lib.hid hm
  have hmm := @run_makeMap Tryz.prog
  rw [← hn] at hl ⊢
  have HMP := Lib.hid (show MapIs intFam (w.alloc (.map #[] 0)) m 0 (mN (degE (E.take 0))) from by
    have : mN (degE (E.take 0)) = fun _ => none := by funext v; simp [mN, degE]
    rw [this, hm]
    exact MapIs.made w)
  have HB0 := Lib.hid (show Below m w (w.alloc (.map #[] 0)) from by rw [hm]; exact (Below.refl _ _).alloc (Nat.le_refl _) _)
  clear hE hI hn hm
  go_enter Tryz.func51, Tryz.ntmps51
  go_wp2
  simp only [← HM.out]
  go_loopw [9] (fun v ws => ∃ k cn : Nat, k ≤ n ∧ v = .int .i64 k ∧ MapIs intFam ws m cn (mN (degE (E.take k))) ∧ Below m w ws) (fun v _ => n - (intOf v).toNat)
  case atStart => exact ⟨0, 0, by omega, rfl, HMP.out, HB0.out⟩
  case round =>
  clear HMP HB0
  obtain ⟨k, cn, hk, rfl, hmap, hb⟩ := hrel
  obtain ⟨X, rfl⟩ : ∃ X : World, X = wr := ⟨_, rfl⟩
  by_cases hlt : k < n
  case neg =>
    obtain rfl : k = n := by omega
    have HF := Lib.hid (show MapIs intFam X m cn (mN (degE E)) ∧ Below m w X from ⟨by rw [HN.out, List.take_length] at hmap; exact hmap, hb⟩)
    clear hmap hb
    go_wp2
    exact bodyPost_ret (v := .map (some m)) (by simp [results, Tryz.results51, go_sem]) rfl ⟨m, cn, rfl, Nat.le_of_eq HM.out.symm, HF.out.1, HF.out.2.mono (Nat.le_of_eq HM.out.symm)⟩
  case pos =>
  obtain ⟨eb, off, rfl, hlt', hc⟩ := (HE.out.mono (B := m) (by rw [HM.out]; exact Nat.le_refl _) hb) (by intro e; have := HN.out; rw [e] at this; simp at this; omega)
  obtain ⟨c1, c2⟩ := hc k (by rw [← HN.out]; exact hlt)
  have hdt := fun v => degE_take (E := E) (k := k) (by rw [← HN.out]; exact hlt) v
  have hin := HI.out (E! E k) (E!_mem (by rw [← HN.out]; exact hlt))
  have hbd := fun v => degE_le (E.take k) v
  have htl : (E.take k).length ≤ 100000 := by rw [List.length_take]; omega
  obtain ⟨⟨a, b⟩, hab⟩ : ∃ e, e = E! E k := ⟨_, rfl⟩
  rw [← hab] at c1 c2 hdt hin
  simp only at c1 c2 hdt hin
  obtain ⟨f, hf⟩ : ∃ f, f = degE (E.take k) := ⟨_, rfl⟩
  rw [← hf] at hmap hbd
  simp only [← hf] at hdt
  have bk : (0 : Int) ≤ (k : Int) ∧ (k : Int) < (n : Int) := by omega
  -- the first end
  have hba : Below X.heap.size X (X.alloc (.cells #[.int .i64 a, .int .i64 b] 40)) := (Below.refl _ _).alloc (Nat.le_refl _) _
  have hr1 := RowIs.made X 40 [.int .i64 a, .int .i64 b]
  have hm1 := hmap.below (Nat.le_refl _) hba
  obtain ⟨W1, hW1⟩ : ∃ W1, W1 = X.alloc (.cells #[.int .i64 a, .int .i64 b] 40) := ⟨_, rfl⟩
  have hr1' : RowIs W1 X.heap.size 40 [.int .i64 a, .int .i64 b] := by rw [hW1]; exact hr1
  rw [← hW1] at hm1 hba
  have k1 := hm1.look 84 3 (by kernel_rfl) zeroI a hin.1 false
  rw [mN_get] at k1
  obtain ⟨Z1, s1, hm2, hg1⟩ := hm1.store 84 3 (by kernel_rfl) a hin.1 (.int .i64 ((f a : Nat) + 1 : Int))
  rw [mN_store] at hm2
  have hr2 : RowIs Z1 X.heap.size 40 [.int .i64 a, .int .i64 b] := hr1'.grown hg1 (by have := hmap.lt; simp; omega)
  obtain ⟨f1, hf1⟩ : ∃ f1 : Int → Nat, f1 = fun v => f v + if v = a then 1 else 0 := ⟨_, rfl⟩
  rw [← hf1] at hm2
  have k2 := hm2.look 84 3 (by kernel_rfl) zeroI b hin.2 false
  rw [mN_get] at k2
  obtain ⟨Z2, s2, hm3, hg2⟩ := hm2.store 84 3 (by kernel_rfl) b hin.2 (.int .i64 ((f1 b : Nat) + 1 : Int))
  rw [mN_store] at hm3
  have hfin : (fun v => f1 v + if v = b then 1 else 0) = degE (E.take (k + 1)) := by
    funext v
    rw [hdt v, hf1]
  rw [hfin] at hm3
  have q1 := hr1'.cell (i := 0) rfl
  have q2 := hr2.cell (i := 1) rfl
  have hba' : Below m w W1 := below_more hb hba (Nat.le_of_lt hmap.lt)
  have HNX := Lib.hid (show ∃ c3, MapIs intFam Z2 m c3 (mN (degE (E.take (k + 1)))) ∧ Below m w Z2 from ⟨_, hm3, (hba'.grown hg1 (Nat.le_of_lt (Nat.lt_of_lt_of_le hmap.lt hba.size)) (fun q hq => by cases hq; exact Nat.le_refl _)).grown hg2 (by have := hg1.size; have := hba.size; have := hmap.lt; omega) (fun q hq => by cases hq; exact Nat.le_refl _)⟩)
  have w1 : IntKind.i64.wrap ((f a : Nat) + 1 : Int) = ((f a : Nat) + 1 : Int) := IntWalk.i64_in _ (by have := hbd a; omega)
  have hb1 : f1 b ≤ 300000 := by
    rw [hf1]
    have := hbd b
    try dsimp only
    split <;> omega
  have w2 : IntKind.i64.wrap ((f1 b : Nat) + 1 : Int) = ((f1 b : Nat) + 1 : Int) := IntWalk.i64_in _ (by omega)
  simp only [intFam] at k1 s1 k2 s2
  have HW1 := Lib.hid hW1
  clear hmap hb hc hdt hin hbd htl hab hf hba hr1 hm1 hr1' hm2 hg1 hr2 hf1 hm3 hg2 hfin hba' hb1 hW1
  go_upto_region 5 with fail
  rw [← HW1.out]
  go_wp2
  obtain ⟨c3, n1, n2⟩ := HNX.out
  go_roundw
  case rel => exact ⟨k + 1, c3, by omega, by go_num, n1, n2⟩
  case measure => simp [intOf]; omega
/-- The test: an end is alone at its vertex. -/
def loneB (f : Int → Nat) (e : Int × Int) : Bool := decide (f e.1 = 1) || decide (f e.2 = 1)
set_option maxRecDepth 100000 in
set_option maxHeartbeats 4000000 in
theorem prune1_ok (f : Int → Nat) (m n db : Nat) (x y : Int) (hx : I64 x) (hy : I64 y) (hf : ∀ v, f v ≤ 300000) (w : World) (hm : MapIs intFam w m n (mN f)) (hd : w.cell? ⟨db, 0, none⟩ = some (.map (some m))) (hdl : db < w.heap.size) :
    Calls Tryz.prog 53 #[.agg #[.int .i64 x, .int .i64 y], .pointer (some ⟨db, 0, none⟩)] w fun e w' => e = .returned (.bool (loneB f (x, y))) ∧ Below w.heap.size w w' := by
  have hba : Below w.heap.size w (w.alloc (.cells #[.int .i64 x, .int .i64 y] 40)) := (Below.refl _ _).alloc (Nat.le_refl _) _
  obtain ⟨W1, hW1⟩ : ∃ W1, W1 = w.alloc (.cells #[.int .i64 x, .int .i64 y] 40) := ⟨_, rfl⟩
  have hr : RowIs W1 w.heap.size 40 [.int .i64 x, .int .i64 y] := by rw [hW1]; exact RowIs.made w 40 [.int .i64 x, .int .i64 y]
  rw [← hW1] at hba
  have hm1 := hm.below (Nat.le_refl _) hba
  have hd1 : W1.cell? ⟨db, 0, none⟩ = some (.map (some m)) := (hba.cell (p := ⟨db, 0, none⟩) hdl).trans hd
  have k1 := hm1.look 84 3 (by kernel_rfl) zeroI x hx false
  have k2 := hm1.look 84 3 (by kernel_rfl) zeroI y hy false
  rw [mN_get] at k1 k2
  simp only [intFam] at k1 k2
  have q1 := hr.cell (i := 0) rfl
  have q2 := hr.cell (i := 1) rfl
  have hl : loneB f (x, y) = (decide (f x = 1) || decide (f y = 1)) := rfl
  have bx := hf x
  have by' := hf y
  rw [hl]
  obtain ⟨a, ha⟩ : ∃ a, a = f x := ⟨_, rfl⟩
  obtain ⟨b, hb⟩ : ∃ b, b = f y := ⟨_, rfl⟩
  rw [← ha] at k1 bx ⊢
  rw [← hb] at k2 by' ⊢
  have HW1 := Lib.hid hW1
  have HB := Lib.hid hba
  by_cases h1 : a = 1
  · have g1 : ((a : Int) == 1) = true := by
      have h1' : (a : Int) = 1 := by omega
      simp [h1']
    have g2 : decide (a = 1) = true := by simpa using h1
    rw [g2, Bool.true_or]
    clear hm hd hba hr hm1 hl ha hb hW1 h1 g2 hx hy hf
    go_enter Tryz.func53, Tryz.ntmps53
    go_upto_region 1 with fail
    rw [← HW1.out]
    go_wp2
    exact bodyPost_ret (v := .bool true) (by simp [results, Tryz.results53, go_sem]) rfl ⟨rfl, HB.out⟩
  · have g1 : ((a : Int) == 1) = false := by simp; omega
    have g2 : decide (a = 1) = false := by simpa using h1
    have g3 : decide (b = 1) = ((b : Int) == 1) := by
      by_cases q : b = 1
      · simp [q]
      · have : ¬ (b : Int) = 1 := by omega
        simp [q, this]
    rw [g2, Bool.false_or, g3]
    obtain ⟨r, hr'⟩ : ∃ r, r = ((b : Int) == 1) := ⟨_, rfl⟩
    have hr2 := hr'.symm
    rw [← hr']
    clear hm hd hba hr hm1 hl ha hb hW1 h1 g2 g3 hx hy hf hr'
    go_enter Tryz.func53, Tryz.ntmps53
    go_upto_region 1 with fail
    rw [← HW1.out]
    go_wp2
    exact bodyPost_ret (v := .bool r) (by simp [results, Tryz.results53, go_sem]) rfl ⟨rfl, HB.out⟩
end Go.Proofs.YtkjamheoihlekaaGreat

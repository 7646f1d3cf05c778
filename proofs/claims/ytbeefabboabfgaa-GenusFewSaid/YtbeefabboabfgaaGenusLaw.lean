/- genus.Of: what its loops count. Plain. -/
import Derived.Test.YtbeefabboabfgaaGenusA
import Derived.Test.YtbeefabboabfgaaLoopsW
import Derived.Test.YtbeefabboabfgaaShellG
namespace Go.Proofs.Ytbeefabboabfgaa
set_option linter.unusedVariables false
set_option linter.unusedSimpArgs false
open Go.RowKit
/-- How many of the first i have the key k. -/
def cntK (key : Nat → Int) (i k : Nat) : Nat := ((List.range i).filter fun t => decide (key t = (k : Int))).length
theorem cntK_zero (key : Nat → Int) (k : Nat) : cntK key 0 k = 0 := rfl
theorem cntK_succ (key : Nat → Int) (i k : Nat) : cntK key (i + 1) k = cntK key i k + if key i = (k : Int) then 1 else 0 := by
  unfold cntK
  rw [List.range_succ, List.filter_append, List.length_append]
  by_cases h : key i = (k : Int) <;> simp [h]
theorem cntK_le (key : Nat → Int) (i k : Nat) : cntK key i k ≤ i := by
  have := List.length_filter_le (fun t => decide (key t = (k : Int))) (List.range i)
  simpa [cntK] using this
/-- The ends of edges at the first c corners: one a corner, two on the border. -/
def twn (T : List Tr) (L : Nat → Int) (c k : Nat) : Nat := cntK (fun x => L (x / 3)) c k + ((List.range c).filter fun x => decide (L (x / 3) = (k : Int)) && decide (opp T (x : Nat) < 0)).length
theorem twn_succ (T : List Tr) (L : Nat → Int) (c k : Nat) : twn T L (c + 1) k = twn T L c k + (if L (c / 3) = (k : Int) then (if opp T (c : Nat) < 0 then 2 else 1) else 0) := by
  unfold twn
  rw [cntK_succ, List.range_succ, List.filter_append, List.length_append]
  by_cases h : L (c / 3) = (k : Int) <;> by_cases g : opp T (c : Nat) < 0 <;> simp [h, g] <;> omega
theorem twn_le (T : List Tr) (L : Nat → Int) (c k : Nat) : twn T L c k ≤ 2 * c := by
  have h1 := cntK_le (fun x => L (x / 3)) c k
  have h2 := List.length_filter_le (fun x => decide (L (x / 3) = (k : Int)) && decide (opp T (x : Nat) < 0)) (List.range c)
  rw [List.length_range] at h2
  unfold twn
  omega
/-- The shell of a vertex. -/
def shV (T : List Tr) (L : Nat → Int) (v : Nat) : Int := L ((firstF T 0 v).toNat / 3)
/-- The first vertices of the border loops. -/
def headsB (E : List (Int × Int)) (n : Nat) : List Nat := (List.range n).filter fun v => minB E (v : Int)
theorem loopsL_heads (E : List (Int × Int)) (n : Nat) : loopsL E n = (headsB E n).map fun (v : Nat) => orb E (v : Int) := rfl
theorem headsB_le (E : List (Int × Int)) (n : Nat) : (headsB E n).length ≤ n := by
  have := List.length_filter_le (fun v : Nat => minB E (v : Int)) (List.range n)
  simpa [headsB] using this
theorem headsB_mem {E : List (Int × Int)} {n v : Nat} : v ∈ headsB E n ↔ v < n ∧ minB E (v : Int) = true := by simp [headsB]
/-- A loop begins with its vertex. -/
theorem orb_head {E : List (Int × Int)} {v : Int} (hv : v ∈ E.map Prod.snd) : ∃ l, orb E v = v :: l := by
  unfold orb
  cases hb : nextB E v with
  | none => exact absurd hv (nextB_none.1 hb)
  | some b => exact ⟨_, rfl⟩
/-- The numbers under way. -/
def numF (V F B : Nat → Nat) : Nat → Int := fun i => if i % 6 = 0 then (V (i / 6) : Int) else if i % 6 = 2 then (F (i / 6) : Int) else if i % 6 = 3 then (B (i / 6) : Int) else 0
theorem numF_V (V F B : Nat → Nat) (s : Nat) : numF V F B (6 * s) = (V s : Int) := by
  unfold numF
  rw [if_pos (by omega), show 6 * s / 6 = s by omega]
theorem numF_F (V F B : Nat → Nat) (s : Nat) : numF V F B (6 * s + 2) = (F s : Int) := by
  unfold numF
  rw [if_neg (by omega), if_pos (by omega), show (6 * s + 2) / 6 = s by omega]
theorem numF_B (V F B : Nat → Nat) (s : Nat) : numF V F B (6 * s + 3) = (B s : Int) := by
  unfold numF
  rw [if_neg (by omega), if_neg (by omega), if_pos (by omega), show (6 * s + 3) / 6 = s by omega]
theorem numF_upF (V F F' B : Nat → Nat) (s : Nat) (h : ∀ k, F' k = F k + if k = s then 1 else 0) : upd (numF V F B) (6 * s + 2) ((F s : Int) + 1) = numF V F' B := by
  funext i
  unfold upd numF
  by_cases e : i = 6 * s + 2
  · subst e
    rw [if_pos rfl, if_neg (by omega), if_pos (by omega), show (6 * s + 2) / 6 = s by omega, h s, if_pos rfl]
    omega
  · rw [if_neg e]
    by_cases e2 : i % 6 = 2
    · rw [if_neg (by omega), if_pos e2, if_neg (by omega), if_pos e2, h (i / 6), if_neg (by omega)]
      rfl
    · by_cases e0 : i % 6 = 0
      · rw [if_pos e0, if_pos e0]
      · rw [if_neg e0, if_neg e2, if_neg e0, if_neg e2]
theorem numF_upV (V V' F B : Nat → Nat) (s : Nat) (h : ∀ k, V' k = V k + if k = s then 1 else 0) : upd (numF V F B) (6 * s) ((V s : Int) + 1) = numF V' F B := by
  funext i
  unfold upd numF
  by_cases e : i = 6 * s
  · subst e
    rw [if_pos rfl, if_pos (by omega), show 6 * s / 6 = s by omega, h s, if_pos rfl]
    omega
  · rw [if_neg e]
    by_cases e0 : i % 6 = 0
    · rw [if_pos e0, if_pos e0, h (i / 6), if_neg (by omega)]
      rfl
    · rw [if_neg e0, if_neg e0]
theorem numF_upB (V F B B' : Nat → Nat) (s : Nat) (h : ∀ k, B' k = B k + if k = s then 1 else 0) : upd (numF V F B) (6 * s + 3) ((B s : Int) + 1) = numF V F B' := by
  funext i
  unfold upd numF
  by_cases e : i = 6 * s + 3
  · subst e
    rw [if_pos rfl, if_neg (by omega), if_neg (by omega), if_pos (by omega), show (6 * s + 3) / 6 = s by omega, h s, if_pos rfl]
    omega
  · rw [if_neg e]
    by_cases e3 : i % 6 = 3
    · rw [if_neg (by omega), if_neg (by omega), if_pos e3, if_neg (by omega), if_neg (by omega), if_pos e3, h (i / 6), if_neg (by omega)]
      rfl
    · by_cases e0 : i % 6 = 0
      · rw [if_pos e0, if_pos e0]
      · rw [if_neg e0, if_neg e0]
        by_cases e2 : i % 6 = 2
        · rw [if_pos e2, if_pos e2]
        · rw [if_neg e2, if_neg e3, if_neg e2, if_neg e3]
/-- The numbers of a shell. -/
def finF (V F B tw : Nat → Nat) : Nat → Int := fun i =>
  let k := i / 6
  let eu := (V k : Int) - ((tw k / 2 : Nat) : Int) + (F k : Int)
  if i % 6 = 0 then (V k : Int) else if i % 6 = 1 then ((tw k / 2 : Nat) : Int) else if i % 6 = 2 then (F k : Int) else if i % 6 = 3 then (B k : Int) else if i % 6 = 4 then eu else ((2 : Int) - (B k : Int) - eu).tdiv 2
/-- Those of the first s shells done. -/
def dunF (V F B tw : Nat → Nat) (s : Nat) : Nat → Int := fun i => if i / 6 < s then finF V F B tw i else numF V F B i
theorem dunF_zero (V F B tw : Nat → Nat) : dunF V F B tw 0 = numF V F B := by
  funext i
  unfold dunF
  rw [if_neg (by omega)]
theorem dunF_here (V F B tw : Nat → Nat) (s j : Nat) (hj : j < 6) : dunF V F B tw s (6 * s + j) = numF V F B (6 * s + j) := by
  unfold dunF
  rw [if_neg (by omega)]
theorem dunF_step (V F B tw : Nat → Nat) (s : Nat) : upd (upd (upd (dunF V F B tw s) (6 * s + 1) ((tw s / 2 : Nat) : Int)) (6 * s + 4) ((V s : Int) - ((tw s / 2 : Nat) : Int) + (F s : Int))) (6 * s + 5) (((2 : Int) - (B s : Int) - ((V s : Int) - ((tw s / 2 : Nat) : Int) + (F s : Int))).tdiv 2) = dunF V F B tw (s + 1) := by
  funext i
  unfold upd dunF
  by_cases e5 : i = 6 * s + 5
  · subst e5
    rw [if_pos rfl, if_pos (by omega)]
    unfold finF
    rw [if_neg (by omega), if_neg (by omega), if_neg (by omega), if_neg (by omega), if_neg (by omega), show (6 * s + 5) / 6 = s by omega]
  · rw [if_neg e5]
    by_cases e4 : i = 6 * s + 4
    · subst e4
      rw [if_pos rfl, if_pos (by omega)]
      unfold finF
      rw [if_neg (by omega), if_neg (by omega), if_neg (by omega), if_neg (by omega), if_pos (by omega), show (6 * s + 4) / 6 = s by omega]
    · rw [if_neg e4]
      by_cases e1 : i = 6 * s + 1
      · subst e1
        rw [if_pos rfl, if_pos (by omega)]
        unfold finF
        rw [if_neg (by omega), if_pos (by omega), show (6 * s + 1) / 6 = s by omega]
      · rw [if_neg e1]
        by_cases hs : i / 6 < s
        · rw [if_pos hs, if_pos (by omega)]
        · rw [if_neg hs]
          by_cases h1 : i / 6 < s + 1
          · rw [if_pos h1]
            have hk : i / 6 = s := by omega
            unfold finF numF
            by_cases e0 : i % 6 = 0
            · rw [if_pos e0, if_pos e0]
            · have n1 : ¬ i % 6 = 1 := by omega
              rw [if_neg e0, if_neg e0, if_neg n1]
              by_cases e2 : i % 6 = 2
              · rw [if_pos e2, if_pos e2]
              · rw [if_neg e2, if_neg e2]
                by_cases e3 : i % 6 = 3
                · rw [if_pos e3, if_pos e3]
                · omega
          · rw [if_neg h1]
theorem madeCells_six (m : Nat) : (madeCells #[Value.int .i64 0, .int .i64 0, .int .i64 0, .int .i64 0, .int .i64 0, .int .i64 0] (m * 6)).toList = iv (fun _ => 0) (6 * m) := by
  apply List.ext_getElem
  · simp [madeCells, iv]; omega
  · intro i h1 h2
    have hm : i % 6 < 6 := Nat.mod_lt _ (by omega)
    simp only [madeCells, iv, Array.toList_map, Array.toList_range, List.getElem_map, List.getElem_range]
    generalize e : i % 6 = r at hm ⊢
    match r, hm with
    | 0, _ => simp [e]
    | 1, _ => simp [e]
    | 2, _ => simp [e]
    | 3, _ => simp [e]
    | 4, _ => simp [e]
    | 5, _ => simp [e]
end Go.Proofs.Ytbeefabboabfgaa

/- border.Edges. -/
import Derived.Test.YtkjamheoihlekaaGreatFaceLaw
import Derived.Test.YtkjamheoihlekaaGreatCornerNew
import Derived.Deep.RegionHeld3
import Derived.Deep.DeepCutAuto
namespace Go.Proofs.YtkjamheoihlekaaGreat
set_option linter.unusedVariables false
set_option linter.unusedSimpArgs false
open Go.RowKit
/-- The border edges at the first k corners. -/
def bordE (T : List Tr) (k : Nat) : List (Int × Int) := ((List.range k).filter fun (c : Nat) => decide (opp T (c : Int) < 0)).map fun (c : Nat) => edgeAt T (c : Int)
theorem bordE_yes {T : List Tr} {k : Nat} (h : opp T (k : Int) < 0) : bordE T (k + 1) = bordE T k ++ [edgeAt T (k : Int)] := by simp [bordE, List.range_succ, h]
theorem bordE_no {T : List Tr} {k : Nat} (h : ¬ opp T (k : Int) < 0) : bordE T (k + 1) = bordE T k := by simp [bordE, List.range_succ, h]
theorem bordE_mem {T : List Tr} {k : Nat} {e : Int × Int} (h : e ∈ bordE T k) : ∃ c : Nat, c < k ∧ opp T (c : Int) < 0 ∧ edgeAt T (c : Int) = e := by
  simp only [bordE, List.mem_map, List.mem_filter, List.mem_range, decide_eq_true_eq] at h
  obtain ⟨c, ⟨h1, h2⟩, h3⟩ := h
  exact ⟨c, h1, h2, h3⟩
theorem bordE_le (T : List Tr) (k : Nat) : (bordE T k).length ≤ k := by
  have := List.length_filter_le (fun (c : Nat) => decide (opp T (c : Int) < 0)) (List.range k)
  simp [bordE] at *; omega
def ecells (E : List (Int × Int)) : List Value := E.flatMap fun e => [.int .i64 e.1, .int .i64 e.2]
theorem ecells_snoc (E : List (Int × Int)) (e : Int × Int) : ecells (E ++ [e]) = ecells E ++ [.int .i64 e.1, .int .i64 e.2] := by simp [ecells]
theorem ecells_length (E : List (Int × Int)) : (ecells E).length = E.length * 2 := by
  induction E with
  | nil => rfl
  | cons a l ih => simp [ecells] at ih ⊢; omega
/-- The edge with a number. -/
def E! (E : List (Int × Int)) (i : Nat) : Int × Int := E.getD i (0, 0)
theorem E!_mem {E : List (Int × Int)} {i : Nat} (h : i < E.length) : E! E i ∈ E := by
  unfold E!
  rw [List.getD_eq_getElem?_getD, List.getElem?_eq_getElem h]
  exact List.getElem_mem h
theorem ecells_get : ∀ (E : List (Int × Int)) (i : Nat), i < E.length → (ecells E)[i * 2]? = some (.int .i64 (E! E i).1) ∧ (ecells E)[i * 2 + 1]? = some (.int .i64 (E! E i).2)
  | [], i, h => by simp at h
  | e :: l, 0, _ => ⟨rfl, rfl⟩
  | e :: l, i + 1, h => by
    have ih := ecells_get l i (by simpa using h)
    have e1 : (i + 1) * 2 = i * 2 + 1 + 1 := by omega
    have e2 : (i + 1) * 2 + 1 = i * 2 + 1 + 1 + 1 := by omega
    rw [e1]
    exact ih
def EdgesAt (w : World) (ao : Option Addr) (E : List (Int × Int)) : Prop :=
  E ≠ [] → ∃ b off, ao = some ⟨b, off, none⟩ ∧ b < w.heap.size ∧ ∀ i, i < E.length → w.cell? ⟨b, off + i * 2, none⟩ = some (.int .i64 (E! E i).1) ∧ w.cell? ⟨b, off + i * 2 + 1, none⟩ = some (.int .i64 (E! E i).2)
theorem EdgesAt.mono {w w' : World} {ao : Option Addr} {E : List (Int × Int)} {B : Nat} (h : EdgesAt w ao E) (hB : w.heap.size ≤ B) (hb : Below B w w') : EdgesAt w' ao E := by
  intro hx
  obtain ⟨b, off, rfl, hlt, hc⟩ := h hx
  exact ⟨b, off, rfl, by have := hb.size; omega, fun i hi => ⟨(hb.cell (p := ⟨b, _, none⟩) (show b < B by omega)).trans (hc i hi).1, (hb.cell (p := ⟨b, _, none⟩) (show b < B by omega)).trans (hc i hi).2⟩⟩
theorem owns_edges {w : World} {base e : Nat} {v : Value} {E : List (Int × Int)} (h : w.ownsRow base e 2 v E.length (ecells E)) : ∃ ao cap, v = .slice ao E.length cap ∧ EdgesAt w ao E := by
  by_cases hn : 0 < E.length
  · obtain ⟨g, cap, rfl, hb, hg, hc, hm, hcell, _⟩ := owns_block h hn
    refine ⟨_, cap, rfl, fun _ => ⟨g, 0, rfl, hg, fun i hi => ?_⟩⟩
    rw [Nat.zero_add]
    exact ⟨hcell _ _ (ecells_get E i hi).1, hcell _ _ (ecells_get E i hi).2⟩
  · obtain ⟨ao, cap, rfl⟩ := owns_slice h
    exact ⟨ao, cap, rfl, fun hne => absurd (List.length_pos_iff.2 hne) hn⟩
theorem infoEdge : (Tryz.prog.info? 40).map (fun i => (i.zero, i.size, i.bytes)) = some (some (.agg #[.int .i64 0, .int .i64 0]), 2, 16) := by kernel_rfl
set_option maxRecDepth 100000 in
set_option maxHeartbeats 1000000 in
theorem edges_any (b : Nat) (N : Int) (T : List Tr) (w : World) (h : Tab w b N T) :
    Calls Tryz.prog 71 #[.pointer (some ⟨b, 0, none⟩)] w fun e w' => ∃ ao cap, e = .returned (.slice ao (bordE T (3 * T.length)).length cap) ∧ EdgesAt w' ao (bordE T (3 * T.length)) ∧ Below w.heap.size w w' := by
  obtain ⟨i0, hi, hz0, hz1, hz2⟩ := info_parts infoEdge
  have H := Lib.hid h
  have hlen := h.len
  have HTC := Lib.hid (triangles_any _ _ _ _ h.s)
  obtain ⟨len, hl⟩ : ∃ n, n = T.length := ⟨_, rfl⟩
  obtain ⟨l3, hl3⟩ : ∃ n, n = 3 * len := ⟨_, rfl⟩
  rw [← hl] at hlen HTC
  have h3 : (3 : Int) * (len : Int) = (l3 : Int) := by omega
  have h3l : l3 ≤ 30000 := by omega
  have hT3 : 3 * T.length = l3 := by omega
  rw [hT3]
  have HT3 := Lib.hid hT3
  clear h hl hl3 hT3
  go_enter Tryz.func71, Tryz.ntmps71
  go_wp2_with fail
  refine HTC.out.mono ?_
  rintro e w1 ⟨rfl, rfl⟩
  go_wp2
  go_loopw [10, 3] (fun c u ws => ∃ k : Nat, k ≤ l3 ∧ c = .int .i64 k ∧ ws.ownsRow w.heap.size 40 2 u (bordE T k).length (ecells (bordE T k)) ∧ Below w.heap.size w ws) (fun c _ _ => l3 - (intOf c).toNat)
  case atStart => exact ⟨0, by omega, rfl, by exact World.ownsRow_nil _ _ _ _, Below.refl _ _⟩
  case round =>
  obtain ⟨k, hk, rfl, hown, hb⟩ := hrel
  obtain ⟨X, rfl⟩ : ∃ X : World, X = wr := ⟨_, rfl⟩
  by_cases hlt : k < l3
  case neg =>
    obtain rfl : k = l3 := by omega
    obtain ⟨a, c, e, he⟩ := owns_edges hown
    subst e
    have HE := Lib.hid he
    have HB := Lib.hid hb
    clear hown hb he
    go_wp2
    go_ret
    exact ⟨a, c, rfl, HE.out, HB.out⟩
  case pos =>
  have hOP := opp_any (k : Int) X b N T (H.out.mono (Nat.le_refl _) hb) (by omega) (by have := HT3.out; omega)
  obtain ⟨o, ho⟩ : ∃ o, o = opp T (k : Int) := ⟨_, rfl⟩
  rw [← ho] at hOP
  have HOP := Lib.hid hOP
  have HO := Lib.hid ho
  have HW := Lib.hid hown
  have HB := Lib.hid hb
  have hle := bordE_le T k
  clear hown hb hOP ho
  by_cases hneg : o < 0
  case neg =>
    have d0 : decide (o < 0) = false := by simpa using hneg
    have HE := Lib.hid (show bordE T (k + 1) = bordE T k from bordE_no (by rw [← HO.out]; exact hneg))
    clear hneg
    go_wp2_with fail
    refine HOP.out.mono ?_
    rintro e w2 ⟨rfl, hb2⟩
    have HB2 := Lib.hid (below_more HB.out hb2 HB.out.size)
    have HW2 := Lib.hid (owns_below HW.out hb2)
    clear hb2
    go_wp2
    go_roundw
    case rel => exact ⟨k + 1, by omega, by go_num, by rw [HE.out]; exact HW2.out, HB2.out⟩
    case measure => simp [intOf]; omega
  case pos =>
  have d0 : decide (o < 0) = true := by simpa using hneg
  have HE := Lib.hid (show bordE T (k + 1) = bordE T k ++ [edgeAt T (k : Int)] from bordE_yes (by rw [← HO.out]; exact hneg))
  clear hneg
  go_wp2_with fail
  refine HOP.out.mono ?_
  rintro e w2 ⟨rfl, hb2⟩
  have HB2 := Lib.hid (below_more HB.out hb2 HB.out.size)
  have HW2 := Lib.hid (owns_below HW.out hb2)
  have hED := edge_any (k : Int) w2 b N T H.out.len ((H.out.mono (Nat.le_refl _) HB2.out).s) (by omega) (by have := HT3.out; omega)
  obtain ⟨p, hp⟩ : ∃ p, p = vt T (nx (k : Int)) := ⟨_, rfl⟩
  obtain ⟨q, hq⟩ : ∃ q, q = vt T (pv (k : Int)) := ⟨_, rfl⟩
  rw [← hp, ← hq] at hED
  have HEQ := Lib.hid (show edgeAt T (k : Int) = (p, q) from by rw [hp, hq]; rfl)
  have HED := Lib.hid hED
  clear hb2 hED hp hq
  go_wp2_with fail
  refine HED.out.mono ?_
  rintro e w3 ⟨rfl, hb3⟩
  have HB3 := Lib.hid (below_more HB2.out hb3 HB2.out.size)
  have HW3 := Lib.hid (owns_below HW2.out hb3)
  clear hb3
  go_wp2_with (at_builtin; refine wpList_append_new _ rfl _ _ 34 rfl w.heap.size 40 i0 _ 2 16 (by kernel_rfl) hi hz0 hz1 hz2 rfl (by decide) _ _ _ rfl HW3.out _ _ _ rfl (by first | rfl | simp) rfl ?_ ?_ ?_ ?_ ?_)
  all_goals first | rfl | omega | (unfold maxLen; omega) | exact ⟨rfl, rfl⟩ | exact ⟨rfl, rfl, rfl⟩ | exact HB3.out.size | skip
  · intro v' w5 hown5 hbel hgr
    have HW5 := Lib.hid hown5
    have HB5 := Lib.hid (hbel w.heap.size _ (Nat.le_refl _) HB3.out)
    clear hown5 hbel hgr
    go_wp2
    go_roundw
    case rel => exact ⟨k + 1, by omega, by go_num, by
      rw [HE.out, HEQ.out, ecells_snoc, List.length_append]
      exact HW5.out, HB5.out⟩
    case measure => simp [intOf]; omega
end Go.Proofs.YtkjamheoihlekaaGreat

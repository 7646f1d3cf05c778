/- rim.Cut's comparison: by vertex, then by number; slices.SortFunc by it. slices.SortFunc by rim.Cut's comparison. -/
import Derived.Test.YtknioobpoieohaaGreatCmpW
import Derived.Test.YtknioobpoieohaaGreatFaceLaw
import Derived.Test.YtknioobpoieohaaGreatIntsDef
import Derived.Test.YtknioobpoieohaaGreatQueue
import Derived.Shelf.SlSortCmp.Whole1
namespace Go.Proofs.YtknioobpoieohaaGreat
set_option linter.unusedVariables false
set_option linter.unusedSimpArgs false
open Go.RowKit Go.Lib
set_option maxHeartbeats 400000 in
theorem has_no (c : Int) (w : World) (b : Nat) (ao : Option Addr) (len cap : Nat) (hl : len ≤ 10000) (h1 : w.cell? ⟨b, 1, none⟩ = some (.slice ao len cap)) (hc : 0 ≤ c) (hc2 : ¬ c < 3 * len) :
    Calls Tryz.prog 71 #[.pointer (some ⟨b, 0, none⟩), .int .i64 c] w fun e w' => e = .returned (.bool false) ∧ w = w' := by
  go_enter Tryz.func71, Tryz.ntmps71
  go_wp2
  go_ret
  exact ⟨by first | rfl | (simp; done) | (simp; omega), rfl⟩
def vtx (T : List Tr) (c : Nat) : Int := if c < 3 * T.length then vt T (c : Int) else -1
set_option maxHeartbeats 400000 in
theorem vertexN (c : Nat) (w : World) (b : Nat) (N : Int) (T : List Tr) (hl : T.length ≤ 10000) (h : TabS w b N T) :
    Calls Tryz.prog 39 #[.pointer (some ⟨b, 0, none⟩), .int .i64 (c : Int)] w fun e w' => e = .returned (.int .i64 (vtx T c)) ∧ w = w' := by
  by_cases hc : c < 3 * T.length
  · have := vertex_any (c : Int) w b N T hl h (by omega) (by omega)
    unfold vtx
    rw [if_pos hc]
    exact this
  · unfold vtx
    rw [if_neg hc]
    obtain ⟨ao, cap, h0, h1, h2, h3⟩ := h
    obtain ⟨len, hlen⟩ : ∃ n, n = T.length := ⟨_, rfl⟩
    rw [← hlen] at hl h1 hc
    have hc2 : ¬ ((c : Int) < 3 * (len : Int)) := by omega
    clear hlen h2
    go_enter Tryz.func39, Tryz.ntmps39
    go_wp2_with (go_at_call 71; refine (has_no _ _ _ _ _ _ hl h1 (by omega) hc2).mono ?_; rintro e w' ⟨rfl, rfl⟩)
    go_ret
    exact ⟨rfl, rfl⟩
/-- The order of corners. -/
def cfc (T : List Tr) (a b : Nat) : Int := orI (Lib.compareInt (vtx T a) (vtx T b)) (Lib.compareInt (a : Int) (b : Int))
set_option maxRecDepth 100000 in
set_option maxHeartbeats 1000000 in
theorem cutcmp_any (a b : Nat) (W : World) (tb p : Nat) (N : Int) (T : List Tr) (hl : T.length ≤ 10000) (h : TabS W p N T) (htl : tb < W.heap.size) (htb : W.cell? ⟨tb, 0, none⟩ = some (.pointer (some ⟨p, 0, none⟩))) :
    Calls Tryz.prog 36 #[.int .i64 (a : Int), .int .i64 (b : Int), .pointer (some ⟨tb, 0, none⟩)] W fun e w' => e = .returned (.int .i64 (cfc T a b)) ∧ Gr W w' := by
  have HV := Lib.hid (show ∀ (c : Nat) X, Hid (Below W.heap.size W X) → Calls Tryz.prog 39 #[.pointer (some ⟨p, 0, none⟩), .int .i64 (c : Int)] X fun e w' => e = .returned (.int .i64 (vtx T c)) ∧ X = w' from fun c X hX => vertexN c X p N T hl (h.mono (Nat.le_refl _) hX.out))
  have HK := Lib.hid (show ∀ X, Below W.heap.size W X → X.cell? ⟨tb, 0, none⟩ = some (.pointer (some ⟨p, 0, none⟩)) from fun X hX => (hX.cell (p := ⟨tb, 0, none⟩) htl).trans htb)
  obtain ⟨va, hva⟩ : ∃ v, v = vtx T a := ⟨_, rfl⟩
  obtain ⟨vb, hvb⟩ : ∃ v, v = vtx T b := ⟨_, rfl⟩
  have HVA := Lib.hid (HV.out a)
  have HVB := Lib.hid (HV.out b)
  rw [← hva] at HVA
  rw [← hvb] at HVB
  obtain ⟨c1, hc1⟩ : ∃ c, c = Lib.compareInt va vb := ⟨_, rfl⟩
  obtain ⟨c2, hc2⟩ : ∃ c, c = Lib.compareInt (a : Int) (b : Int) := ⟨_, rfl⟩
  have HC1 := Lib.hid (show ∀ X, Calls Tryz.prog 38 #[.int .i64 va, .int .i64 vb] X fun e w' => e = .returned (.int .i64 c1) ∧ w' = X from fun X => by rw [hc1]; exact Tryz.cmp_Compare_int va vb X)
  have HC2 := Lib.hid (show ∀ X, Calls Tryz.prog 38 #[.int .i64 (a : Int), .int .i64 (b : Int)] X fun e w' => e = .returned (.int .i64 c2) ∧ w' = X from fun X => by rw [hc2]; exact Tryz.cmp_Compare_int a b X)
  have HR := Lib.hid (show cfc T a b = orI c1 c2 from by unfold cfc; rw [hc1, hc2, hva, hvb])
  obtain ⟨r, hr⟩ : ∃ r, r = cfc T a b := ⟨_, rfl⟩
  rw [← hr] at HR ⊢
  have hbel : Below W.heap.size W W := Below.refl _ _
  have hgr := Gr.refl W
  clear hva hvb hc1 hc2 hr HV h htb
  go_enter Tryz.func36, Tryz.ntmps36
  go_upto_region 1 with fail
  go_region_held3 (fun w' => w'.cell? ⟨tb, 0, none⟩ = some (.pointer (some ⟨p, 0, none⟩)))
    (exact HK.out _ (by repeat (first | exact hbel | with_reducible apply bel_alloc | with_reducible apply bel_drew)))
    (first | (go_at_call 39; (with_reducible refine (HVA.out _ (hidB (by repeat (first | exact hbel | with_reducible apply bel_alloc | with_reducible apply bel_drew)))).mono ?_); rintro e w2 ⟨rfl, rfl⟩) | (go_at_call 39; (with_reducible refine (HVB.out _ (hidB (by repeat (first | exact hbel | with_reducible apply bel_alloc | with_reducible apply bel_drew)))).mono ?_); rintro e w2 ⟨rfl, rfl⟩) | (go_at_call 38; (with_reducible refine (HC1.out _).mono ?_); rintro e w2 ⟨rfl, rfl⟩) | (go_at_call 38; (with_reducible refine (HC2.out _).mono ?_); rintro e w2 ⟨rfl, rfl⟩) | (go_at_call 37; (with_reducible refine (or_two c1 c2 _ _ (by repeat (first | with_reducible exact RowIs.made _ _ _ | with_reducible apply RowIs.drew1))).mono ?_); rintro e w2 ⟨rfl, rfl⟩))
  all_goals
    go_wp2
    exact bodyPost_ret (v := .int .i64 (orI c1 c2)) (by simp [results, Tryz.results36, go_sem]) rfl ⟨by rw [HR.out], by repeat (first | exact hgr | with_reducible apply Gr.alloc | with_reducible apply Gr.drew)⟩
/-- By vertex, then by number. -/
def ltC (T : List Tr) (a b : Nat) : Prop := vtx T a < vtx T b ∨ vtx T a = vtx T b ∧ a < b
theorem ltOf_cfc (T : List Tr) (a b : Nat) : Go.Proofs.ltOf (cfc T) a b = true ↔ ltC T a b := by
  unfold Go.Proofs.ltOf cfc orI Lib.compareInt ltC
  simp only [decide_eq_true_eq]
  by_cases h1 : vtx T a < vtx T b
  · simp [h1]
  · by_cases h2 : vtx T b < vtx T a
    · have : ¬ vtx T a = vtx T b := by omega
      simp [h1, h2, this]
    · have e : vtx T a = vtx T b := by omega
      simp only [h1, h2, if_false, if_true, e, false_or, true_and]
      by_cases h3 : (a : Int) < b
      · have : a < b := by omega
        simp [h3, this]
      · by_cases h4 : (b : Int) < a
        · have : ¬ a < b := by omega
          simp [h3, h4, this]
        · have : ¬ a < b := by omega
          simp [h3, h4, this]
theorem swo_cfc (T : List Tr) : Go.Sort.SWO (Go.Proofs.ltOf (cfc T)) where
  irrefl x := by
    cases h : Go.Proofs.ltOf (cfc T) x x
    · rfl
    · have := (ltOf_cfc T x x).1 h
      unfold ltC at this
      omega
  trans x y z h1 h2 := by
    have a := (ltOf_cfc T x y).1 h1
    have b := (ltOf_cfc T y z).1 h2
    refine (ltOf_cfc T x z).2 ?_
    unfold ltC at *
    omega
  ntrans x y z h1 h2 := by
    have a : ¬ ltC T x y := fun h => by rw [(ltOf_cfc T x y).2 h] at h1; cases h1
    have b : ¬ ltC T y z := fun h => by rw [(ltOf_cfc T y z).2 h] at h2; cases h2
    cases h : Go.Proofs.ltOf (cfc T) x z
    · rfl
    · have c := (ltOf_cfc T x z).1 h
      unfold ltC at *
      omega
def nl (F : List Nat) : List Int := F.map fun (x : Nat) => (x : Int)
theorem nl_length (F : List Nat) : (nl F).length = F.length := by simp [nl]
theorem nl_get {F : List Nat} {i x : Nat} (h : F[i]? = some x) : I! (nl F) i = (x : Int) := by
  simp [I!, nl, List.getD_eq_getElem?_getD, h]
/-- A sort's world: one block has turned, blocks are laid behind. -/
theorem grown_sortW {α : Type} [Inhabited α] (enc : α → Value) (w : World) (blk off m : Nat) (dk : Array α) (os : Array Obj) (hb : blk < w.heap.size) : w.grownBy (Go.Proofs.sortWorld enc w blk off m dk os) (some blk) := by
  have h1 : (Go.Proofs.sortWorld enc w blk off m dk os).heap.size = w.heap.size + os.size := by
    show (Go.Sort.grow (Go.Sort.putRow enc (Go.Sort.ahead w m) blk off dk) os).heap.size = _
    rw [Go.Sort.size_grow, Go.Sort.size_putRow]
    rfl
  refine ⟨rfl, rfl, rfl, by omega, fun j hj hne => ?_⟩
  have h2 : blk ≠ j := fun e => hne (by rw [e])
  show (Go.Sort.grow (Go.Sort.putRow enc (Go.Sort.ahead w m) blk off dk) os).heap[j]? = _
  rw [Go.Sort.heap_grow_old _ _ (by rw [Go.Sort.size_putRow]; exact hj)]
  simp only [Go.Sort.putRow, Go.Sort.mapBlock, Array.getElem?_modify, h2, if_false]
  rfl
theorem sort_first (W1 w : World) (base tb p gf capf : Nat) (N : Int) (T : List Tr) (F0 : List Nat) (hl : T.length ≤ 10000) (hF : F0.length ≤ 100000) (h : TabS W1 p N T) (htl : tb < W1.heap.size) (htb : W1.cell? ⟨tb, 0, none⟩ = some (.pointer (some ⟨p, 0, none⟩)))
    (hB : W1.heap.size ≤ base) (hb : Below base W1 w) (hown : w.ownsRow base 3 1 (.slice (some ⟨gf, 0, none⟩) F0.length capf) F0.length (nv F0)) :
    Calls Tryz.prog 35 #[.slice (some ⟨gf, 0, none⟩) F0.length capf, .func (.func 36) #[] #[.pointer (some ⟨tb, 0, none⟩)]] w fun e w' => e = .returned (.tuple #[]) ∧
      ∃ F : List Nat, F.Perm F0 ∧ F.Pairwise (fun a b => ¬ ltC T b a) ∧ IntsAt w' (some ⟨gf, 0, none⟩) (nl F) ∧ w.grownBy w' (some gf) ∧ gf < w.heap.size ∧ base ≤ gf := by
  obtain ⟨hbg, hgl⟩ := hown.lt gf rfl
  have hH : Go.Sort.Holds (fun (c : Nat) => Value.int .i64 (c : Int)) w gf 0 F0.toArray := fun j hj => by
    simp at hj
    obtain ⟨g', cap', hv, -, -, -, -, hc, hf⟩ := owns_block hown (by omega)
    simp only [Value.slice.injEq, Option.some.injEq, Addr.mk.injEq] at hv
    obtain ⟨⟨rfl, -⟩, -, rfl⟩ := hv
    refine ⟨?_, by rw [Nat.zero_add]; exact hf j⟩
    have := hc j _ (nv_get (List.getElem?_eq_getElem hj))
    rw [Nat.zero_add, this]
    simp [hj]
  have hcmp : Go.Proofs.CmpLays1 Tryz.prog 36 #[.pointer (some ⟨tb, 0, none⟩)] (fun (c : Nat) => Value.int .i64 (c : Int)) (cfc T) gf 0 F0.toArray.size w := fun m os dk _ x y => by
    have hg := grown_sortW (fun (c : Nat) => Value.int .i64 (c : Int)) w gf 0 m dk os hgl
    have hbW : Below base W1 (Go.Proofs.sortWorld (fun (c : Nat) => Value.int .i64 (c : Int)) w gf 0 m dk os) := hb.grown hg (by have := hb.size; omega) (fun k hk => by cases hk; exact hbg)
    have := cutcmp_any x y (Go.Proofs.sortWorld (fun (c : Nat) => Value.int .i64 (c : Int)) w gf 0 m dk os) tb p N T hl (h.mono hB hbW) (by have := hbW.size; omega) ((hbW.cell (p := ⟨tb, 0, none⟩) (show tb < _ by omega)).trans htb)
    exact this.mono fun e w' ⟨h1, q, os', h2⟩ => ⟨h1, q, os', h2⟩
  have hs := Tryz.slices_SortFunc (fun (c : Nat) => Value.int .i64 (c : Int)) (fun _ => rfl) (cfc T) (swo_cfc T) 36 #[.pointer (some ⟨tb, 0, none⟩)] gf 0 capf F0.toArray w (enters_of Tryz.func36 (by kernel_rfl) rfl) hcmp hH hgl (by simp; omega)
  have e0 : F0.toArray.size = F0.length := by simp
  rw [e0] at hs
  refine hs.mono fun e w' ⟨he, d', n, os, hp, hso, hw⟩ => ⟨he, d'.toList, ?_, ?_, ?_, ?_, hgl, hbg⟩
  · have := hp.2.2
    have h1 := hp.1
    simp at h1
    rw [show d'.extract 0 F0.length = d' from by rw [← h1]; simp, show F0.toArray.extract 0 F0.length = F0.toArray from by rw [← e0]; simp] at this
    simpa using this
  · rw [List.pairwise_iff_getElem]
    intro i j hi hj hij
    have h1 := hp.1
    simp at h1 hi hj
    have := hso i j (Nat.zero_le _) hij (by omega)
    rw [getElem!_pos d' j hj, getElem!_pos d' i hi] at this
    simp only [Array.getElem_toList]
    intro hlt
    rw [(ltOf_cfc T _ _).2 hlt] at this
    cases this
  · rw [hw]
    have h1 := hp.1
    simp at h1
    have hh : Go.Sort.Holds (fun (c : Nat) => Value.int .i64 (c : Int)) (Go.Proofs.sortWorld (fun (c : Nat) => Value.int .i64 (c : Int)) w gf 0 n d' os) gf 0 d' := by
      have a := Go.Sort.holds_putRow (fun (c : Nat) => Value.int .i64 (c : Int)) (Go.Sort.ahead w n) gf 0 F0.toArray d' (fun j hj => hH j hj) (by simp [h1])
      exact Go.Sort.holds_grow _ _ os gf 0 d' (by rw [Go.Sort.size_putRow]; exact hgl) a
    refine fun _ => ⟨gf, 0, rfl, ?_, fun i hi => ?_⟩
    · have := (grown_sortW (fun (c : Nat) => Value.int .i64 (c : Int)) w gf 0 n d' os hgl).size
      omega
    · rw [nl_length] at hi
      simp at hi
      rw [(hh i hi).1, nl_get (x := d'[i]!) (by rw [getElem!_pos d' i hi]; simp [hi])]
  · rw [hw]; exact grown_sortW _ w gf 0 n d' os hgl
end Go.Proofs.YtknioobpoieohaaGreat

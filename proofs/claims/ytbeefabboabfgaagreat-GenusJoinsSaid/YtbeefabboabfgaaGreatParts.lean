/- Rows of parts; worlds that change in one old block alone. shell.Split's closure: a triangle's number is put behind those of its part. shell.Split: the walk. -/
import Derived.Test.YtbeefabboabfgaaGreatTabSoup
import Derived.Test.YtbeefabboabfgaaGreatQueue
import Derived.Test.YtbeefabboabfgaaGreatRowFam
import Derived.Test.YtbeefabboabfgaaGreatButLaw
import Derived.Deep.AppendLies
import Derived.Deep.RegionHeldLaw
import Derived.Test.YtbeefabboabfgaaGreatOwnSort
namespace Go.Proofs.YtbeefabboabfgaaGreat
set_option linter.unusedVariables false
set_option linter.unusedSimpArgs false
open Go.RowKit
/-- The cells of m parts: f k 0 .. f k 3. -/
def pc (f : Nat → Nat → Value) (m : Nat) : List Value := (List.range (m * 4)).map fun i => f (i / 4) (i % 4)
theorem pc_length (f : Nat → Nat → Value) (m : Nat) : (pc f m).length = m * 4 := by simp [pc]
theorem pc_get (f : Nat → Nat → Value) {m k c : Nat} (hk : k < m) (hc : c < 4) : (pc f m)[k * 4 + c]? = some (f k c) := by
  have h1 : k * 4 + c < m * 4 := by omega
  have h2 : (k * 4 + c) / 4 = k := by omega
  have h3 : (k * 4 + c) % 4 = c := by omega
  simp [pc, h1, h2, h3]
def up2 (f : Nat → Nat → Value) (k c : Nat) (v : Value) : Nat → Nat → Value := fun j d => if j = k ∧ d = c then v else f j d
theorem pc_set (f : Nat → Nat → Value) (m k c : Nat) (hc : c < 4) (v : Value) : (pc f m).set (k * 4 + c) v = pc (up2 f k c v) m := by
  refine set_map_range (m * 4) _ _ _ v fun i => ?_
  unfold up2
  by_cases h : i = k * 4 + c
  · have h2 : i / 4 = k := by omega
    have h3 : i % 4 = c := by omega
    rw [if_pos h, if_pos ⟨h2, h3⟩]
  · rw [if_neg h, if_neg (by omega)]
theorem up2_same (f : Nat → Nat → Value) (k c : Nat) (v : Value) : up2 f k c v k c = v := by simp [up2]
theorem up2_col (f : Nat → Nat → Value) (k c j : Nat) (v : Value) : up2 f k c v j c = if j = k then v else f j c := by simp [up2]
theorem up2_other (f : Nat → Nat → Value) (k c j d : Nat) (v : Value) (h : d ≠ c) : up2 f k c v j d = f j d := by simp [up2, h]
theorem gather_end {w X w1 : World} {gp m k i base n g cap : Nat} {f : Nat → Nat → Value} {E : Nat → List Nat} (hX : Below w.heap.size w X) (hF : Fam w base (fun j => f j 3) E) (hn : n = (E k).length)
    (hown : w1.ownsRow base 3 1 (.slice (some ⟨g, 0, none⟩) (n + 1) cap) (n + 1) (nv (E k) ++ [.int .i64 (i : Int)])) (hgrow : X.grownBy w1 (f k 3).ownBlock) (hat : (f k 3).ownBlock = some g ∨ g = X.heap.size)
    (hR : RowIs w1 gp 60 (pc f m)) (h1 : gp < base) (h2 : base ≤ w.heap.size) :
    ∃ v', RowIs (w1.setCell ⟨gp, k * 4 + 3, none⟩ (.slice (some ⟨g, 0, none⟩) (n + 1) cap)) gp 60 (pc (up2 f k 3 v') m) ∧
      Fam (w1.setCell ⟨gp, k * 4 + 3, none⟩ (.slice (some ⟨g, 0, none⟩) (n + 1) cap)) base (fun j => up2 f k 3 v' j 3) (fun j => if j = k then E k ++ [i] else E j) ∧
      But base gp w (w1.setCell ⟨gp, k * 4 + 3, none⟩ (.slice (some ⟨g, 0, none⟩) (n + 1) cap)) := by
  subst hn
  have hs := hX.size
  refine ⟨.slice (some ⟨g, 0, none⟩) ((E k).length + 1) cap, ?_, ?_, ?_⟩
  · have := hR.set (k * 4 + 3) (.slice (some ⟨g, 0, none⟩) ((E k).length + 1) cap)
    rwa [pc_set f m k 3 (by omega)] at this
  · have h := ((hF.more hX).push k i _ hown hgrow ?_).other (grown_set w1 gp (k * 4 + 3) (.slice (some ⟨g, 0, none⟩) ((E k).length + 1) cap)) h1
    · simpa only [up2_col] using h
    · rcases hat with hat | hat
      · left; rw [hat]; rfl
      · right; exact ⟨g, by omega, rfl⟩
  · refine (((But.refl base gp w).more hX h2).grown hgrow (by omega) fun q hq => .inl ((hF.1 k).lt q hq).1).grown (grown_set _ _ _ _) ?_ fun q hq => .inr (Option.some.inj hq).symm
    have := hgrow.size
    omega
set_option maxRecDepth 100000 in
set_option maxHeartbeats 1000000 in
theorem gather_any (w : World) (bp gp m k i base : Nat) (f : Nat → Nat → Value) (E : Nat → List Nat) (hb : w.cell? ⟨bp, 0, none⟩ = some (.slice (some ⟨gp, 0, none⟩) m m)) (hm : m ≤ 10000) (hk : k < m) (hi9 : i ≤ 10000)
    (hr : RowIs w gp 60 (pc f m)) (hF : Fam w base (fun j => f j 3) E) (hE : (E k).length ≤ 100000) (h1 : gp < bp) (h2 : bp < base) (h3 : base ≤ w.heap.size) :
    Calls Tryz.prog 57 #[.int .i64 (k : Int), .int .i64 (i : Int), .pointer (some ⟨bp, 0, none⟩)] w fun e w' => ∃ v', e = .returned (.tuple #[]) ∧ RowIs w' gp 60 (pc (up2 f k 3 v') m) ∧
      Fam w' base (fun j => up2 f k 3 v' j 3) (fun j => if j = k then E k ++ [i] else E j) ∧ But base gp w w' := by
  obtain ⟨i0, hi, hz0, hz1, hz2⟩ := info_parts info3
  have c3 := hr.cell (pc_get f hk (c := 3) (by omega))
  have f3 := hr.free (k * 4 + 3)
  have HR := Lib.hid hr
  have HF := Lib.hid hF
  have hown := hF.1 k
  obtain ⟨v, hv⟩ : ∃ v, v = f k 3 := ⟨_, rfl⟩
  rw [← hv] at c3
  have HV := Lib.hid hv
  have HO := Lib.hid (show w.ownsRow base 3 1 v (E k).length (nv (E k)) from by rw [hv]; exact hown)
  obtain ⟨n, hn⟩ : ∃ n, n = (E k).length := ⟨_, rfl⟩
  rw [← hn] at HO hE
  have HN := Lib.hid hn
  have HNE := Lib.hid (show some gp ≠ v.ownBlock from fun e => by have := (HO.out.lt gp e.symm).1; omega)
  have HNB := Lib.hid (show some bp ≠ v.ownBlock from fun e => by have := (HO.out.lt bp e.symm).1; omega)
  clear hr hF hown hv hn
  have hb' : ∀ o, (w.alloc o).cell? ⟨bp, 0, none⟩ = some (.slice (some ⟨gp, 0, none⟩) m m) := fun o => (((Below.refl _ _).alloc (Nat.le_refl w.heap.size) o).cell (p := ⟨bp, 0, none⟩) (show bp < w.heap.size by omega)).trans hb
  have c3' : ∀ o, (w.alloc o).cell? ⟨gp, k * 4 + 3, none⟩ = some v := fun o => (((Below.refl _ _).alloc (Nat.le_refl w.heap.size) o).cell (p := ⟨gp, k * 4 + 3, none⟩) (show gp < w.heap.size by omega)).trans c3
  go_enter Tryz.func57, Tryz.ntmps57
  go_upto_region 0 with fail
  go_region_law ((refine step_append_lies _ (by rfl) _ _ _ (by rfl) base 3 i0 (.int .i64 0) 1 8 (by kernel_rfl) hi hz0 hz1 hz2 rfl (by decide) v n (nv (E k)) (by rfl) (HO.out.alloc _) ⟨w.heap.size, 0, none⟩ 1 1 [.int .i64 (i : Int)] (by rfl) rfl (World.news_of_block (heap_alloc_new w _)) (by intro u hu; simp at hu; subst hu; rfl) (by omega) (by unfold maxLen; omega) (by omega) (by simp; omega) (w.heap.size + 1) (by simp) ?_; intro g cap w1 hown hgrow hat hlt; have HR1 := Lib.hid (show RowIs w1 gp 60 (pc f m) from RowIs.grown (by first | exact HR.out.alloc _ | exact RowIs.drew1 (HR.out.alloc _)) hgrow HNE.out); have d3 := HR1.out.cell (pc_get f hk (c := 3) (by omega)); have d4 := HR1.out.free (k * 4 + 3); have d5 : w1.cell? ⟨bp, 0, none⟩ = some (.slice (some ⟨gp, 0, none⟩) m m) := (hgrow.cell_far ⟨bp, 0, none⟩ (by simp; omega) HNB.out).trans (by exact hb' _)))
  all_goals
    go_wp2_with fail
    rw [HV.out] at hgrow hat
    obtain ⟨v', r1, r2, r3⟩ := gather_end (X := _) (by first | exact (Below.refl _ _).alloc (Nat.le_refl _) _ | exact ((Below.refl _ _).alloc (Nat.le_refl _) _).drew) HF.out HN.out hown hgrow (by simpa using hat) HR1.out (by omega) (by omega)
    refine bodyPost_end (v := .tuple #[]) (by simp [results, Tryz.results57, go_sem]) rfl ⟨v', rfl, ?_, ?_, ?_⟩
    · first | exact r1 | exact RowIs.drew1 r1
    · first | exact r2 | exact Fam.more r2 (Below.refl _ _).drew
    · first | exact r3 | exact r3.more (Below.refl _ _).drew (by have := r3.size; omega)
theorem info40 : (Tryz.prog.info? 60).map (fun i => (i.zero, i.size, i.bytes)) = some (some (.agg #[.int .i64 0, .slice none 0 0, .slice none 0 0, .slice none 0 0]), 4, 80) := by kernel_rfl
def zpart : Nat → Nat → Value := fun _ c => if c = 0 then .int .i64 0 else .slice none 0 0
theorem madeCells_pc (m : Nat) : (madeCells #[.int .i64 0, .slice none 0 0, .slice none 0 0, .slice none 0 0] (m * 4)).toList = pc zpart m := by
  apply List.ext_getElem
  · simp [madeCells, pc]
  · intro i h1 h2
    have h : i % 4 = 0 ∨ i % 4 = 1 ∨ i % 4 = 2 ∨ i % 4 = 3 := by omega
    rcases h with h | h | h | h <;> simp [madeCells, pc, zpart, h]
theorem shells_one {T : List Tr} {L M : Nat → Int} (hL : IsShells (Adj T) T.length L) (hM : IsShells (Adj T) T.length M) (hopp : ∀ c : Int, 0 ≤ c → c < 3 * T.length → opp T c < 3 * T.length) (hout : ∀ i j, Adj T i j → i < T.length) : ∀ i, i < T.length → L i = M i := by
  have hj : ∀ i j, i < T.length → Adj T i j → j < T.length := by
    rintro i j hi ⟨k, hk, h0, rfl⟩
    have := hopp (3 * (i : Int) + k) (by omega) (by omega)
    omega
  exact hL.same hM (fun i j hi hj h => hM.clo i j hi hj h) (fun i j hi hj h => hL.clo i j hi hj h) hj (fun i j _ h => hout i j h) hj (fun i j _ h => hout i j h)
theorem up2_row (f : Nat → Nat → Value) (k c j d : Nat) (v : Value) (h : j ≠ k) : up2 f k c v j d = f j d := by simp [up2, h]
theorem But.less {B B' g : Nat} {a b : World} (h : But B g a b) (h1 : B' ≤ B) : But B' g a b := ⟨h.os, h.tape, h.output, h.size, fun k hk hg => h.block k (by omega) hg⟩
theorem up2_self (f : Nat → Nat → Value) (k c : Nat) (v : Value) (h : f k c = v) : up2 f k c v = f := by
  funext j d
  unfold up2
  split
  · next e => rw [e.1, e.2, h]
  · rfl
theorem up2_twice (f : Nat → Nat → Value) (k c : Nat) (u v : Value) : up2 (up2 f k c u) k c v = up2 f k c v := by
  funext j d
  unfold up2
  split <;> rfl
def ei (E : List Nat) : List Int := E.map fun (i : Nat) => (i : Int)
theorem ei_cells (E : List Nat) : (ei E).map (Value.int .i64) = nv E := by simp [ei, nv, Function.comp_def]
/-- The corners of the first triangles of a list, one behind the other. -/
def vall (T : List Tr) (E : List Nat) (l : Nat) : List Int := (E.take l).flatMap fun i => corners3 (T! T i)
theorem vall_succ (T : List Tr) (E : List Nat) (l i : Nat) (h : E[l]? = some i) : vall T E (l + 1) = vall T E l ++ corners3 (T! T i) := by
  unfold vall
  rw [List.take_add_one, h]
  simp
theorem vall_length (T : List Tr) (E : List Nat) : ∀ l, l ≤ E.length → (vall T E l).length = 3 * l
  | 0, _ => by simp [vall]
  | l + 1, h => by
    rw [vall_succ T E l _ (List.getElem?_eq_getElem (by omega)), List.length_append, vall_length T E l (by omega)]
    simp [corners3]
    omega
theorem shell_has {A : Nat → Nat → Prop} {n : Nat} {L : Nat → Int} (h : IsShells A n L) {j : Nat} (hj : (j : Int) < cnt L n) : ∃ i, i < n ∧ L i = j := by
  obtain ⟨i, hi, e⟩ := cnt_has L n (by omega)
  by_cases q : L i = j
  · exact ⟨i, hi, q⟩
  · obtain ⟨i', h1, h2⟩ := h.rg i hi j (by omega) (by omega)
    exact ⟨i', by omega, h2⟩
theorem shell_some {A : Nat → Nat → Prop} {n : Nat} {L : Nat → Int} (h : IsShells A n L) {j : Nat} (hj : (j : Int) < cnt L n) : 0 < (ofShell L n j).length := by
  obtain ⟨i, hi, e⟩ := shell_has h hj
  exact List.length_pos_of_mem (a := i) (by simp [ofShell, hi, e])
theorem vall_all (T : List Tr) (E : List Nat) : vertsP T E = uniq (vall T E E.length) := by unfold vertsP vall; rw [List.take_length]
def sall (T : List Tr) (U : List Int) (E : List Nat) (q : Nat) : List Tr := (E.take q).map fun i => ranked U (T! T i)
theorem sall_succ (T : List Tr) (U : List Int) (E : List Nat) (q i : Nat) (h : E[q]? = some i) : sall T U E (q + 1) = sall T U E q ++ [ranked U (T! T i)] := by
  unfold sall
  rw [List.take_add_one, h]
  simp
theorem own_keep {w : World} {base gp i : Nat} {e : TypeId} {sz n : Nat} {v : Value} {xs : List Value} (h : w.ownsRow base e sz v n xs) (hg : gp < base) (u : Value) : (w.setCell ⟨gp, i, none⟩ u).ownsRow base e sz v n xs := by
  refine h.kept (grown_set _ _ _ _) ?_
  cases hk : v.ownBlock with
  | none => left; rfl
  | some q =>
    right
    have := (h.lt q hk).1
    intro e; cases e; omega
theorem news3 {w : World} {b off : Nat} {x y z : Value} (h0 : w.cell? ⟨b, off, none⟩ = some x) (h1 : w.cell? ⟨b, off + 1, none⟩ = some y) (h2 : w.cell? ⟨b, off + 2, none⟩ = some z) :
    ∀ (j : Nat) (u : Value), [x, y, z][j]? = some u → w.cell? ((⟨b, off, none⟩ : Addr).add j) = some u := by
  intro j u hu
  match j, hu with
  | 0, hu => simp at hu; subst hu; simpa [Addr.add] using h0
  | 1, hu => simp at hu; subst hu; simpa [Addr.add] using h1
  | 2, hu => simp at hu; subst hu; simpa [Addr.add] using h2
/-- A part's row of one kind is appended to, and laid back. -/
theorem back_end {W X w1 : World} {gp m k c B n : Nat} {f : Nat → Nat → Value} {v v' : Value} {e : TypeId} {sz : Nat} {xs : List Value} (hc : c < 4) (hX : But B gp W X) (hB : B ≤ X.heap.size) (hv : ∀ q, v.ownBlock = some q → B ≤ q)
    (hown : w1.ownsRow B e sz v' n xs) (hgrow : X.grownBy w1 v.ownBlock) (hR : RowIs w1 gp 60 (pc (up2 f k c v) m)) (h1 : gp < B) :
    RowIs (w1.setCell ⟨gp, k * 4 + c, none⟩ v') gp 60 (pc (up2 f k c v') m) ∧ (w1.setCell ⟨gp, k * 4 + c, none⟩ v').ownsRow B e sz v' n xs ∧ But B gp W (w1.setCell ⟨gp, k * 4 + c, none⟩ v') := by
  refine ⟨?_, ?_, ?_⟩
  · have := hR.set (k * 4 + c) v'
    rwa [pc_set _ m k c hc, up2_twice] at this
  · refine hown.kept (grown_set _ _ _ _) ?_
    cases hk : v'.ownBlock with
    | none => left; rfl
    | some q =>
      right
      have := (hown.lt q hk).1
      intro e; cases e; omega
  · refine (hX.grown hgrow hB fun q hq => .inl (hv q hq)).grown (grown_set _ _ _ _) ?_ fun q hq => .inr (Option.some.inj hq).symm
    have := hgrow.size
    omega
set_option maxRecDepth 100000 in
set_option maxHeartbeats 2000000 in
theorem split_any (w : World) (b : Nat) (N : Int) (T : List Tr) (h : Tab w b N T) (hsym : ∀ i j, i < T.length → j < T.length → Adj T i j → Adj T j i) (hopp : ∀ c : Int, 0 ≤ c → c < 3 * T.length → opp T c < 3 * T.length) (hout : ∀ i j, Adj T i j → i < T.length) :
    Calls Tryz.prog 26 #[.pointer (some ⟨b, 0, none⟩)] w fun e w' => ∃ L, IsShells (Adj T) T.length L ∧ Below w.heap.size w w' ∧
      ((cnt L T.length = 0 ∧ e = .returned (.slice none 0 0)) ∨ ∃ (gp m : Nat) (f : Nat → Nat → Value), (m : Int) = cnt L T.length ∧ 0 < m ∧ e = .returned (.slice (some ⟨gp, 0, none⟩) m m) ∧ w.heap.size ≤ gp ∧
        RowIs w' gp 60 (pc f m) ∧ ∀ k, k < m → PartOk w' gp (f k) (partOf T L T.length k)) := by
  obtain ⟨i0, hi, hz0, hz1, hz2⟩ := info_parts info40
  obtain ⟨i3, hi3, hy0, hy1, hy2⟩ := info_parts info3
  obtain ⟨i4, hi4, hx0, hx1, hx2⟩ := info_parts info49
  have hmf : ∀ (fn : Fn) (first cap : Array Value) (w : World), (Instr.makeFunc fn first cap).run Tryz.prog w = .ok (.func fn first cap) w := fun _ _ _ _ => rfl
  have HOF := Lib.hid (fun w' (hw : Tab w' b N T) => of_any w' b N T hw hsym hopp)
  have HCT := Lib.hid (fun w' (hw : Tab w' b N T) => count_any w' b N T hw hsym hopp)
  have HSP := Lib.hid (fun w' (hw : Tab w' b N T) => soup_any w' b N T h.len hw.s)
  have HTB := Lib.hid h
  have hlen := h.len
  have hbl : b < w.heap.size := by obtain ⟨_, _, _, _, _, q⟩ := h.s; exact q
  have HONE := Lib.hid (fun L M (hL : IsShells (Adj T) T.length L) (hM : IsShells (Adj T) T.length M) => shells_one hL hM hopp hout)
  clear h hsym hopp hout
  obtain ⟨n, hn⟩ : ∃ n, n = T.length := ⟨_, rfl⟩
  rw [← hn] at HOF HCT HSP HONE hlen ⊢
  have HN := Lib.hid hn
  clear hn
  go_enter Tryz.func26, Tryz.ntmps26
  go_wp2_with fail
  refine (HOF.out _ HTB.out).mono ?_
  rintro e w1 ⟨go, L, rfl, hgo, hrow, hsh, hb⟩
  have HT1 := Lib.hid (HTB.out.mono (Nat.le_refl _) hb)
  have HB1 := Lib.hid hb
  have HR1 := Lib.hid hrow
  have HSH := Lib.hid hsh
  clear hb hrow hsh HOF
  go_wp2_with fail
  refine (HCT.out _ HT1.out).mono ?_
  rintro e w2 ⟨L2, rfl, hsh2, hb⟩
  obtain ⟨m, hm⟩ := Int.eq_ofNat_of_zero_le (cnt_nonneg L n)
  have hL2 : cnt L2 n = (m : Int) := by rw [← hm]; exact cnt_congr n fun i hi => HONE.out _ _ hsh2 HSH.out i hi
  have hmn : m ≤ n := by have := HSH.out.cnt_le; omega
  have HM := Lib.hid hm
  rw [hL2]
  have HB2 := Lib.hid (below_more HB1.out hb HB1.out.size)
  have HR2 := Lib.hid (HR1.out.after hb)
  have HT2 := Lib.hid (HT1.out.mono (Nat.le_refl _) hb)
  have hgo2 : go < w2.heap.size := HR2.out.lt
  clear hb hsh2 hL2 hm HT1 HB1 HR1 HCT L2
  go_wp2_with (at_make; refine wpList_make_full _ rfl _ _ _ rfl w2.heap.size 60 i0 (.agg #[.int .i64 0, .slice none 0 0, .slice none 0 0, .slice none 0 0]) 4 (by kernel_rfl) hi hz0 hz1 _ _ _ _ m rfl rfl rfl rfl (by rw [hz2]; omega) (by unfold maxLen; omega) (Nat.le_refl _) ?_)
  intro w3 hown hgrow
  rw [madeCells_pc] at hown
  have hrp := RowIs.of_owns hown
  have hb3 : Below w2.heap.size w2 w3 := (Below.refl _ _).grown hgrow (Nat.le_refl _) (by simp)
  obtain ⟨gp, hgp⟩ : ∃ gp, gp = w2.heap.size := ⟨_, rfl⟩
  rw [← hgp] at hrp ⊢
  have hgp3 : gp < w3.heap.size := hrp.lt
  have hbx : Below w3.heap.size w3 (w3.alloc (.cells #[.slice (some ⟨gp, 0, none⟩) m m] 57)) := (Below.refl _ _).alloc (Nat.le_refl _) _
  have HB3 := Lib.hid (below_more HB2.out hb3 HB2.out.size)
  have HR3 := Lib.hid ((HR2.out.after hb3).after hbx)
  have HT3 := Lib.hid ((HT2.out.mono (Nat.le_refl _) hb3).mono (Nat.le_refl _) hbx)
  have HP3 := Lib.hid (hrp.after hbx)
  have HX3 := Lib.hid (RowIs.made w3 57 [.slice (some ⟨gp, 0, none⟩) m m])
  have HGP := Lib.hid hgp
  have hgo3 : go < gp := by omega
  have hgw : w.heap.size ≤ gp := by have := HB2.out.size; omega
  clear hown hgrow hrp hb3 hbx hi hz0 hz1 hz2 hgp HB2 HR2 HT2 hgo2
  go_wp2_with fail
  refine (HSP.out _ HT3.out).mono ?_
  rintro e w4 ⟨ao, cap, rfl, hown4, hb4⟩
  have hsz4 : w3.heap.size + 1 ≤ w4.heap.size := by have := hb4.size; simpa using this
  have HB4 := Lib.hid (below_more (HB3.out.alloc HB3.out.size (.cells #[.slice (some ⟨gp, 0, none⟩) m m] 57)) hb4 (by have := HB3.out.size; simp; omega))
  have hbx : Below w4.heap.size w4 (w4.alloc (.cells #[.int .i64 N, .slice ao n cap] 24)) := (Below.refl _ _).alloc (Nat.le_refl _) _
  have HR4 := Lib.hid ((HR3.out.after hb4).after hbx)
  have HP4 := Lib.hid ((HP3.out.after hb4).after hbx)
  have HX4 := Lib.hid ((HX3.out.after hb4).after hbx)
  have HS4 := Lib.hid (RowIs.made w4 24 [.int .i64 N, .slice ao n cap])
  have HO4 := Lib.hid (owns_base (owns_below hown4 hbx) (base' := w3.heap.size + 1) (by simp))
  have HB5 := Lib.hid (HB4.out.alloc HB4.out.size (.cells #[.int .i64 N, .slice ao n cap] 24))
  clear hown4 hb4 hbx HR3 HP3 HX3 HT3 HB3 HB4
  go_upto_region 5 with fail
  go_wp2
  obtain ⟨bp, hbp⟩ : ∃ bp, bp = w3.heap.size := ⟨_, rfl⟩
  obtain ⟨sp, hsp⟩ : ∃ sp, sp = w4.heap.size := ⟨_, rfl⟩
  obtain ⟨W0, hW0⟩ : ∃ W0, W0 = w4.alloc (.cells #[.int .i64 N, .slice ao n cap] 24) := ⟨_, rfl⟩
  have hs0 : W0.heap.size = sp + 1 := by rw [hW0, hsp]; simp
  rw [← hW0] at HR4 HP4 HX4 HS4 HO4 HB5 ⊢
  rw [← hbp] at HX4 HO4 hsz4 hgp3 ⊢
  rw [← hsp] at HS4 hsz4 ⊢
  have HLK := Lib.hid (fun k (hk : k < n) => (⟨HSH.out.nonneg k hk, by have := cnt_lt L n k hk; have := HM.out; omega⟩ : 0 ≤ L k ∧ L k < m))
  have hbase : W0.heap.size = sp + 1 := hs0
  obtain ⟨B0, hB0⟩ : ∃ B0, B0 = W0.heap.size := ⟨_, rfl⟩
  have hB0s : B0 = sp + 1 := by omega
  have HB0 := Lib.hid hB0
  clear hbp hsp hW0 hs0 hbase hB0
  have h9 : go < B0 ∧ gp < B0 ∧ bp < B0 ∧ sp < B0 ∧ gp < bp ∧ gp < sp ∧ go < gp := by omega
  clear hB0s hsz4
  go_loopw [28] (fun i ws => ∃ (k : Nat) (f : Nat → Nat → Value), k ≤ n ∧ i = .int .i64 k ∧ RowIs ws gp 60 (pc f m) ∧ Fam ws B0 (fun j => f j 3) (ofShell L k) ∧ But B0 gp W0 ws ∧ ∀ j c, c ≠ 3 → f j c = zpart j c) (fun i _ => n - (intOf i).toNat)
  case atStart => exact ⟨0, zpart, by omega, rfl, HP4.out, Fam.nil _ _, But.refl _ _ _, fun _ _ _ => rfl⟩
  case round =>
    obtain ⟨k, f, hk, rfl, hrp, hfam, hbut, hz⟩ := hrel
    obtain ⟨W1, rfl⟩ : ∃ W1 : World, W1 = wr := ⟨_, rfl⟩
    have HRP := Lib.hid hrp
    have HFA := Lib.hid hfam
    have HBU := Lib.hid hbut
    have HZ := Lib.hid hz
    have HGO := Lib.hid (hbut.row HR4.out h9.1 (by omega))
    have HXX := Lib.hid (hbut.row HX4.out h9.2.2.1 (by omega))
    clear hrp hfam hbut hz
    by_cases hlt : k < n
    · have c0 := HGO.out.cell (iv_get L hlt)
      obtain ⟨q0, q1⟩ := HLK.out k hlt
      obtain ⟨kk, hkk⟩ := Int.eq_ofNat_of_zero_le q0
      rw [hkk] at c0 q1
      have HKK := Lib.hid hkk
      have hkm : kk < m := by omega
      clear hkk q0 q1
      go_wp2_with fail
      refine (gather_any W1 bp gp m kk k B0 f (ofShell L k) (HXX.out.cell (i := 0) rfl) (by omega) hkm (by omega) HRP.out HFA.out (by have := ofShell_length L k kk; omega) h9.2.2.2.2.1 h9.2.2.1 (by have := HBU.out.size; have := HB0.out; omega)).mono ?_
      rintro e w6 ⟨v', rfl, hr6, hf6, hb6⟩
      have HR6 := Lib.hid hr6
      have HF6 := Lib.hid hf6
      have HB6 := Lib.hid (HBU.out.trans hb6)
      have HEE := Lib.hid (show (fun j => if j = kk then ofShell L k kk ++ [k] else ofShell L k j) = ofShell L (k + 1) from by
        funext j
        rw [ofShell_succ, HKK.out]
        by_cases e : j = kk
        · subst e; simp
        · have : ¬ ((kk : Int) = (j : Int)) := by omega
          simp [e, this])
      clear hr6 hf6 hb6 c0
      go_wp2
      go_roundw
      case rel => exact ⟨k + 1, _, by omega, by go_num, HR6.out, by rw [← HEE.out]; exact HF6.out, HB6.out, fun j c hc => by rw [up2_other _ _ _ _ _ _ hc]; exact HZ.out j c hc⟩
      case measure => simp [intOf]; omega
    · obtain rfl : k = n := by omega
      have cx := HXX.out.cell (i := 0) rfl
      have HTJ := Lib.hid (show ∀ j, ∃ aoT cT, f j 3 = .slice aoT (ofShell L k j).length cT ∧ IntsAt W1 aoT (ei (ofShell L k j)) ∧ Off aoT gp from fun j => owns_ints (xs := ei (ofShell L k j)) (by rw [ei_cells]; exact HFA.out.1 j) (by simp [ei]) h9.2.1)
      have HTR := Lib.hid (show TrisAt W1 ao T ∧ Off ao gp from by
        have hl := HN.out
        have ho := owns_tri_off (T := T) HO4.out (gp := gp) (by omega)
        have h4 := HO4.out
        rw [hl] at h4
        obtain ⟨a', c', e, ht⟩ := owns_tris h4
        cases e
        exact ⟨ht.but (Nat.le_of_eq HB0.out.symm) HBU.out ho, ho⟩)
      have HSS := Lib.hid (HBU.out.row HS4.out h9.2.2.2.1 (by omega))
      have HBB := Lib.hid (show Below w.heap.size w W1 from HB5.out.trans (HBU.out.below (by have := HB0.out; have := HB5.out.size; omega) hgw))
      have h8 : gp < W1.heap.size ∧ bp < W1.heap.size ∧ sp < W1.heap.size := ⟨HRP.out.lt, HXX.out.lt, HSS.out.lt⟩
      have HZ0 := Lib.hid (show ∀ j c, c ≠ 3 → f j c = zpart j c from HZ.out)
      clear HFA HO4 HS4 HX4 HP4 HR4 HGO HTB HLK HSP HONE HZ
      go_wp2
      clear cx
      go_loopw [40] (fun i ws => ∃ (j : Nat) (f2 : Nat → Nat → Value), j ≤ m ∧ i = .int .i64 j ∧ RowIs ws gp 60 (pc f2 m) ∧ But W1.heap.size gp W1 ws ∧ (∀ q, f2 q 3 = f q 3) ∧ (∀ q c, j ≤ q → c ≠ 3 → f2 q c = zpart q c) ∧ ∀ q, q < j → PartOk ws gp (f2 q) (partOf T L k q)) (fun i _ => m - (intOf i).toNat)
      case atStart => exact ⟨0, f, by omega, rfl, HRP.out, But.refl _ _ _, fun _ => rfl, fun q c _ hc => HZ0.out q c hc, fun q hq => by omega⟩
      case round =>
        obtain ⟨j, f2, hj, rfl, hr2, hb2, hf3, hz2, hdone⟩ := hrel
        obtain ⟨W2, rfl⟩ : ∃ W2 : World, W2 = wr := ⟨_, rfl⟩
        have HR2 := Lib.hid hr2
        have HB2 := Lib.hid hb2
        have HF3 := Lib.hid hf3
        have HZ2 := Lib.hid hz2
        have HDN := Lib.hid hdone
        have HX2 := Lib.hid (hb2.row HXX.out h8.2.1 (by omega))
        have HS2 := Lib.hid (hb2.row HSS.out h8.2.2 (by omega))
        have hb2s := hb2.size
        clear hr2 hb2 hf3 hz2 hdone
        have cx := HX2.out.cell (i := 0) rfl
        by_cases hjm : j < m
        · obtain ⟨aoT, cT, ht3, hti, hto⟩ := HTJ.out j
          have c3 := HR2.out.cell (pc_get f2 hjm (c := 3) (by omega))
          rw [HF3.out, ht3] at c3
          have HTI := Lib.hid (hti.but (Nat.le_refl _) HB2.out hto)
          have HT3 := Lib.hid ht3
          have HTO := Lib.hid hto
          obtain ⟨e, he⟩ : ∃ e, e = (ofShell L k j).length := ⟨_, rfl⟩
          rw [← he] at c3 HT3
          have HE := Lib.hid he
          have hen : e ≤ k := by rw [he]; exact ofShell_length L k j
          clear ht3 hti hto he
          have HT4 := Lib.hid (HTR.out.1.but (Nat.le_refl _) HB2.out HTR.out.2)
          have HP2 := Lib.hid (show up2 f2 j 2 (.slice none 0 0) = f2 from up2_self _ _ _ _ (by rw [HZ2.out j 2 (Nat.le_refl _) (by decide)]; rfl))
          have hgs : gp < W2.heap.size ∧ sp < W2.heap.size := ⟨HR2.out.lt, HS2.out.lt⟩
          go_wp2
          clear cx c3
          go_loopw [51] (fun i ws => ∃ (l : Nat) (v : Value), l ≤ e ∧ i = .int .i64 l ∧ RowIs ws gp 60 (pc (up2 f2 j 2 v) m) ∧ ws.ownsRow W2.heap.size 3 1 v (3 * l) ((vall T (ofShell L k j) l).map (Value.int .i64)) ∧ But W2.heap.size gp W2 ws) (fun i _ => e - (intOf i).toNat)
          case atStart => exact ⟨0, .slice none 0 0, by omega, rfl, by rw [HP2.out]; exact HR2.out, World.ownsRow_nil _ _ _ _, But.refl _ _ _⟩
          case round =>
            obtain ⟨l, v, hl, rfl, hr3, ho3, hb3⟩ := hrel
            obtain ⟨W3, rfl⟩ : ∃ W3 : World, W3 = wr := ⟨_, rfl⟩
            have HR3 := Lib.hid hr3
            have HO3 := Lib.hid ho3
            have HB3 := Lib.hid hb3
            have hb3s := hb3.size
            by_cases hle : l < e
            · obtain ⟨i, hi⟩ : ∃ i, (ofShell L k j)[l]? = some i := ⟨_, List.getElem?_eq_getElem (by have := HE.out; omega)⟩
              have hik : i < k := (ofShell_lt (List.mem_of_getElem? hi)).1
              obtain ⟨tb, toff, tx, rfl, htx, htc, htl, htl'⟩ := (HTI.out).get (Nat.le_refl _) (Below.refl _ _) (i := l) (by simp [ei]; have := HE.out; omega)
              have htv : tx = (i : Int) := by
                rw [← htx.out]
                simp [I!, ei, hi]
              subst htv
              have htb : tb ≠ gp := HTO.out _ rfl
              have ct := (hb3.cell (i := toff + l) htl htb).trans htc
              have cs := (hb3.row HS2.out hgs.2 (by omega)).cell (i := 1) rfl
              have cv := hr3.cell (pc_get (up2 f2 j 2 v) hjm (c := 2) (by omega))
              rw [up2_same] at cv
              have fv := hr3.free (j * 4 + 2)
              obtain ⟨sb, soff, sx, sy, sz, rfl, hst, s0, s1, s2, hsl, hsl'⟩ := HT4.out.get (Nat.le_refl _) (Below.refl _ _) (i := i) (by have := HN.out; omega)
              have hsb : sb ≠ gp := HTR.out.2 _ rfl
              have HS0 := Lib.hid ((hb3.cell (i := soff + i * 3) hsl hsb).trans s0)
              have HS1 := Lib.hid ((hb3.cell (i := soff + i * 3 + 1) hsl hsb).trans s1)
              have HS3 := Lib.hid ((hb3.cell (i := soff + i * 3 + 2) hsl hsb).trans s2)
              have HVA := Lib.hid (vall_succ T _ l i hi)
              have HST := Lib.hid hst.out
              clear hr3 ho3 hb3 hi s0 s1 s2 hst htc htx
              have HNW := Lib.hid (news3 HS0.out HS1.out HS3.out)
              have HNE := Lib.hid (show some gp ≠ v.ownBlock from fun q => by have := (HO3.out.lt gp q.symm).1; omega)
              have h3l : 3 * l ≤ 30000 := by omega
              go_upto_region 17 with fail
              go_region_law ((refine step_append_lies _ (by rfl) _ _ _ (by rfl) W2.heap.size 3 i3 (.int .i64 0) 1 8 (by kernel_rfl) hi3 hy0 hy1 hy2 rfl (by decide) v (3 * l) ((vall T (ofShell L k j) l).map (Value.int .i64)) (by rfl) HO3.out ⟨sb, soff + i * 3, none⟩ 3 3 [.int .i64 sx, .int .i64 sy, .int .i64 sz] (by rfl) rfl HNW.out (by intro u hu; simp at hu; rcases hu with rfl | rfl | rfl <;> rfl) (by omega) (by unfold maxLen; omega) (by omega) (by exact hb3s) W3.heap.size (by rfl) ?_; intro g cap2 w1 hown hgrow hat hlt2; have HR1 := Lib.hid (show RowIs w1 gp 60 (pc (up2 f2 j 2 v) m) from RowIs.grown (by first | exact HR3.out | exact RowIs.drew1 HR3.out) hgrow HNE.out); have d3 := HR1.out.cell (pc_get (up2 f2 j 2 v) hjm (c := 2) (by omega)); have d4 := HR1.out.free (j * 4 + 2)))
              all_goals
                go_wp2_with fail
                obtain ⟨r1, r2, r3⟩ := back_end (X := _) (k := j) (c := 2) (by omega) (by first | exact HB3.out | exact HB3.out.more (Below.refl _ _).drew hb3s) (by exact hb3s) (fun q hq => (HO3.out.lt q hq).1) hown hgrow HR1.out hgs.1
                have HR2' := Lib.hid r1
                have HO2' := Lib.hid (show (w1.setCell ⟨gp, j * 4 + 2, none⟩ (.slice (some ⟨g, 0, none⟩) (3 * l + 3) cap2)).ownsRow W2.heap.size 3 1 (.slice (some ⟨g, 0, none⟩) (3 * l + 3) cap2) (3 * (l + 1)) ((vall T (ofShell L k j) (l + 1)).map (Value.int .i64)) from by
                  rw [HVA.out, HST.out, List.map_append]; exact r2)
                have HB2' := Lib.hid r3
                clear r1 r2 r3 hown hgrow hat d3 d4
                go_roundw
                case rel => exact ⟨l + 1, _, by omega, by go_num, HR2'.out, HO2'.out, HB2'.out⟩
                case measure => simp [intOf]; omega
            · obtain rfl : l = e := by omega
              have he0 : 0 < l := by rw [HE.out]; exact shell_some HSH.out (by have := HM.out; omega)
              have cv := hr3.cell (pc_get (up2 f2 j 2 v) hjm (c := 2) (by omega))
              rw [up2_same] at cv
              have HVL := Lib.hid (vall_length T (ofShell L k j) l (by have := HE.out; omega))
              have HSRT := Lib.hid (sort_own ho3 HVL.out.symm (by omega) (by omega))
              have HNE := Lib.hid (show some gp ≠ v.ownBlock from fun q => by have := (HO3.out.lt gp q.symm).1; omega)
              obtain ⟨zs, hzs⟩ : ∃ zs, zs = vall T (ofShell L k j) l := ⟨_, rfl⟩
              rw [← hzs] at HVL HSRT
              have HZS := Lib.hid (show vertsP T (ofShell L k j) = uniq zs from by rw [hzs, HE.out]; exact vall_all _ _)
              have hzl : 3 * l = (zs.mergeSort fun x y => decide (x ≤ y)).length := by rw [List.length_mergeSort]; exact HVL.out.symm
              have HZL := Lib.hid hzl
              clear hr3 ho3 hb3 hzs hzl
              go_wp2_with fail
              refine HSRT.out.mono ?_
              rintro r5 w5 ⟨rfl, ho5, hg5⟩
              have HR5 := Lib.hid (HR3.out.grown hg5 HNE.out)
              have hb5 := HB3.out.grown hg5 hb3s (fun q hq => .inl (HO3.out.lt q hq).1)
              have hb5s := hb5.size
              have HB5' := Lib.hid hb5
              have cv5 := HR5.out.cell (pc_get (up2 f2 j 2 v) hjm (c := 2) (by omega))
              rw [up2_same] at cv5
              have HCP := Lib.hid (compact_own ho5 HZL.out (by omega))
              clear hg5 hb5 ho5 cv HSRT
              go_wp2_with fail
              refine HCP.out.mono ?_
              rintro r6 w6 ⟨gc, cc, rfl, hcc, hg6⟩
              have HR6 := Lib.hid (HR5.out.grown hg6 HNE.out)
              have hb6 := HB5'.out.grown hg6 hb5s (fun q hq => .inl (HO3.out.lt q hq).1)
              have hb6s := hb6.size
              have HB6 := Lib.hid hb6
              have hul : (uniq zs).length ≤ 30000 := by have := uniq_length zs; have := HVL.out; omega
              obtain ⟨U, hU⟩ : ∃ U, U = uniq zs := ⟨_, rfl⟩
              have hU' : Lib.compact (zs.mergeSort fun x y => decide (x ≤ y)) = U := hU.symm
              rw [hU'] at hcc ⊢
              rw [← hU] at HZS hul
              have HUL := Lib.hid (show U.Pairwise (· < ·) from by rw [hU]; exact uniq_lt zs)
              have HUE := Lib.hid (show U ≠ [] from by
                rw [hU]
                intro e
                have hz : zs ≠ [] := by intro q; have := HVL.out; rw [q] at this; simp at this; omega
                obtain ⟨x, hx⟩ := List.exists_mem_of_ne_nil _ hz
                have := (uniq_mem zs x).2 hx
                rw [e] at this
                cases this)
              have HCL := Lib.hid (Tryz.slices_Clone_int gc 0 U.length cc U w6 (Nat.le_refl _) (by omega) hcc)
              obtain ⟨ul, hul2⟩ : ∃ ul, ul = U.length := ⟨_, rfl⟩
              rw [← hul2] at hul HCL ⊢
              have HUN := Lib.hid hul2
              clear hg6 hb6 hcc cv5 HCP hU hU' hul2
              go_wp2_with fail
              refine HCL.out.mono ?_
              rintro r7 w7 ⟨v7, rfl, ho7, -, hb7⟩
              have HR7 := Lib.hid (HR6.out.after hb7)
              have HB7 := Lib.hid (HB6.out.more hb7 (by omega))
              have hb7s := hb7.size
              obtain ⟨aoV, cV, rfl⟩ := owns_slice ho7
              have HO7 := Lib.hid ho7
              have c2 := HR7.out.cell (pc_get (up2 f2 j 2 v) hjm (c := 2) (by omega))
              have c0 := HR7.out.cell (pc_get (up2 f2 j 2 v) hjm (c := 0) (by omega))
              have c3 := HR7.out.cell (pc_get (up2 f2 j 2 v) hjm (c := 3) (by omega))
              rw [up2_same] at c2
              rw [up2_other _ _ _ _ _ _ (by decide)] at c0 c3
              rw [HF3.out, HT3.out] at c3
              have z0 := HR7.out.free (j * 4 + 2)
              have z1 := HR7.out.free (j * 4 + 0)
              rw [Nat.add_zero] at c0 z1
              have hg6 : gp < w6.heap.size := HR6.out.lt
              have hr8 := (HR7.out.set (j * 4 + 2) (.slice aoV ul cV)).set (j * 4 + 0) (.int .i64 (ul : Int))
              rw [pc_set _ m j 2 (by omega), up2_twice, pc_set _ m j 0 (by omega)] at hr8
              replace hr8 : RowIs ((w7.setCell ⟨gp, j * 4 + 2, none⟩ (.slice aoV ul cV)).setCell ⟨gp, j * 4, none⟩ (.int .i64 (ul : Int))) gp 60 (pc (up2 (up2 f2 j 2 (.slice aoV ul cV)) j 0 (.int .i64 (ul : Int))) m) := hr8
              have hb8 := (HB7.out.grown (grown_set w7 gp (j * 4 + 2) (.slice aoV ul cV)) (by omega) fun q hq => .inr (Option.some.inj hq).symm).grown (grown_set _ gp (j * 4) (.int .i64 (ul : Int))) (by simp [World.setCell]; omega) fun q hq => .inr (Option.some.inj hq).symm
              have ho8 := own_keep (own_keep HO7.out hg6 (i := j * 4 + 2) (.slice aoV ul cV)) hg6 (i := j * 4) (.int .i64 (ul : Int))
              rw [HUN.out, List.take_length] at ho8
              obtain ⟨aoV', cV', eV, hiV, hoV⟩ := owns_ints ho8 rfl hg6
              rw [← HUN.out] at eV hiV
              cases eV
              obtain ⟨W4, hW4⟩ : ∃ W4, W4 = (w7.setCell ⟨gp, j * 4 + 2, none⟩ (.slice aoV ul cV)).setCell ⟨gp, j * 4, none⟩ (.int .i64 (ul : Int)) := ⟨_, rfl⟩
              rw [← hW4] at hr8 hb8 hiV
              obtain ⟨f4, hf4⟩ : ∃ f4, f4 = up2 (up2 f2 j 2 (.slice aoV ul cV)) j 0 (.int .i64 (ul : Int)) := ⟨_, rfl⟩
              rw [← hf4] at hr8
              have HF4 := Lib.hid hf4
              have HR8 := Lib.hid hr8
              have HB8 := Lib.hid hb8
              have HIV := Lib.hid hiV
              have HOV := Lib.hid hoV
              have HI8 := Lib.hid (HTI.out.but (Nat.le_refl _) hb8 HTO.out)
              have HT8 := Lib.hid (HT4.out.but (Nat.le_refl _) hb8 HTR.out.2)
              have HS8 := Lib.hid (hb8.row HS2.out hgs.2 (by omega))
              have HP8 := Lib.hid (show up2 f4 j 1 (.slice none 0 0) = f4 from up2_self _ _ _ _ (by rw [hf4, up2_other _ _ _ _ _ _ (by decide), up2_other _ _ _ _ _ _ (by decide), HZ2.out j 1 (Nat.le_refl _) (by decide)]; rfl))
              have HV8 := Lib.hid (show f4 j 2 = .slice aoV ul cV from by rw [hf4, up2_other _ _ _ _ _ _ (by decide), up2_same])
              have hgs8 : gp < W4.heap.size ∧ sp < W4.heap.size := ⟨HR8.out.lt, HS8.out.lt⟩
              clear ho7 hb7 HCL hr8 hb8 ho8 hiV hoV hf4
              go_wp2
              rw [← hW4]
              clear hW4 c0 c2 c3 z0 z1
              go_loopw [97] (fun i ws => ∃ (q : Nat) (v : Value), q ≤ l ∧ i = .int .i64 q ∧ RowIs ws gp 60 (pc (up2 f4 j 1 v) m) ∧ ws.ownsRow W4.heap.size 62 3 v q (tcells (sall T U (ofShell L k j) q)) ∧ But W4.heap.size gp W4 ws) (fun i _ => l - (intOf i).toNat)
              case atStart => exact ⟨0, .slice none 0 0, by omega, rfl, by rw [HP8.out]; exact HR8.out, World.ownsRow_nil _ _ _ _, But.refl _ _ _⟩
              case round =>
                obtain ⟨q, u, hq, rfl, hr9, ho9, hb9⟩ := hrel
                obtain ⟨W5, rfl⟩ : ∃ W5 : World, W5 = wr := ⟨_, rfl⟩
                have HR9 := Lib.hid hr9
                have HO9 := Lib.hid ho9
                have HB9 := Lib.hid hb9
                have hb9s := hb9.size
                by_cases hql : q < l
                · obtain ⟨i, hi⟩ : ∃ i, (ofShell L k j)[q]? = some i := ⟨_, List.getElem?_eq_getElem (by have := HE.out; omega)⟩
                  have hik : i < k := (ofShell_lt (List.mem_of_getElem? hi)).1
                  obtain ⟨tb, toff, tx, rfl, htx, htc, htl, htl'⟩ := (HI8.out).get (Nat.le_refl _) (Below.refl _ _) (i := q) (by simp [ei]; have := HE.out; omega)
                  have htv : tx = (i : Int) := by
                    rw [← htx.out]
                    simp [I!, ei, hi]
                  subst htv
                  have htb : tb ≠ gp := HTO.out _ rfl
                  have ct := (hb9.cell (i := toff + q) htl htb).trans htc
                  have cs := (hb9.row HS8.out hgs8.2 (by omega)).cell (i := 1) rfl
                  obtain ⟨sb, soff, sx, sy, sz, rfl, hst, s0, s1, s2, hsl, hsl'⟩ := HT8.out.get (Nat.le_refl _) (Below.refl _ _) (i := i) (by have := HN.out; omega)
                  have hsb : sb ≠ gp := HTR.out.2 _ rfl
                  have d0 := (hb9.cell (i := soff + i * 3) hsl hsb).trans s0
                  have d1 := (hb9.cell (i := soff + i * 3 + 1) hsl hsb).trans s1
                  have d2 := (hb9.cell (i := soff + i * 3 + 2) hsl hsb).trans s2
                  have HSA := Lib.hid (sall_succ T U _ q i hi)
                  have HST := Lib.hid hst.out
                  clear hr9 ho9 hb9 hi s0 s1 s2 hst htc htx
                  have hal : ∀ o (bb oo : Nat) (x : Value), bb < W5.heap.size → W5.cell? ⟨bb, oo, none⟩ = some x → (W5.alloc o).cell? ⟨bb, oo, none⟩ = some x := fun o bb oo x h1 h2 => (((Below.refl _ _).alloc (Nat.le_refl W5.heap.size) o).cell (p := ⟨bb, oo, none⟩) h1).trans h2
                  have cs' := fun o => hal o _ _ _ (by omega) cs
                  have d0' := fun o => hal o _ _ _ (by omega) d0
                  have d1' := fun o => hal o _ _ _ (by omega) d1
                  have d2' := fun o => hal o _ _ _ (by omega) d2
                  have HZ5 := Lib.hid (RowIs.made W5 62 (iv (fun _ => 0) 3))
                  clear hal
                  go_wp2
                  clear ct cs d0 d1 d2 cs' d0' d1' d2'
                  obtain ⟨W6, hW6⟩ : ∃ W6, W6 = W5.alloc (.cells #[.int .i64 0, .int .i64 0, .int .i64 0] 62) := ⟨_, rfl⟩
                  have HA6 := Lib.hid (show Below W5.heap.size W5 W6 from by rw [hW6]; exact (Below.refl _ _).alloc (Nat.le_refl _) _)
                  have HZ6 := Lib.hid (show RowIs W6 W5.heap.size 62 (iv (fun _ => 0) 3) from by rw [hW6]; exact HZ5.out)
                  rw [← hW6]
                  clear hW6 HZ5
                  obtain ⟨xb, hxb⟩ : ∃ xb, xb = W5.heap.size := ⟨_, rfl⟩
                  rw [← hxb] at HZ6 HA6 ⊢
                  have HXB := Lib.hid hxb
                  have hxg : gp < xb := by omega
                  clear hxb
                  go_loopw [106] (fun ii ws => ∃ (c : Nat), c ≤ 3 ∧ ii = .int .i64 c ∧ RowIs ws xb 62 (iv (fun d => if d < c then rank U (tg (sx, sy, sz) d) else 0) 3) ∧ Below xb W6 ws) (fun i _ => 3 - (intOf i).toNat)
                  case atStart => exact ⟨0, by omega, rfl, by simpa using HZ6.out, Below.refl _ _⟩
                  case round =>
                    obtain ⟨c, hc, rfl, hr7, hb7⟩ := hrel
                    obtain ⟨W7, rfl⟩ : ∃ W7 : World, W7 = wr := ⟨_, rfl⟩
                    have HRC := Lib.hid hr7
                    have HBC := Lib.hid hb7
                    have hgc : W7.cell? ⟨gp, j * 4 + 2, none⟩ = some (.slice aoV ul cV) := by
                      refine (hb7.cell (p := ⟨gp, _, none⟩) hxg).trans ((HA6.out.cell (p := ⟨gp, _, none⟩) hxg).trans ?_)
                      rw [HR9.out.cell (pc_get _ hjm (c := 2) (by omega)), up2_other _ _ _ _ _ _ (by decide), HV8.out]
                    have hgr := fun o => hb7.cell (p := ⟨gp, o, none⟩) hxg
                    by_cases hc3 : c < 3
                    · have hix := index_tri sx sy sz c hc3
                      have c7 := hr7.cell (iv_get _ hc3)
                      have z7 := hr7.free c
                      obtain ⟨vb, voff, eV, hvlt, hvc⟩ := HIV.out HUE.out
                      have hvg : vb ≠ gp := HOV.out _ eV
                      have hvW : ∀ jj, jj < U.length → W7.cell? ⟨vb, voff + jj, none⟩ = some (.int .i64 (U.getD jj 0)) := fun jj hjj =>
                        (hb7.cell (p := ⟨vb, _, none⟩) (show vb < xb by have := HXB.out; omega)).trans ((HA6.out.cell (p := ⟨vb, _, none⟩) (show vb < xb by have := HXB.out; omega)).trans ((HB9.out.cell hvlt hvg).trans (hvc jj hjj)))
                      have HBS := Lib.hid (fun x => Tryz.slices_BinarySearch_int vb voff ul cV U x W7 (by have := HUN.out; omega) (by omega) hvW (by rw [HUN.out, List.take_length]; exact HUL.out.imp Int.le_of_lt))
                      subst eV
                      clear hr7 hb7 hgr hvW hvc
                      go_wp2_with fail
                      refine (HBS.out _).mono ?_
                      rintro r8 w8 ⟨rfl, dq, rfl⟩
                      rw [show List.take ul U = U from by rw [HUN.out, List.take_length]]
                      have HR8' := Lib.hid ((HRC.out.drew dq).set c (.int .i64 (rank U (tg (sx, sy, sz) c))))
                      rw [iv_set] at HR8'
                      have HB8' := Lib.hid ((HBC.out.trans (show Below xb W7 (W7.drewN dq) from ⟨rfl, rfl, rfl, Nat.le_refl _, fun _ _ => rfl⟩)).setCell (p := ⟨xb, c, none⟩) (Nat.le_refl _) (.int .i64 (rank U (tg (sx, sy, sz) c))))
                      have HII := Lib.hid (show iv (fun d => if d < c + 1 then rank U (tg (sx, sy, sz) d) else 0) 3 = iv (upd (fun d => if d < c then rank U (tg (sx, sy, sz) d) else 0) c (rank U (tg (sx, sy, sz) c))) 3 from iv_congr fun d _ => by
                        unfold upd
                        by_cases e : d = c
                        · subst e; simp
                        · simp [e, show (d < c + 1) = (d < c) from by simp; omega])
                      go_wp2
                      go_roundw
                      case rel => exact ⟨c + 1, by omega, by go_num, by rw [HII.out]; exact HR8'.out, HB8'.out⟩
                      case measure => simp [intOf]; omega
                    · obtain rfl : c = 3 := by omega
                      have x0 : W7.cell? ⟨xb, 0, none⟩ = some (.int .i64 (rank U sx)) := hr7.cell (i := 0) rfl
                      have x1 : W7.cell? ⟨xb, 1, none⟩ = some (.int .i64 (rank U sy)) := hr7.cell (i := 1) rfl
                      have x2 : W7.cell? ⟨xb, 2, none⟩ = some (.int .i64 (rank U sz)) := hr7.cell (i := 2) rfl
                      have hb57 : Below W5.heap.size W5 W7 := by
                        have := HA6.out.trans hb7
                        rwa [HXB.out] at this
                      have HSA2 := Lib.hid (show tcells (sall T U (ofShell L k j) (q + 1)) = tcells (sall T U (ofShell L k j) q) ++ [.int .i64 (rank U sx), .int .i64 (rank U sy), .int .i64 (rank U sz)] from by
                        rw [HSA.out, HST.out, tcells_snoc]; rfl)
                      obtain ⟨rx, hrx⟩ : ∃ r, r = rank U sx := ⟨_, rfl⟩
                      obtain ⟨ry, hry⟩ : ∃ r, r = rank U sy := ⟨_, rfl⟩
                      obtain ⟨rz, hrz⟩ : ∃ r, r = rank U sz := ⟨_, rfl⟩
                      rw [← hrx] at x0 HSA2
                      rw [← hry] at x1 HSA2
                      rw [← hrz] at x2 HSA2
                      have HRA := Lib.hid (HR9.out.after hb57)
                      have HOA := Lib.hid (owns_below HO9.out hb57)
                      have hbA := HB9.out.more hb57 hb9s
                      have hbAs := hbA.size
                      have HBA := Lib.hid hbA
                      have d1 := HRA.out.cell (pc_get (up2 f4 j 1 u) hjm (c := 1) (by omega))
                      rw [up2_same] at d1
                      have z1 := HRA.out.free (j * 4 + 1)
                      have d1' : ∀ o, (W7.alloc o).cell? ⟨gp, j * 4 + 1, none⟩ = some u := fun o => (((Below.refl _ _).alloc (Nat.le_refl W7.heap.size) o).cell (p := ⟨gp, j * 4 + 1, none⟩) (show gp < W7.heap.size by omega)).trans d1
                      have HNE := Lib.hid (show some gp ≠ u.ownBlock from fun q => by have := (HOA.out.lt gp q.symm).1; omega)
                      have hql3 : q ≤ 30000 := by omega
                      clear hr7 hb7 hb57 hbA hrx hry hrz hgr hgc
                      go_upto_region 31 with fail
                      go_region_law ((refine step_append_lies _ (by rfl) _ _ _ (by rfl) W4.heap.size 62 i4 (.agg #[.int .i64 0, .int .i64 0, .int .i64 0]) 3 24 (by kernel_rfl) hi4 hx0 hx1 hx2 rfl (by decide) u q (tcells (sall T U (ofShell L k j) q)) (by rfl) (HOA.out.alloc _) ⟨W7.heap.size, 0, none⟩ 1 1 [.int .i64 rx, .int .i64 ry, .int .i64 rz] (by rfl) rfl (World.news_of_block (heap_alloc_new W7 _)) (by intro u hu; simp at hu; rcases hu with rfl | rfl | rfl <;> rfl) (by omega) (by unfold maxLen; omega) (by omega) (by simp; omega) (W7.heap.size + 1) (by simp) ?_; intro g cap2 w1 hown hgrow hat hlt2; have HR1 := Lib.hid (show RowIs w1 gp 60 (pc (up2 f4 j 1 u) m) from RowIs.grown (by first | exact HRA.out.alloc _ | exact RowIs.drew1 (HRA.out.alloc _)) hgrow HNE.out); have d3 := HR1.out.cell (pc_get (up2 f4 j 1 u) hjm (c := 1) (by omega)); have d4 := HR1.out.free (j * 4 + 1)))
                      all_goals
                        go_wp2_with fail
                        obtain ⟨r1, r2, r3⟩ := back_end (X := _) (k := j) (c := 1) (by omega) (by first | exact HBA.out.more ((Below.refl _ _).alloc (Nat.le_refl _) _) hbAs | exact HBA.out.more (((Below.refl _ _).alloc (Nat.le_refl _) _).drew) hbAs) (by simp; omega) (fun q hq => (HOA.out.lt q hq).1) hown hgrow HR1.out hgs8.1
                        have HR2' := Lib.hid r1
                        have HO2' := Lib.hid (show (w1.setCell ⟨gp, j * 4 + 1, none⟩ (.slice (some ⟨g, 0, none⟩) (q + 1) cap2)).ownsRow W4.heap.size 62 3 (.slice (some ⟨g, 0, none⟩) (q + 1) cap2) (q + 1) (tcells (sall T U (ofShell L k j) (q + 1))) from by
                          rw [HSA2.out]; exact r2)
                        have HB2' := Lib.hid r3
                        clear r1 r2 r3 hown hgrow hat d3 d4
                        go_roundw
                        case rel => exact ⟨q + 1, _, by omega, by go_num, HR2'.out, HO2'.out, HB2'.out⟩
                        case measure => simp [intOf]; omega
                · obtain rfl : q = l := by omega
                  have HRW := Lib.hid (fun d (hd : d ≠ j) => (funext fun c => by rw [up2_row _ _ _ _ _ _ hd, HF4.out, up2_row _ _ _ _ _ _ hd, up2_row _ _ _ _ _ _ hd] : up2 f4 j 1 u d = f2 d))
                  have HC3 := Lib.hid (fun d => (by rw [up2_other _ _ _ _ _ _ (by decide), HF4.out, up2_other _ _ _ _ _ _ (by decide), up2_other _ _ _ _ _ _ (by decide)] : up2 f4 j 1 u d 3 = f2 d 3))
                  have hb25 : But W2.heap.size gp W2 W5 := HB8.out.trans (HB9.out.less HB8.out.size)
                  have HPJ := Lib.hid (show PartOk W5 gp (up2 f4 j 1 u j) (partOf T L k j) from by
                    have hUE := HZS.out
                    have hsl : (sall T U (ofShell L k j) q).length = q := by have := HE.out; simp [sall]; omega
                    have ho := HO9.out
                    obtain ⟨aoS, cS, eS, hS⟩ := owns_tris (L := sall T U (ofShell L k j) q) (by rw [hsl]; exact ho)
                    have hoff : Off aoS gp := by subst eS; rw [hsl] at ho; exact owns_tri_off (T := T) ho hgs8.1
                    refine ⟨aoS, cS, aoV, cV, aoT, cT, ?_, ?_, ?_, ?_, ?_, ?_, ?_, hoff, HOV.out, HTO.out⟩
                    · rw [up2_other _ _ _ _ _ _ (by decide), HF4.out, up2_same]
                      show Value.int .i64 (ul : Int) = .int .i64 ((vertsP T (ofShell L k j)).length : Int)
                      rw [hUE, HUN.out]
                    · rw [up2_same, eS]
                      simp [partOf, sall, HE.out]
                    · rw [up2_other _ _ _ _ _ _ (by decide), HF4.out, up2_other _ _ _ _ _ _ (by decide), up2_same]
                      show Value.slice aoV ul cV = .slice aoV (vertsP T (ofShell L k j)).length cV
                      rw [hUE, HUN.out]
                    · rw [HC3.out, HF3.out, HT3.out]
                      simp [partOf, HE.out]
                    · have : (partOf T L k j).S = sall T U (ofShell L k j) q := by
                        simp only [partOf, sall, hUE]
                        rw [HE.out, List.take_length]
                      rw [this]; exact hS
                    · show IntsAt W5 aoV (vertsP T (ofShell L k j))
                      rw [hUE]
                      exact HIV.out.but (Nat.le_refl _) HB9.out HOV.out
                    · exact HI8.out.but (Nat.le_refl _) HB9.out HTO.out)
                  have HB25 := Lib.hid (HB2.out.trans (hb25.less hb2s))
                  have HDN2 := Lib.hid (show ∀ d, d < j + 1 → PartOk W5 gp (up2 f4 j 1 u d) (partOf T L k d) from fun d hd => by
                    by_cases e : d = j
                    · subst e; exact HPJ.out
                    · rw [HRW.out d e]; exact (HDN.out d (by omega)).but (Nat.le_refl _) hb25)
                  clear hb25
                  go_wp2
                  go_roundw
                  case rel => exact ⟨j + 1, _, by omega, by go_num, HR9.out, HB25.out, fun d => by rw [HC3.out]; exact HF3.out d, fun d c hd hc => by rw [HRW.out d (by omega)]; exact HZ2.out d c (by omega) hc, HDN2.out⟩
                  case measure => simp [intOf]; omega
        · obtain rfl : j = m := by omega
          have HBE := Lib.hid (show Below w.heap.size w W2 from HBB.out.trans (HB2.out.below HBB.out.size hgw))
          by_cases hm0 : j = 0
          · subst hm0
            go_wp2
            exact bodyPost_ret (v := .slice none 0 0) (by simp [results, Tryz.results26, go_sem]) rfl ⟨L, HSH.out, HBE.out, .inl ⟨by rw [HM.out]; rfl, rfl⟩⟩
          · have hm1 : ((j : Int) == 0) = false := by simp; omega
            have hmp : 0 < j := by omega
            go_wp2
            exact bodyPost_ret (v := .slice (some ⟨gp, 0, none⟩) j j) (by simp [results, Tryz.results26, go_sem]) rfl ⟨L, HSH.out, HBE.out, .inr ⟨gp, j, f2, HM.out.symm, hmp, rfl, hgw, HR2.out, HDN.out⟩⟩
/-- A part lies at an address. -/
def PartAt (w : World) (b o : Nat) (P : PartV) : Prop :=
  ∃ aoS cS aoV cV aoT cT, w.cell? ⟨b, o, none⟩ = some (.int .i64 P.N) ∧ w.cell? ⟨b, o + 1, none⟩ = some (.slice aoS P.S.length cS) ∧ w.cell? ⟨b, o + 2, none⟩ = some (.slice aoV P.V.length cV) ∧ w.cell? ⟨b, o + 3, none⟩ = some (.slice aoT P.T.length cT) ∧
    TrisAt w aoS P.S ∧ IntsAt w aoV P.V ∧ IntsAt w aoT P.T
theorem PartAt.mono {w w' : World} {b o : Nat} {P : PartV} (h : PartAt w b o P) (hb : Below w.heap.size w w') (hlt : b < w.heap.size) : PartAt w' b o P := by
  obtain ⟨aoS, cS, aoV, cV, aoT, cT, h0, h1, h2, h3, h4, h5, h6⟩ := h
  exact ⟨aoS, cS, aoV, cV, aoT, cT, (hb.cell (p := ⟨b, _, none⟩) hlt).trans h0, (hb.cell (p := ⟨b, _, none⟩) hlt).trans h1, (hb.cell (p := ⟨b, _, none⟩) hlt).trans h2, (hb.cell (p := ⟨b, _, none⟩) hlt).trans h3, h4.mono (Nat.le_refl _) hb, h5.mono (Nat.le_refl _) hb, h6.mono (Nat.le_refl _) hb⟩
/-- Parts lie one behind the other. -/
def PartsAt (w : World) (a : Option Addr) (P : Nat → PartV) (m : Nat) : Prop :=
  0 < m → ∃ b, a = some ⟨b, 0, none⟩ ∧ b < w.heap.size ∧ ∀ k, k < m → PartAt w b (k * 4) (P k)
theorem PartsAt.mono {w w' : World} {a : Option Addr} {P : Nat → PartV} {m : Nat} (h : PartsAt w a P m) (hb : Below w.heap.size w w') : PartsAt w' a P m := fun h0 => by
  obtain ⟨b, e, hlt, hk⟩ := h h0
  exact ⟨b, e, by have := hb.size; omega, fun k hk' => (hk k hk').mono hb hlt⟩
theorem PartsAt.congr {w : World} {a : Option Addr} {P Q : Nat → PartV} {m : Nat} (h : PartsAt w a P m) (e : ∀ k, k < m → P k = Q k) : PartsAt w a Q m := fun h0 => by
  obtain ⟨b, e', hlt, hk⟩ := h h0
  exact ⟨b, e', hlt, fun k hk' => by rw [← e k hk']; exact hk k hk'⟩
theorem partsAt_ok {w : World} {gp m : Nat} {f : Nat → Nat → Value} {P : Nat → PartV} {t : TypeId} (hr : RowIs w gp t (pc f m)) (h : ∀ k, k < m → PartOk w gp (f k) (P k)) : PartsAt w (some ⟨gp, 0, none⟩) P m := fun _ =>
  ⟨gp, rfl, hr.lt, fun k hk => by
    obtain ⟨aoS, cS, aoV, cV, aoT, cT, h0, h1, h2, h3, h4, h5, h6, -, -, -⟩ := h k hk
    exact ⟨aoS, cS, aoV, cV, aoT, cT, by rw [← h0]; exact hr.cell (pc_get f hk (c := 0) (by omega)), by rw [← h1]; exact hr.cell (pc_get f hk (c := 1) (by omega)), by rw [← h2]; exact hr.cell (pc_get f hk (c := 2) (by omega)),
      by rw [← h3]; exact hr.cell (pc_get f hk (c := 3) (by omega)), h4, h5, h6⟩⟩
theorem partOf_same {T : List Tr} {L M : Nat → Int} {n k : Nat} (h : ∀ i, i < n → L i = M i) : partOf T L n k = partOf T M n k := by
  have : ofShell L n k = ofShell M n k := by
    unfold ofShell
    refine List.filter_congr fun i hi => ?_
    rw [h i (List.mem_range.1 hi)]
  unfold partOf
  rw [this]
section
variable {N : Int} {T : List Tr} {L : Nat → Int} {m : Nat}
theorem split_L (hs : Surf N T) (hL : IsShells (Adj T) T.length L) (hm : (m : Int) = cnt L T.length) (w : World) (p : Nat) (h : Tab w p N T) :
    Calls Tryz.prog 26 #[.pointer (some ⟨p, 0, none⟩)] w fun e w' => ∃ a c, e = .returned (.slice a m c) ∧ PartsAt w' a (partOf T L T.length) m ∧ Below w.heap.size w w' :=
  (split_any w p N T h (fun i j _ _ h => hs.adj_symm h) (fun c h0 h1 => opp_lt c h0 h1) (fun i j h => (hs.adj_nb h).1)).mono fun e w' ⟨M, hM, hb, hc⟩ => by
    have he := hs.shells_one hL hM
    rw [← cnt_congr _ he] at hc
    rcases hc with ⟨h0, rfl⟩ | ⟨gp, m', f, h1, h2, rfl, -, hr, hk⟩
    · obtain rfl : m = 0 := by omega
      exact ⟨none, 0, rfl, fun h => by omega, hb⟩
    · obtain rfl : m' = m := by omega
      exact ⟨_, _, rfl, (partsAt_ok hr hk).congr fun k _ => (partOf_same he).symm, hb⟩
end
end Go.Proofs.YtbeefabboabfgaaGreat

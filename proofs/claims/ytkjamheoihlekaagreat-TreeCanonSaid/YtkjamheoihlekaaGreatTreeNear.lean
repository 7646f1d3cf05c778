/- tree.Paths: of each vertex its neighbours, as a map of rows that grow. tree.Paths: what its first loop has laid. tree.Paths: what it comes to; its start. tree.Paths: the rows that have been found; slices.SortFunc of rows. tree.Paths: its state in the passes over all vertices. tree.Paths: between its first loop and its passes. -/
import Derived.Test.YtkjamheoihlekaaGreatTreeWalk
import Derived.Deep.AppendLies
import Derived.Test.YtkjamheoihlekaaGreatKeysI
import Derived.Test.YtkjamheoihlekaaGreatTreeOrder
import Derived.Test.YtkjamheoihlekaaGreatSortELay
import Derived.Test.YtkjamheoihlekaaGreatPathLaw
namespace Go.Proofs.YtkjamheoihlekaaGreat
set_option linter.unusedVariables false
set_option linter.unusedSimpArgs false
open Go.RowKit Go.Maps
/-- Each value owns its own row. -/
def FamI (w : World) (base : Nat) (A : Int → Value) (L : Int → List Int) : Prop :=
  (∀ i, w.ownsRow base 3 1 (A i) (L i).length (ic (L i))) ∧ ∀ i j, i ≠ j → Apart (A i) (A j)
theorem FamI.more {w w' : World} {base : Nat} {A : Int → Value} {L : Int → List Int} (h : FamI w base A L) (hb : Below w.heap.size w w') : FamI w' base A L :=
  ⟨fun i => owns_below (h.1 i) hb, h.2⟩
theorem FamI.other {w w' : World} {base b : Nat} {A : Int → Value} {L : Int → List Int} (h : FamI w base A L) (hg : w.grownBy w' (some b)) (hb : b < base) : FamI w' base A L :=
  ⟨fun i => (h.1 i).kept hg (owns_off (h.1 i) hb), h.2⟩
theorem FamI.push {w w' : World} {base : Nat} {A : Int → Value} {L : Int → List Int} (h : FamI w base A L) (i x : Int) {g cap n : Nat} (hn : n = (L i).length + 1) (ho : w'.ownsRow base 3 1 (.slice (some ⟨g, 0, none⟩) n cap) n (ic (L i) ++ [.int .i64 x]))
    (hg : w.grownBy w' (A i).ownBlock) (hat : (A i).ownBlock = some g ∨ w.heap.size ≤ g) :
    FamI w' base (fun j => if j = i then .slice (some ⟨g, 0, none⟩) n cap else A j) (fun j => if j = i then L i ++ [x] else L j) := by
  have off2 : ∀ j, j ≠ i → Apart (A j) (.slice (some ⟨g, 0, none⟩) n cap) := fun j hj => by
    cases e : (A j).ownBlock with
    | none => exact .inl e
    | some q =>
      refine .inr fun e' => ?_
      have e2 : q = g := by rw [e] at e'; simpa [Value.ownBlock] using e'
      subst e2
      rcases hat with hat | hat
      · rcases h.2 j i hj with ha | ha
        · rw [e] at ha; cases ha
        · exact ha (e.trans hat.symm)
      · have := ((h.1 j).lt _ e).2; omega
  refine ⟨fun j => ?_, fun j k hjk => ?_⟩
  · by_cases e : j = i
    · subst e
      simp only [if_pos]
      rw [ic_snoc, List.length_append, List.length_singleton, ← hn]
      exact ho
    · simp only [e, if_false]
      exact (h.1 j).kept hg (h.2 j i e)
  · by_cases e : j = i
    · have hk : k ≠ i := fun e' => hjk (e.trans e'.symm)
      simp only [e, hk, if_true, if_false]
      exact (off2 k hk).symm
    · by_cases ek : k = i
      · simp only [e, ek, if_true, if_false]
        exact off2 j e
      · simp only [e, ek, if_false]
        exact h.2 j k hjk
/-- What the map of rows holds. -/
def nC (A : Int → Value) (L : Int → List Int) : Int → Option Value := fun v => if L v = [] then none else some (A v)
/-- The neighbours that the first k edges tell, and half of the next one. -/
def nbH (E : List (Int × Int)) (k h : Nat) (v : Int) : List Int := nbE (E.take k) v ++ (if 0 < h ∧ v = (E! E k).1 then [(E! E k).2] else [])
theorem nbH_zero (E : List (Int × Int)) (k : Nat) : nbH E k 0 = nbE (E.take k) := by
  funext v
  simp [nbH]
theorem nbH_one (E : List (Int × Int)) (k : Nat) : (fun j => if j = (E! E k).1 then nbH E k 0 (E! E k).1 ++ [(E! E k).2] else nbH E k 0 j) = nbH E k 1 := by
  funext v
  by_cases h : v = (E! E k).1
  · simp [nbH, h]
  · simp [nbH, h]
theorem nbH_two {E : List (Int × Int)} {k : Nat} (hk : k < E.length) (hlt : (E! E k).1 < (E! E k).2) : (fun j => if j = (E! E k).2 then nbH E k 1 (E! E k).2 ++ [(E! E k).1] else nbH E k 1 j) = nbE (E.take (k + 1)) := by
  have e : E.take (k + 1) = E.take k ++ [E! E k] := by
    rw [List.take_add_one, List.getElem?_eq_getElem hk]
    simp [E!, hk]
  funext v
  have hx : nbE (E.take (k + 1)) v = nbE (E.take k) v ++ ((if (E! E k).1 = v then [(E! E k).2] else []) ++ (if (E! E k).2 = v then [(E! E k).1] else [])) := by
    rw [e]
    simp [nbE, List.flatMap_append]
  rw [hx]
  by_cases h1 : v = (E! E k).1
  · have h2 : ¬ v = (E! E k).2 := by omega
    have h2' : ¬ (E! E k).2 = v := fun q => h2 q.symm
    simp [nbH, h1]
    have h3 : ¬ (E! E k).1 = (E! E k).2 := by omega
    have h4 : ¬ (E! E k).2 = (E! E k).1 := by omega
    simp [h3, h4]
  · by_cases h2 : v = (E! E k).2
    · have h1' : ¬ (E! E k).1 = v := fun q => h1 q.symm
      have h3 : ¬ (E! E k).2 = (E! E k).1 := by omega
      have h4 : ¬ (E! E k).1 = (E! E k).2 := by omega
      simp [nbH, h2, h3, h4]
    · have h1' : ¬ (E! E k).1 = v := fun q => h1 q.symm
      have h2' : ¬ (E! E k).2 = v := fun q => h2 q.symm
      simp [nbH, h1, h2, h1', h2']
/-- The map of rows in the midst of its making. -/
structure NbS (X : World) (base nm : Nat) (A : Int → Value) (L : Int → List Int) : Prop where
  fam : FamI X base A L
  nil : ∀ v, L v = [] → A v = .slice none 0 0
  map : ∃ cnt, MapB intFam X nm cnt (nC A L)
  lt : nm < base
theorem NbS.more {X Y : World} {base nm : Nat} {A : Int → Value} {L : Int → List Int} (h : NbS X base nm A L) (hb : Below X.heap.size X Y) : NbS Y base nm A L := by
  obtain ⟨cnt, m1⟩ := h.map
  exact ⟨h.fam.more hb, h.nil, ⟨cnt, m1.below (Nat.le_refl _) hb⟩, h.lt⟩
theorem NbS.other {X Y : World} {base nm b : Nat} {A : Int → Value} {L : Int → List Int} (h : NbS X base nm A L) (hg : X.grownBy Y (some b)) (hb : b < base) (hne : b ≠ nm) : NbS Y base nm A L := by
  obtain ⟨cnt, m1⟩ := h.map
  exact ⟨h.fam.other hg hb, h.nil, ⟨cnt, m1.same (hg.block nm m1.lt (by simp; omega))⟩, h.lt⟩
theorem nC_get {A : Int → Value} {L : Int → List Int} (h : ∀ v, L v = [] → A v = .slice none 0 0) (v : Int) : (nC A L v).getD (.slice none 0 0) = A v := by
  unfold nC
  by_cases e : L v = []
  · rw [if_pos e, h v e]; rfl
  · rw [if_neg e]; rfl
/-- A neighbour is told. -/
theorem NbS.push {X Y Z : World} {base nm : Nat} {A : Int → Value} {L : Int → List Int} (h : NbS X base nm A L) (i x : Int) {g cap n : Nat} (hn : n = (L i).length + 1) (ho : Y.ownsRow base 3 1 (.slice (some ⟨g, 0, none⟩) n cap) n (ic (L i) ++ [.int .i64 x]))
    (hg : X.grownBy Y (A i).ownBlock) (hat : (A i).ownBlock = some g ∨ X.heap.size ≤ g) {cnt : Nat} (hm : MapB intFam Z nm cnt (fun b => if b = i then some (.slice (some ⟨g, 0, none⟩) n cap) else nC A L b)) (hgz : Y.grownBy Z (some nm)) :
    NbS Z base nm (fun j => if j = i then .slice (some ⟨g, 0, none⟩) n cap else A j) (fun j => if j = i then L i ++ [x] else L j) := by
  refine ⟨(h.fam.push i x hn ho hg hat).other hgz h.lt, fun v hv => ?_, ⟨cnt, ?_⟩, h.lt⟩
  · by_cases e : v = i
    · simp [e] at hv
    · simp only [e, if_false] at hv ⊢
      exact h.nil v hv
  · have : (fun b => if b = i then some (Value.slice (some ⟨g, 0, none⟩) n cap) else nC A L b) = nC (fun j => if j = i then .slice (some ⟨g, 0, none⟩) n cap else A j) (fun j => if j = i then L i ++ [x] else L j) := by
      funext b
      unfold nC
      by_cases e : b = i
      · simp [e]
      · simp [e]
    rw [← this]
    exact hm
theorem NbS.near {X : World} {base nm : Nat} {A : Int → Value} {E : List (Int × Int)} (h : NbS X base nm A (nbE E)) : Near X nm E := by
  obtain ⟨cnt, m1⟩ := h.map
  refine ⟨cnt, _, m1.to, fun v => ⟨fun e => by unfold nC; rw [if_pos e], fun e => ?_⟩⟩
  obtain ⟨g, cap, hv, hb, hlt, -, -, hc, -⟩ := owns_block (h.fam.1 v) (List.length_pos_iff.2 e)
  refine ⟨g, 0, cap, by unfold nC; rw [if_neg e, hv], hlt, fun i hi => ?_⟩
  rw [Nat.zero_add]
  refine hc i _ ?_
  simp [ic, I!, List.getD_eq_getElem?_getD, hi]
/-- tree.Paths in its first loop. -/
structure PS1 (w X : World) (nm : Nat) (A : Int → Value) (Sn : Int × Int → Prop) (L : Int → List Int) : Prop where
  enm : w.heap.size = nm
  box : RowIs X (nm + 2) 90 [.map (some nm), .map (some (nm + 1))]
  gone : MapB edgeFam X (nm + 1) 0 (mC fun _ => False)
  seen : ∃ cn, MapB edgeFam X (nm + 3) cn (mC Sn)
  nb : NbS X (nm + 4) nm A L
  low : Below nm w X
  sz : nm + 4 ≤ X.heap.size
section
variable {w X Y Z : World} {nm : Nat} {A : Int → Value} {Sn : Int × Int → Prop} {L : Int → List Int}
theorem PS1.more (h : PS1 w X nm A Sn L) (hb : Below X.heap.size X Y) : PS1 w Y nm A Sn L := by
  obtain ⟨cn, m1⟩ := h.seen
  exact ⟨h.enm, h.box.after hb, h.gone.below (Nat.le_refl _) hb, ⟨cn, m1.below (Nat.le_refl _) hb⟩, h.nb.more hb, below_more h.low hb (by have := h.sz; omega), by have := hb.size; have := h.sz; omega⟩
theorem PS1.mark (h : PS1 w X nm A Sn L) {cn : Nat} {Sn' : Int × Int → Prop} (hm : MapB edgeFam Y (nm + 3) cn (mC Sn')) (hg : X.grownBy Y (some (nm + 3))) : PS1 w Y nm A Sn' L :=
  ⟨h.enm, h.box.grown hg (by simp), h.gone.same (hg.block _ h.gone.lt (by simp)), ⟨cn, hm⟩, h.nb.other hg (by omega) (by omega), h.low.grown hg (by have := h.sz; omega) (fun q hq => by cases hq; omega), by have := hg.size; have := h.sz; omega⟩
theorem PS1.congr (h : PS1 w X nm A Sn L) {Sn' : Int × Int → Prop} (hs : ∀ e, Sn e ↔ Sn' e) : PS1 w X nm A Sn' L := by
  obtain ⟨cn, m1⟩ := h.seen
  exact ⟨h.enm, h.box, h.gone, ⟨cn, by rw [← mC_congr hs]; exact m1⟩, h.nb, h.low, h.sz⟩
/-- A neighbour is told: the row grows, the map holds it. -/
theorem PS1.grow (h : PS1 w X nm A Sn L) (i x : Int) (hi : I64 i) (hb : Below X.heap.size X Y) {g cap n : Nat} (hn : n = (L i).length + 1) (ho : Z.ownsRow (nm + 4) 3 1 (.slice (some ⟨g, 0, none⟩) n cap) n (ic (L i) ++ [.int .i64 x])) (hg : Y.grownBy Z (A i).ownBlock) (hat : (A i).ownBlock = some g ∨ g = Y.heap.size)
    {eb : Nat} {xs : List Value} (he : RowIs X eb 40 xs) (heb : nm + 4 ≤ eb) :
    RowIs Z (nm + 2) 90 [.map (some nm), .map (some (nm + 1))] ∧ RowIs Z eb 40 xs ∧
    ∃ Z', (Instr.mapUpdate 88 (.map (some nm)) (.int .i64 i) (.slice (some ⟨g, 0, none⟩) n cap)).run Tryz.prog Z = .ok () Z' ∧
      RowIs Z' eb 40 xs ∧ PS1 w Z' nm (fun j => if j = i then .slice (some ⟨g, 0, none⟩) n cap else A j) Sn (fun j => if j = i then L i ++ [x] else L j) := by
  have hY := h.more hb
  have heY := he.after hb
  have hsz := h.sz
  have hsY := hY.sz
  have hgs := hg.size
  have off : ∀ b, b < nm + 4 → some b ≠ (A i).ownBlock := fun b hb q => by have := ((hY.nb.fam.1 i).lt b q.symm).1; omega
  have heZ : RowIs Z eb 40 xs := by
    refine heY.grown hg ?_
    intro e2
    rcases (hY.nb.fam.1 i).2 with ⟨q, -⟩ | ⟨g1, cap1, cur1, hv, -, hg1, -⟩
    · rw [q] at e2; cases e2
    rw [hv] at e2
    simp only [Value.ownBlock, Option.some.injEq] at e2
    subst e2
    have := heY.symm.trans hg1
    simp at this
  obtain ⟨cnt, m1⟩ := hY.nb.map
  have m2 : MapB intFam Z nm cnt (nC A L) := m1.same (hg.block nm m1.lt (off _ (by omega)))
  obtain ⟨Z', hst, hM', hg'⟩ := m2.store 88 28 (by kernel_rfl) i hi (.slice (some ⟨g, 0, none⟩) n cap)
  simp only [intFam] at hst
  obtain ⟨cn, hs1⟩ := hY.seen
  have hs2 := hs1.same (w' := Z) (hg.block _ hs1.lt (off _ (by omega)))
  have hg2 := hY.gone.same (w' := Z) (hg.block _ hY.gone.lt (off _ (by omega)))
  have hbZ : RowIs Z (nm + 2) 90 [.map (some nm), .map (some (nm + 1))] := hY.box.grown hg (off _ (by omega))
  have hlZ : Below nm w Z := hY.low.grown hg (by omega) (fun q hq => by have := ((hY.nb.fam.1 i).lt q hq).1; omega)
  refine ⟨hbZ, heZ, Z', hst, heZ.grown hg' (by simp; omega), ⟨h.enm, hbZ.grown hg' (by simp), hg2.same (hg'.block _ hg2.lt (by simp)), ⟨cn, hs2.same (hg'.block _ hs2.lt (by simp))⟩, ?_, hlZ.grown hg' (by omega) (fun q hq => by cases hq; omega), by have := hg'.size; omega⟩⟩
  exact hY.nb.push i x hn ho hg (hat.imp_right fun e => Nat.le_of_eq e.symm) hM' hg'
theorem PS1.look (h : PS1 w X nm A Sn L) (i : Int) (hi : I64 i) : (Instr.lookup 88 (.map (some nm)) (.int .i64 i) false).run Tryz.prog X = .ok (A i) X := by
  obtain ⟨cnt, m1⟩ := h.nb.map
  have := m1.to.look 88 28 (by kernel_rfl) zeroSlice i hi false
  rw [nC_get h.nb.nil] at this
  simpa [intFam] using this
end
theorem nbH_len (E : List (Int × Int)) (k h : Nat) (v : Int) : (nbH E k h v).length ≤ 2 * E.length + 1 := by
  unfold nbH
  rw [List.length_append, nbE_len]
  have h1 := degE_le (E.take k) v
  have h2 : (E.take k).length ≤ E.length := by rw [List.length_take]; omega
  split <;> simp <;> omega
/-- How many keys a map can have. -/
theorem mapB_bound {k : TypeId} {κ : Type} {F : KeyFam k κ} {w : World} {m n : Nat} {C : κ → Option Value} (h : MapB F w m n C) {S : List κ} (hS : ∀ a, C a ≠ none → a ∈ S) : n ≤ S.length := by
  obtain ⟨L, clock, h1, h2, h3, h4, h5⟩ := h
  have hnd : (L.map (·.key)).Nodup := by
    rw [List.nodup_iff_pairwise_ne, List.pairwise_map]
    exact h5.imp fun h => h.1
  have := hnd.length_le_of_subset (l₂ := S.map F.kv) (fun x hx => by
    obtain ⟨e, he, rfl⟩ := List.mem_map.1 hx
    obtain ⟨a, ha, hk, hv, -⟩ := h3 e he
    exact List.mem_map.2 ⟨a, hS a (by rw [hv]; simp), hk.symm⟩)
  simp [h2] at this
  exact this
theorem nb_bound {w X : World} {nm : Nat} {A : Int → Value} {Sn : Int × Int → Prop} {E : List (Int × Int)} (h : PS1 w X nm A Sn (nbE E)) : ∃ cnt, MapB intFam X nm cnt (nC A (nbE E)) ∧ cnt ≤ 2 * E.length := by
  obtain ⟨cnt, m1⟩ := h.nb.map
  refine ⟨cnt, m1, ?_⟩
  have := mapB_bound m1 (S := E.map Prod.fst ++ E.map Prod.snd) (fun v hv => by
    have hne : nbE E v ≠ [] := fun q => hv (by unfold nC; rw [if_pos q])
    obtain ⟨u, hu⟩ := List.exists_mem_of_ne_nil _ hne
    unfold nbE at hu
    obtain ⟨e, he, hm⟩ := List.mem_flatMap.1 hu
    rw [List.mem_append]
    rcases List.mem_append.1 hm with hm | hm
    · by_cases q : e.1 = v
      · exact .inl (List.mem_map.2 ⟨e, he, q⟩)
      · simp [q] at hm
    · by_cases q : e.2 = v
      · exact .inr (List.mem_map.2 ⟨e, he, q⟩)
      · simp [q] at hm)
  simp at this
  omega
/-- Rows of numbers in memory: each its own slice. -/
def RowsAt (X : World) (ao : Option Addr) (S : List (List Int)) : Prop :=
  S ≠ [] → ∃ g off, ao = some ⟨g, off, none⟩ ∧ g < X.heap.size ∧ ∀ i, i < S.length → ∃ a c, X.cell? ⟨g, off + i, none⟩ = some (.slice a (S.getD i []).length c) ∧ IntsAt X a (S.getD i [])
/-- What tree.Paths comes to. -/
def PathsP (w : World) (E : List (Int × Int)) (e : Ending) (w' : World) : Prop :=
  ∃ ao cap S, e = .returned (.slice ao S.length cap) ∧ RowsAt w' ao S ∧ Below w.heap.size w w' ∧ (¬ RightE E → S = []) ∧ (RightE E → S.Pairwise (fun x y => cmpR y x < 0 → False) ∧ ∃ O, PFin18 E O ∧ S.Perm O)
theorem paths_no {w w' : World} {E : List (Int × Int)} (h : ¬ RightE E) (hb : Below w.heap.size w w') : PathsP w E (.returned (.slice none 0 0)) w' :=
  ⟨none, 0, [], rfl, fun q => absurd rfl q, hb, fun _ => rfl, fun q => absurd q h⟩
theorem zeroBool : ∀ w, (zeroValue 4).run Tryz.prog w = .ok (.bool false) w := fun _ => by kernel_rfl
open Classical in
theorem mC_getD (P : Int × Int → Prop) (e : Int × Int) : (mC P e).getD (.bool false) = .bool (decide (P e)) := by
  unfold mC
  by_cases h : P e <;> simp [h]
theorem paths_init (w W : World) (nm : Nat) (hnm : nm = w.heap.size) (hW : W = (((w.alloc (.map #[] 0)).alloc (.map #[] 0)).alloc (.cells #[.map (some w.heap.size), .map (some (w.heap.size + 1))] 90)).alloc (.map #[] 0)) (E : List (Int × Int)) :
    ∃ A, PS1 w W nm A (fun e => e ∈ E.take 0) (nbE (E.take 0)) := by
  subst hnm
  have hmF : mC (fun _ => False) = fun _ => none := by funext e; simp [mC]
  have hmE : mC (fun e => e ∈ E.take 0) = fun _ => none := by funext e; simp [mC]
  have hnb : nbE (E.take 0) = fun _ => [] := by funext v; simp [nbE]
  have hs : W.heap.size = w.heap.size + 4 := by rw [hW]; simp
  have hlow : Below w.heap.size w W := by rw [hW]; exact ((((Below.refl _ _).alloc (Nat.le_refl _) _).alloc (by simp) _).alloc (by simp; omega) _).alloc (by simp; omega) _
  have m0 : MapB intFam W w.heap.size 0 (fun _ => none) := by
    rw [hW]
    exact (((MapB.made w).below (Nat.le_refl _) ((Below.refl _ _).alloc (Nat.le_refl _) _)).below (Nat.le_refl _) ((Below.refl _ _).alloc (Nat.le_refl _) _)).below (Nat.le_refl _) ((Below.refl _ _).alloc (Nat.le_refl _) _)
  have m1 : MapB edgeFam W (w.heap.size + 1) 0 (fun _ => none) := by
    rw [hW]
    have := MapB.made (F := edgeFam) (w.alloc (.map #[] 0))
    rw [World.size_alloc] at this
    exact (this.below (Nat.le_refl _) ((Below.refl _ _).alloc (Nat.le_refl _) _)).below (Nat.le_refl _) ((Below.refl _ _).alloc (Nat.le_refl _) _)
  have m3 : MapB edgeFam W (w.heap.size + 3) 0 (fun _ => none) := by
    rw [hW]
    have := MapB.made (F := edgeFam) (((w.alloc (.map #[] 0)).alloc (.map #[] 0)).alloc (.cells #[.map (some w.heap.size), .map (some (w.heap.size + 1))] 90))
    simp only [World.size_alloc] at this
    exact this
  have hbx : RowIs W (w.heap.size + 2) 90 [.map (some w.heap.size), .map (some (w.heap.size + 1))] := by
    rw [hW]
    have := RowIs.made ((w.alloc (.map #[] 0)).alloc (.map #[] 0)) 90 [.map (some w.heap.size), .map (some (w.heap.size + 1))]
    simp only [World.size_alloc] at this
    exact this.alloc _
  refine ⟨fun _ => .slice none 0 0, rfl, hbx, by rw [hmF]; exact m1, ⟨0, by rw [hmE]; exact m3⟩, ⟨⟨fun i => by rw [hnb]; exact World.ownsRow_nil _ _ _ _, fun i j _ => .inl rfl⟩, fun _ _ => rfl, ⟨0, ?_⟩, by omega⟩, hlow, by omega⟩
  have : nC (fun _ => .slice none 0 0) (nbE (E.take 0)) = fun _ => none := by funext v; unfold nC; rw [hnb]; simp
  rw [this]
  exact m0
/-- A row and its slice. -/
def RowD (X : World) (base : Nat) (vo : Value) (p : List Int) (d : Value) : Prop :=
  ∃ b off c, d = .slice (some ⟨b, off, none⟩) p.length c ∧ b < X.heap.size ∧ some b ≠ vo.ownBlock ∧ base ≤ b ∧ p.length ≤ 1000000 ∧ ∀ j, j < p.length → X.cell? ⟨b, off + j, none⟩ = some (.int .i64 (I! p j))
/-- The rows that have been found. -/
def RowsIn (X : World) (base : Nat) (vo : Value) (S : List (List Int)) : Prop :=
  ∃ ds : List Value, X.ownsRow base 28 1 vo S.length ds ∧ ∀ (i : Nat) (p : List Int) (d : Value), S[i]? = some p → ds[i]? = some d → RowD X base vo p d
theorem RowD.grown {X Y : World} {base : Nat} {vo : Value} {p : List Int} {d : Value} (h : RowD X base vo p d) {row : Option Nat} (hg : X.grownBy Y row) (hr : ∀ q, row = some q → q < base) : RowD Y base vo p d := by
  obtain ⟨b, off, c, rfl, h1, h2, h3, h4, h5⟩ := h
  refine ⟨b, off, c, rfl, by have := hg.size; omega, h2, h3, h4, fun j hj => ?_⟩
  have hb := hg.block b h1 (fun q => by have := hr b q.symm; omega)
  have := h5 j hj
  simp only [World.cell?, hb] at this ⊢
  exact this
theorem RowsIn.grown {X Y : World} {base : Nat} {vo : Value} {S : List (List Int)} (h : RowsIn X base vo S) {b : Nat} (hg : X.grownBy Y (some b)) (hb : b < base) : RowsIn Y base vo S := by
  obtain ⟨ds, h1, h2⟩ := h
  exact ⟨ds, h1.kept hg (owns_off h1 hb), fun i p d hp hd => (h2 i p d hp hd).grown hg fun q hq => by cases hq; exact hb⟩
theorem RowsIn.more {X Y : World} {base : Nat} {vo : Value} {S : List (List Int)} (h : RowsIn X base vo S) (hb : Below X.heap.size X Y) : RowsIn Y base vo S := by
  obtain ⟨ds, h1, h2⟩ := h
  exact ⟨ds, owns_below h1 hb, fun i p d hp hd => (h2 i p d hp hd).grown (below_grown hb) fun q hq => by cases hq⟩
theorem RowsIn.nil (X : World) (base : Nat) : RowsIn X base (.slice none 0 0) [] := ⟨[], World.ownsRow_nil _ _ _ _, fun i p d hp => by simp at hp⟩
theorem RowsIn.slice {X : World} {base : Nat} {vo : Value} {S : List (List Int)} (h : RowsIn X base vo S) : ∃ a c, vo = .slice a S.length c := by
  obtain ⟨ds, h1, h2⟩ := h
  exact owns_slice h1
/-- One more: the row has been laid since W, the slice is appended at Y. -/
theorem RowsIn.push {W Y Z : World} {base gm : Nat} {vo : Value} {S : List (List Int)} {p : List Int} {ds : List Value} (h : W.ownsRow base 28 1 vo S.length ds) (hd : ∀ (i : Nat) (p : List Int) (d : Value), S[i]? = some p → ds[i]? = some d → RowD W base vo p d) (hW : W.grownBy Y (some gm)) (hgm : gm < base) {b off c : Nat} (hb : W.heap.size ≤ b) (hbY : b < Y.heap.size) (hbase : base ≤ W.heap.size) (hp : p.length ≤ 1000000) (hc : ∀ j, j < p.length → Y.cell? ⟨b, off + j, none⟩ = some (.int .i64 (I! p j)))
    {g cap n : Nat} (hn : n = S.length + 1) (ho : Z.ownsRow base 28 1 (.slice (some ⟨g, 0, none⟩) n cap) n (ds ++ [.slice (some ⟨b, off, none⟩) p.length c])) (hg : Y.grownBy Z vo.ownBlock) (hat : vo.ownBlock = some g ∨ Y.heap.size ≤ g) : RowsIn Z base (.slice (some ⟨g, 0, none⟩) n cap) (S ++ [p]) := by
  have hlt : ∀ q, vo.ownBlock = some q → q < W.heap.size := fun q hq => (h.lt q hq).2
  have key : ∀ p' d', RowD Y base vo p' d' → RowD Z base (.slice (some ⟨g, 0, none⟩) n cap) p' d' := by
    rintro p' d' ⟨b', off', c', rfl, h1, h2, h3, h4, h5⟩
    refine ⟨b', off', c', rfl, by have := hg.size; omega, fun q => ?_, h3, h4, fun j hj => ?_⟩
    · simp only [Value.ownBlock, Option.some.injEq] at q
      subst q
      rcases hat with q | q
      · exact h2 q.symm
      · omega
    · have e := hg.block b' h1 h2
      have := h5 j hj
      simp only [World.cell?, e] at this ⊢
      exact this
  have hl := h.1
  refine ⟨ds ++ [.slice (some ⟨b, off, none⟩) p.length c], by rw [List.length_append, List.length_singleton, ← hn]; exact ho, fun i p' d' hp' hd' => ?_⟩
  have hdl : ds.length = S.length := by simpa using hl
  by_cases hi : i < S.length
  · rw [List.getElem?_append_left hi] at hp'
    rw [List.getElem?_append_left (by omega)] at hd'
    exact key _ _ ((hd i p' d' hp' hd').grown hW fun q hq => by cases hq; exact hgm)
  · have hi' : i = S.length := by
      have := (List.getElem?_eq_some_iff.1 hp').1
      simp at this
      omega
    subst hi'
    rw [List.getElem?_append_right (Nat.le_refl _)] at hp'
    rw [← hdl, List.getElem?_append_right (Nat.le_refl _)] at hd'
    simp at hp' hd'
    subst hp' hd'
    exact key _ _ ⟨b, off, c, rfl, hbY, fun q => by have := hlt b q.symm; omega, by omega, hp, hc⟩
theorem zip_sub {α : Type} {P : α → Prop} : ∀ (L : List α), (∀ q, q ∈ L → P q) → ∃ M : List {q : α // P q}, M.map Subtype.val = L
  | [], _ => ⟨[], rfl⟩
  | a :: L, h => by
    obtain ⟨M, hM⟩ := zip_sub L fun q hq => h q (List.mem_cons_of_mem _ hq)
    exact ⟨⟨a, h a (by simp)⟩ :: M, by simp [hM]⟩
/-- A sort's world: one block has turned, blocks are laid behind. -/
theorem grown_sortW18 {α : Type} [Inhabited α] (enc : α → Value) (w : World) (blk off m : Nat) (dk : Array α) (os : Array Obj) (hb : blk < w.heap.size) : w.grownBy (Go.Proofs.sortWorld enc w blk off m dk os) (some blk) := by
  have h1 : (Go.Proofs.sortWorld enc w blk off m dk os).heap.size = w.heap.size + os.size := by
    show (Go.Sort.grow (Go.Sort.putRow enc (Go.Sort.ahead w m) blk off dk) os).heap.size = _
    rw [Go.Sort.size_grow, Go.Sort.size_putRow]
    rfl
  refine ⟨rfl, rfl, rfl, by omega, fun j hj hne => ?_⟩
  have h2 : blk ≠ j := fun e => hne (by rw [e])
  show (Go.Sort.grow (Go.Sort.putRow enc (Go.Sort.ahead w m) blk off dk) os).heap[j]? = _
  rw [Go.Sort.heap_grow_old _ _ (by rw [Go.Sort.size_putRow]; exact hj)]
  simp only [Go.Sort.putRow, Go.Sort.mapBlock, Array.getElem?_modify, h2, if_false]
  rfl
/-- A row and its slice, wherever one block alone has turned. -/
def GoodQ (X : World) (g : Nat) (q : List Int × Value) : Prop := ∃ a c, q.2 = .slice a q.1.length c ∧ q.1.length ≤ 1000000 ∧ ∀ X', X.grownBy X' (some g) → IntsAt X' a q.1
theorem goodQ_nil (X : World) (g : Nat) : GoodQ X g ([], .slice none 0 0) := ⟨none, 0, rfl, by simp, fun _ _ h => absurd rfl h⟩
theorem ltOf_iff {α : Type} (cf : α → α → Int) (x y : α) : Go.Proofs.ltOf cf x y = true ↔ cf x y < 0 := by
  unfold Go.Proofs.ltOf
  simp
theorem swo_rows {α : Type} (f : α → List Int) : Go.Sort.SWO (Go.Proofs.ltOf fun x y => cmpR (f x) (f y)) where
  irrefl x := by
    cases h : Go.Proofs.ltOf (fun x y => cmpR (f x) (f y)) x x
    · rfl
    · have := (ltOf_iff _ x x).1 h
      rw [cmpR_refl] at this
      omega
  trans x y z h1 h2 := (ltOf_iff _ x z).2 (cmpR_trans ((ltOf_iff _ x y).1 h1) ((ltOf_iff _ y z).1 h2))
  ntrans x y z h1 h2 := by
    have a : ¬ cmpR (f x) (f y) < 0 := fun h => by rw [(ltOf_iff (fun x y => cmpR (f x) (f y)) x y).2 h] at h1; cases h1
    have b : ¬ cmpR (f y) (f z) < 0 := fun h => by rw [(ltOf_iff (fun x y => cmpR (f x) (f y)) y z).2 h] at h2; cases h2
    cases h : Go.Proofs.ltOf (fun x y => cmpR (f x) (f y)) x z
    · rfl
    · have c := (ltOf_iff (fun x y => cmpR (f x) (f y)) x z).1 h
      by_cases e : cmpR (f x) (f y) = 0
      · rw [cmpR_eq e] at c
        exact absurd c b
      · exact absurd (cmpR_trans (by rw [cmpR_anti]; omega) c) b
set_option maxHeartbeats 1000000 in
theorem sort_rows (X : World) (base : Nat) (vo : Value) (S : List (List Int)) (h : RowsIn X base vo S) (hS : S.length ≤ 100000) :
    Calls Tryz.prog 57 #[vo, .func (.func 58) #[] #[]] X fun e w' => e = .returned (.tuple #[]) ∧
      ∃ S' ao cap, S'.Perm S ∧ S'.Pairwise (fun x y => cmpR y x < 0 → False) ∧ vo = .slice ao S'.length cap ∧ RowsAt w' ao S' ∧ X.grownBy w' vo.ownBlock := by
  obtain ⟨ds, ho, hd⟩ := h
  have hdl : ds.length = S.length := by simpa using ho.1
  by_cases h0 : S = []
  · subst h0
    obtain ⟨a, c, rfl⟩ := owns_slice ho
    exact (Tryz.slices_SortFunc_none (α := Int) a c _ X).mono fun e w' ⟨he, hw⟩ => ⟨he, [], a, c, List.Perm.refl _, List.Pairwise.nil, rfl, fun q => absurd rfl q, by rw [hw]; exact World.grownBy.refl _ _⟩
  have hpos := List.length_pos_iff.2 h0
  obtain ⟨g, cap, rfl, hbg, hgl, -, -, hcl, hfr⟩ := owns_block ho hpos
  obtain ⟨M, hM⟩ := zip_sub (P := GoodQ X g) (S.zip ds) (fun q hq => by
    obtain ⟨i, hi, e⟩ := List.getElem_of_mem hq
    simp at hi
    rw [List.getElem_zip] at e
    obtain ⟨b, off, c, h1, h2, h3, h4, h5, h6⟩ := hd i S[i] ds[i] (List.getElem?_eq_getElem _) (List.getElem?_eq_getElem _)
    rw [← e]
    refine ⟨_, c, h1, h5, fun X' hX' _ => ⟨b, off, rfl, by have := hX'.size; omega, fun j hj => ?_⟩⟩
    have e := hX'.block b h2 (by simpa [Value.ownBlock] using h3)
    have := h6 j hj
    simp only [World.cell?, e] at this ⊢
    exact this)
  have : Inhabited {q : List Int × Value // GoodQ X g q} := ⟨⟨_, goodQ_nil X g⟩⟩
  have hMl : M.length = S.length := by
    have := congrArg List.length hM
    simpa [hdl] using this
  have hMg : ∀ j (hj : j < M.length) (hs : j < S.length) (hd' : j < ds.length), (M[j]).1 = (S[j], ds[j]) := fun j hj hs hd' => by
    have : (M.map Subtype.val)[j]? = (S.zip ds)[j]? := by rw [hM]
    rw [List.getElem?_map, List.getElem?_eq_getElem hj, List.getElem?_eq_getElem (by simp; omega), List.getElem_zip] at this
    simpa using this
  obtain ⟨enc, henc⟩ : ∃ enc : {q : List Int × Value // GoodQ X g q} → Value, enc = fun q => q.1.2 := ⟨_, rfl⟩
  obtain ⟨cf, hcf⟩ : ∃ cf : {q : List Int × Value // GoodQ X g q} → {q : List Int × Value // GoodQ X g q} → Int, cf = fun x y => cmpR x.1.1 y.1.1 := ⟨_, rfl⟩
  have hH : Go.Sort.Holds enc X g 0 M.toArray := fun j hj => by
    simp at hj
    refine ⟨?_, by rw [Nat.zero_add]; exact hfr j⟩
    rw [Nat.zero_add, hcl j ds[j] (List.getElem?_eq_getElem _), getElem!_pos M.toArray j (by simpa using hj), henc]
    simp only [List.getElem_toArray]
    rw [hMg j hj (by omega) (by omega)]
  have hcmp : Go.Proofs.CmpLays1 Tryz.prog 58 #[] enc cf g 0 M.toArray.size X := fun m os dk _ x y => by
    have hg := grown_sortW18 enc X g 0 m dk os hgl
    obtain ⟨⟨p, v⟩, a1, c1, e1, l1, i1⟩ := x
    obtain ⟨⟨q, u⟩, a2, c2, e2, l2, i2⟩ := y
    simp only at e1 e2 l1 l2 i1 i2
    subst e1 e2
    have := compare_rows p q a1 a2 c1 c2 _ (i1 _ hg) (i2 _ hg) l1 l2
    rw [henc, hcf]
    simp only
    rw [henc] at this
    exact this.mono fun e w' ⟨h1, h2⟩ => ⟨h1, 0, #[], by rw [← h2, Go.Sort.grow_empty]; rfl⟩
  have hs := Tryz.slices_SortFunc enc (fun x => by obtain ⟨a, c, e, -⟩ := x.2; rw [henc]; simp only; rw [e]; rfl) cf (by rw [hcf]; exact swo_rows fun x : {q : List Int × Value // GoodQ X g q} => x.1.1) 58 #[] g 0 cap M.toArray X (enters_of Tryz.func58 (by kernel_rfl) rfl) hcmp hH hgl (by simp; omega)
  have e0 : M.toArray.size = S.length := by simp [hMl]
  rw [e0] at hs
  refine hs.mono fun e w' ⟨he, d', n, os, hp, hso, hw⟩ => ?_
  have h1 : d'.size = S.length := by have := hp.1; rw [e0] at this; exact this
  have hperm : d'.toList.Perm M := by
    have := hp.2.2
    rw [show d'.extract 0 S.length = d' from by rw [← h1]; simp, show M.toArray.extract 0 S.length = M.toArray from by rw [← e0]; simp] at this
    simpa using this
  refine ⟨he, d'.toList.map (·.1.1), some ⟨g, 0, none⟩, cap, ?_, ?_, by simp [h1], ?_, ?_⟩
  · have := hperm.map (fun q => q.1.1)
    refine this.trans ?_
    have e : M.map (fun q => q.1.1) = S := by
      have : M.map (fun q => q.1.1) = (M.map Subtype.val).map Prod.fst := by simp
      rw [this, hM, List.map_fst_zip (by omega)]
    rw [e]
  · rw [List.pairwise_map, List.pairwise_iff_getElem]
    intro i j hi hj hij
    simp at hi hj
    have := hso i j (Nat.zero_le _) hij (by omega)
    rw [getElem!_pos d' j hj, getElem!_pos d' i hi] at this
    simp only [Array.getElem_toList]
    intro hlt
    rw [(ltOf_iff cf _ _).2 (by rw [hcf]; exact hlt)] at this
    cases this
  · rw [hw]
    have hg := grown_sortW18 enc X g 0 n d' os hgl
    have hh : Go.Sort.Holds enc (Go.Proofs.sortWorld enc X g 0 n d' os) g 0 d' := by
      have a := Go.Sort.holds_putRow enc (Go.Sort.ahead X n) g 0 M.toArray d' (fun j hj => hH j hj) (by simp [h1, hMl])
      exact Go.Sort.holds_grow _ _ os g 0 d' (by rw [Go.Sort.size_putRow]; exact hgl) a
    refine fun _ => ⟨g, 0, rfl, by have := hg.size; omega, fun i hi => ?_⟩
    simp at hi
    have hc := (hh i hi).1
    obtain ⟨a, c, e1, e2, e3⟩ := d'[i].2
    rw [getElem!_pos d' i hi, henc] at hc
    simp only at hc
    rw [e1] at hc
    have eg : (d'.toList.map (·.1.1)).getD i [] = d'[i].1.1 := by simp [List.getD_eq_getElem?_getD, hi]
    refine ⟨a, c, by rw [eg]; rw [henc]; exact hc, by rw [eg]; exact e3 _ (by rw [henc] at hg ⊢; exact hg)⟩
  · rw [hw]; exact grown_sortW18 enc X g 0 n d' os hgl
/-- In the passes: blocks below 'base' stand as they did, but the marks. -/
structure PS3 (W X : World) (nm base : Nat) (vo : Value) (O : List (List Int)) (G : Int × Int → Prop) : Prop where
  but : But base (nm + 1) W X
  rows : RowsIn X base vo O
  gone : ∃ cnt, MapB edgeFam X (nm + 1) cnt (mC G)
  low : nm + 4 ≤ base
  sz : base ≤ X.heap.size
section
variable {W X Y Z : World} {nm base : Nat} {vo : Value} {O : List (List Int)} {G : Int × Int → Prop}
theorem PS3.more (h : PS3 W X nm base vo O G) (hb : Below X.heap.size X Y) : PS3 W Y nm base vo O G := by
  obtain ⟨cnt, m1⟩ := h.gone
  exact ⟨h.but.more hb h.sz, h.rows.more hb, ⟨cnt, m1.below (Nat.le_refl _) hb⟩, h.low, by have := hb.size; have := h.sz; omega⟩
theorem PS3.congr (h : PS3 W X nm base vo O G) {G' : Int × Int → Prop} (hg : ∀ e, G e ↔ G' e) : PS3 W X nm base vo O G' := by
  obtain ⟨cnt, m1⟩ := h.gone
  exact ⟨h.but, h.rows, ⟨cnt, by rw [← mC_congr hg]; exact m1⟩, h.low, h.sz⟩
end
theorem canonR_len (p : List Int) : (canonR p).length = p.length := by
  rcases canonR_or p with h | h <;> simp [h]
/-- A way has been gone: its row is appended. -/
theorem PS3.walked {W X w2 : World} {nm base : Nat} {vo : Value} {O : List (List Int)} {G : Int × Int → Prop} (h : PS3 W X nm base vo O G) {E : List (Int × Int)} {d : Int × Int} {K : Nat} {a : Option Addr} {c : Nat} (hK : K + 2 ≤ 1000000)
    (hi : IntsAt w2 a (canonR (pathL E d K))) (ha : ∀ b off, a = some ⟨b, off, none⟩ → X.heap.size ≤ b) (hm : ∃ cnt, MapB edgeFam w2 (nm + 1) cnt (mC (fun e => G e ∨ e ∈ pedges (pathL E d K)))) (hb : But X.heap.size (nm + 1) X w2) :
    ∃ ds : List Value, (w2.alloc (.cells #[.slice a (K + 2) c] 28)).ownsRow base 28 1 vo O.length ds ∧ base ≤ (w2.alloc (.cells #[.slice a (K + 2) c] 28)).heap.size ∧
      ∀ (g cap n : Nat) (Z : World), n = O.length + 1 → Z.ownsRow base 28 1 (.slice (some ⟨g, 0, none⟩) n cap) n (ds ++ [.slice a (K + 2) c]) → (w2.alloc (.cells #[.slice a (K + 2) c] 28)).grownBy Z vo.ownBlock → (vo.ownBlock = some g ∨ g = (w2.alloc (.cells #[.slice a (K + 2) c] 28)).heap.size) →
        PS3 W Z nm base (.slice (some ⟨g, 0, none⟩) n cap) (O ++ [canonR (pathL E d K)]) (fun e => G e ∨ e ∈ pedges (pathL E d K)) := by
  obtain ⟨ds, h1, h2⟩ := h.rows
  have hl := h.low
  have hs := h.sz
  have hsz := hb.size
  obtain ⟨Y, hY⟩ : ∃ Y, Y = w2.alloc (.cells #[.slice a (K + 2) c] 28) := ⟨_, rfl⟩
  have hYb : Below w2.heap.size w2 Y := by rw [hY]; exact (Below.refl _ _).alloc (Nat.le_refl _) _
  have hXY : X.grownBy Y (some (nm + 1)) := ⟨hYb.os.trans hb.os, hYb.tape.trans hb.tape, hYb.output.trans hb.output, Nat.le_trans hb.size hYb.size, fun k hk hne => by
    rw [hYb.block k (by omega)]
    exact hb.block k hk fun e => hne (by rw [e])⟩
  have hoY : Y.ownsRow base 28 1 vo O.length ds := h1.kept hXY (owns_off h1 (by omega))
  have hYs := hYb.size
  obtain ⟨cnt, m1⟩ := hm
  have m2 := m1.below (Nat.le_refl _) hYb
  rw [← hY]
  refine ⟨ds, hoY, by omega, fun g cap n Z hn ho hg hat => ?_⟩
  have hoff : ∀ k, k < base → some k ≠ vo.ownBlock := fun k hk q => by have := (h1.lt k q.symm).1; omega
  have hne : canonR (pathL E d K) ≠ [] := fun q => by
    have := congrArg List.length q
    rw [canonR_len, pathL_len] at this
    simp at this
  have hpl : (canonR (pathL E d K)).length = K + 2 := by rw [canonR_len, pathL_len]
  obtain ⟨b, off, rfl, hbl, hcc⟩ := hi hne
  have hbX := ha b off rfl
  refine ⟨?_, ?_, ⟨cnt, m2.same (hg.block _ m2.lt (hoff _ (by omega)))⟩, hl, by have := hg.size; omega⟩
  · have hB : But base (nm + 1) W Y := h.but.grown hXY hs (fun q hq => by cases hq; exact .inr rfl)
    exact hB.grown hg (by omega) (fun q hq => .inl (h1.lt q hq).1)
  · refine RowsIn.push (p := canonR (pathL E d K)) (c := c) h1 h2 hXY (by omega) hbX (by omega) hs (by omega) (fun j hj => ?_) hn (by rw [hpl]; exact ho) hg (hat.imp_right fun e => Nat.le_of_eq e.symm)
    have := hYb.block b hbl
    have e := hcc j hj
    simp only [World.cell?, this] at e ⊢
    exact e
/-- The edges at the vertices of a pass have been found: those of the first i, and the first j of vertex v. -/
structure Pass18 (E : List (Int × Int)) (V : List Int) (rd : Bool) (i : Nat) (v : Int) (j : Nat) (G : Int × Int → Prop) : Prop where
  op : rd = true → Opens18 E G
  at_ : ∀ u x, u ∈ V.take i → decide (degE E u = 2) = rd → x ∈ nbE E u → G (flatE u x)
  here : ∀ x, x ∈ (nbE E v).take j → G (flatE v x)
theorem Pass18.mono {E : List (Int × Int)} {V : List Int} {rd : Bool} {i : Nat} {v : Int} {j : Nat} {G G' : Int × Int → Prop} (h : Pass18 E V rd i v j G) (hg : ∀ e, G e → G' e) : Pass18 E V rd i v j G' := ⟨fun hr u x h1 h2 => hg _ (h.op hr u x h1 h2), fun u x h1 h2 h3 => hg _ (h.at_ u x h1 h2 h3), fun x hx => hg _ (h.here x hx)⟩
theorem take_more {α : Type} {L : List α} {i : Nat} {v u : α} (hv : L[i]? = some v) (hu : u ∈ L.take (i + 1)) : u ∈ L.take i ∨ u = v := by
  rw [List.take_add_one, hv] at hu
  simpa using hu
theorem Pass18.step {E : List (Int × Int)} {V : List Int} {rd : Bool} {i : Nat} {v : Int} {j : Nat} {G : Int × Int → Prop} (h : Pass18 E V rd i v j G) {x : Int} (hx : (nbE E v)[j]? = some x) (hg : G (flatE v x)) : Pass18 E V rd i v (j + 1) G :=
  ⟨h.op, h.at_, fun y hy => by
    rcases take_more hx hy with q | q
    · exact h.here y q
    · rw [q]; exact hg⟩
/-- A vertex is done. -/
theorem Pass18.next {E : List (Int × Int)} {V : List Int} {rd : Bool} {i : Nat} {v v' : Int} {j : Nat} {G : Int × Int → Prop} (h : Pass18 E V rd i v j G) (hv : V[i]? = some v) (hj : j = (nbE E v).length ∨ decide (degE E v = 2) ≠ rd) : Pass18 E V rd (i + 1) v' 0 G :=
  ⟨h.op, fun u x hu hd hx => by
    rcases take_more hv hu with q | q
    · exact h.at_ u x q hd hx
    · subst q
      rcases hj with hj | hj
      · exact h.here x (by rw [hj, List.take_length]; exact hx)
      · exact absurd hd hj, fun x hx => by simp at hx⟩
theorem Pass18.start {E : List (Int × Int)} {V : List Int} {rd : Bool} {v : Int} {G : Int × Int → Prop} (h : rd = true → Opens18 E G) : Pass18 E V rd 0 v 0 G := ⟨h, fun u x hu => by simp at hu, fun x hx => by simp at hx⟩
/-- A pass is done. -/
theorem Pass18.opens {E : List (Int × Int)} {V : List Int} (hV : ∀ u, nbE E u ≠ [] → u ∈ V) {v : Int} {j : Nat} {G : Int × Int → Prop} (h : Pass18 E V false V.length v j G) : Opens18 E G := fun u x hd hx =>
  h.at_ u x (by rw [List.take_length]; exact hV u fun q => by rw [q] at hx; cases hx) (by simpa using hd) hx
theorem Pass18.all {E : List (Int × Int)} (hR : RightE E) {V : List Int} (hV : ∀ u, nbE E u ≠ [] → u ∈ V) {v : Int} {j : Nat} {G : Int × Int → Prop} (h : Pass18 E V true V.length v j G) : ∀ e, e ∈ E → G e := fun e he => by
  have hlt := hR.lt e he
  have hx : e.2 ∈ nbE E e.1 := (nbE_mem hR).2 (by rw [flatE_lt hlt]; exact he)
  have : G (flatE e.1 e.2) := by
    by_cases hd : degE E e.1 = 2
    · exact h.at_ e.1 e.2 (by rw [List.take_length]; exact hV _ fun q => by rw [q] at hx; cases hx) (by simpa using hd) hx
    · exact h.op rfl e.1 e.2 hd hx
  rw [flatE_lt hlt] at this
  exact this
/-- An edge that hasn't been found begins a path. -/
theorem Pass18.path {E : List (Int × Int)} (hR : RightE E) {V : List Int} (hV : ∀ u, nbE E u ≠ [] → u ∈ V) (hS : V.Pairwise (· < ·)) {rd : Bool} {i : Nat} {v : Int} {j : Nat} {G : Int × Int → Prop} {O : List (List Int)} (s : PSt18 E O G) (h : Pass18 E V rd i v j G) (hv : V[i]? = some v) (hd : decide (degE E v = 2) = rd) {x : Int} (hx : x ∈ nbE E v) (hn : ¬ G (flatE v x)) : ∃ K, Path18 E (v, x) K := by
  cases rd with
  | false => exact open_whole hR (d := (v, x)) hx (by simpa using hd)
  | true =>
    refine s.round hR (h.op rfl) (d := (v, x)) hx (by simpa using hd) (fun u y hu hdu hy => ?_) hn
    refine h.at_ u y ?_ (by simpa using hdu) hy
    have hm := hV u fun q => by rw [q] at hy; cases hy
    obtain ⟨q, hq, rfl⟩ := List.getElem_of_mem hm
    have hi := (List.getElem?_eq_some_iff.1 hv).1
    have hvi : V[i] = v := (List.getElem?_eq_some_iff.1 hv).2
    have hlt : q < i := by
      apply Classical.byContradiction
      intro hge
      by_cases e : q = i
      · subst e
        simp only at hu
        omega
      · have := List.pairwise_iff_getElem.1 hS i q hi hq (by omega)
        simp only at hu
        omega
    exact List.mem_take_iff_getElem.2 ⟨q, by omega, rfl⟩
/-- There are not more paths than steps. -/
theorem PSt18.bound {E : List (Int × Int)} (hR : RightE E) {O : List (List Int)} {G : Int × Int → Prop} (s : PSt18 E O G) : O.length ≤ 2 * E.length := by
  have hc : ∀ p : List Int, ∃ d : Int × Int, p ∈ O → ∃ K, Path18 E d K ∧ p = canonR (pathL E d K) := fun p => by
    by_cases hp : p ∈ O
    · obtain ⟨d, K, h⟩ := s.is p hp
      exact ⟨d, fun _ => ⟨K, h⟩⟩
    · exact ⟨(0, 0), fun h => absurd h hp⟩
  obtain ⟨f, hf⟩ := Classical.axiomOfChoice hc
  have hnd : (O.map f).Nodup := by
    rw [List.nodup_iff_pairwise_ne, List.pairwise_map]
    refine List.Pairwise.imp_of_mem (fun {a b} ha hb hne e => ?_) s.nd
    obtain ⟨K, p1, e1⟩ := hf a ha
    obtain ⟨L, p2, e2⟩ := hf b hb
    rw [← e] at p2 e2
    have := trail_one p1.w.tr p1.w.stop p2.w.tr p2.w.stop
    subst this
    exact hne (e1.trans e2.symm)
  have := hnd.length_le_of_subset (l₂ := dartsL E) (fun x hx => by
    obtain ⟨p, hp, rfl⟩ := List.mem_map.1 hx
    obtain ⟨K, p1, -⟩ := hf p hp
    exact p1.w.tr.isD.mem hR)
  simp [dartsL] at this
  omega
theorem sortZ_perm (D : List Int) : (sortZ D).Perm D := List.mergeSort_perm _ _
theorem sortZ_lt {D : List Int} (h : D.Nodup) : (sortZ D).Pairwise (· < ·) := by
  have h1 : (sortZ D).Pairwise (· ≤ ·) := by
    have := List.pairwise_mergeSort (le := fun x y : Int => decide (x ≤ y)) (fun a b c => by simp; omega) (fun a b => by simp; omega) D
    simpa [sortZ] using this
  have h2 := List.nodup_iff_pairwise_ne.1 ((sortZ_perm D).nodup_iff.2 h)
  exact (h1.and h2).imp fun {a b} hh => by have := hh.1; have := hh.2; omega
theorem infoInts18 : (Tryz.prog.info? 28).map (fun i => (i.zero, i.size, i.bytes)) = some (some (.slice none 0 0), 1, 24) := by kernel_rfl
theorem nb_ends {E : List (Int × Int)} {v : Int} (hne : nbE E v ≠ []) : v ∈ E.map Prod.fst ++ E.map Prod.snd := by
  obtain ⟨u, hu⟩ := List.exists_mem_of_ne_nil _ hne
  unfold nbE at hu
  obtain ⟨e, he, hm⟩ := List.mem_flatMap.1 hu
  rw [List.mem_append]
  rcases List.mem_append.1 hm with hm | hm
  · by_cases q : e.1 = v
    · exact .inl (List.mem_map.2 ⟨e, he, q⟩)
    · simp [q] at hm
  · by_cases q : e.2 = v
    · exact .inr (List.mem_map.2 ⟨e, he, q⟩)
    · simp [q] at hm
theorem ends_i64 {E : List (Int × Int)} (h : EI64 E) {v : Int} (hv : degE E v ≠ 0) : I64 v := by
  have hm := nb_ends (E := E) (v := v) (fun q => hv (by rw [← nbE_len, q]; rfl))
  rcases List.mem_append.1 hm with hm | hm
  · obtain ⟨e, he, rfl⟩ := List.mem_map.1 hm
    exact (h e he).1
  · obtain ⟨e, he, rfl⟩ := List.mem_map.1 hm
    exact (h e he).2
theorem Pass18.next' {E : List (Int × Int)} {V : List Int} {rd : Bool} {i : Nat} {v v' z : Int} {G : Int × Int → Prop} (h : Pass18 E V rd i z 0 G) (hv : V[i]? = some v) (hd : decide (degE E v = 2) ≠ rd) : Pass18 E V rd (i + 1) v' 0 G :=
  ⟨h.op, fun u x hu hdu hx => by
    rcases take_more hv hu with q | q
    · exact h.at_ u x q hdu hx
    · subst q; exact absurd hdu hd, fun x hx => by simp at hx⟩
structure Mid18 (w W : World) (nm base : Nat) (E : List (Int × Int)) (V : List Int) (av : Option Addr) (bb : Nat) : Prop where
  near : ∀ X, But base (nm + 1) W X → Near X nm E
  row : ∀ v, nbE E v ≠ [] → I64 v → ∃ nb off cap, ∀ X, But base (nm + 1) W X → (Instr.lookup 88 (.map (some nm)) (.int .i64 v) false).run Tryz.prog X = .ok (.slice (some ⟨nb, off, none⟩) (nbE E v).length cap) X ∧ ∀ i, i < (nbE E v).length → X.cell? ⟨nb, off + i, none⟩ = some (.int .i64 (I! (nbE E v) i))
  web : ∀ X, But base (nm + 1) W X → X.cell? ⟨nm + 2, 0, none⟩ = some (.map (some nm)) ∧ X.cell? ⟨nm + 2, 1, none⟩ = some (.map (some (nm + 1)))
  all : ∀ X, But base (nm + 1) W X → IntsAt X av V
  bool : ∀ X, But base (nm + 1) W X → X.cell? ⟨bb, 0, none⟩ = some (.bool false) ∧ X.cell? ⟨bb, 1, none⟩ = some (.bool true)
  low : ∀ X, But base (nm + 1) W X → Below nm w X
  st : PS3 W W nm base (.slice none 0 0) [] (fun _ => False)
  enm : w.heap.size = nm
  srt : V.Pairwise (· < ·)
  mem : ∀ u, u ∈ V ↔ nbE E u ≠ []
theorem mid_ok {w X w2 W : World} {nm : Nat} {A : Int → Value} {E : List (Int × Int)} {D : List Int} {vV bx : Value} {tb : TypeId} (hps : PS1 w X nm A (fun e => e ∈ E) (nbE E)) (hnd : D.Nodup) (hin : ∀ a, a ∈ D ↔ nC A (nbE E) a ≠ none)
    (hb2 : Below (X.heap.size + 1) (X.alloc (.cells #[bx] tb)) w2) (hown : w2.ownsRow (X.heap.size + 1) 3 1 vV D.length (ic (sortZ D))) (hW : W = w2.alloc (.cells #[.bool false, .bool true] 4)) :
    ∃ av capV, vV = .slice av (sortZ D).length capV ∧ (sortZ D).length = D.length ∧ Mid18 w W nm W.heap.size E (sortZ D) av w2.heap.size := by
  have hl : (sortZ D).length = D.length := (sortZ_perm D).length_eq
  have hXw : Below X.heap.size X w2 := ((Below.refl _ _).alloc (Nat.le_refl _) _).trans (hb2.mono (by omega))
  have hwW : Below w2.heap.size w2 W := by rw [hW]; exact (Below.refl _ _).alloc (Nat.le_refl _) _
  have hXW : Below X.heap.size X W := below_more hXw hwW hXw.size
  have hWs : W.heap.size = w2.heap.size + 1 := by rw [hW]; simp
  have hXs := hXw.size
  have hsz := hps.sz
  have hpW := hps.more hXW
  have hgm := hpW.gone
  have hmap : ∃ es c, W.heap[nm + 1]? = some (.map es c) := by
    obtain ⟨L, clock, q, -⟩ := hgm
    exact ⟨_, _, q⟩
  have hbr : RowIs W w2.heap.size 4 [.bool false, .bool true] := by rw [hW]; exact RowIs.made w2 4 [.bool false, .bool true]
  have hnear := hpW.nb.near
  obtain ⟨av, capV, rfl⟩ := owns_slice hown
  refine ⟨av, capV, by rw [hl], hl, ⟨fun Y hY => hnear.but hY (by omega) hmap, fun v hv hI => ?_, fun Y hY => ?_, fun Y hY hne => ?_, fun Y hY => ?_, fun Y hY => ?_, ⟨But.refl _ _ _, RowsIn.nil _ _, ⟨0, hgm⟩, by omega, Nat.le_refl _⟩, hps.enm, sortZ_lt hnd, fun u => ?_⟩⟩
  · obtain ⟨cnt, C, h1, h2⟩ := hnear
    obtain ⟨nb, off, cap, e1, e2, e3⟩ := (h2 v).2 hv
    refine ⟨nb, off, cap, fun Y hY => ⟨?_, fun i hi => ?_⟩⟩
    · have := (h1.same (hY.block nm h1.lt (by omega))).look 88 28 (by kernel_rfl) zeroSlice v hI false
      rw [e1] at this
      simpa [intFam] using this
    · have hbg : nb ≠ nm + 1 := by
        rintro rfl
        obtain ⟨es, c, hm⟩ := hmap
        have := e3 0 (List.length_pos_iff.2 hv)
        simp [World.cell?, hm] at this
      rw [hY.cell e2 hbg]
      exact e3 i hi
  · have := hY.row hpW.box (by omega) (by omega)
    exact ⟨this.cell (i := 0) rfl, this.cell (i := 1) rfl⟩
  · have hpos : 0 < D.length := by rw [← hl]; exact List.length_pos_iff.2 hne
    obtain ⟨g, cap, hv, hg, hlt, -, -, hc, -⟩ := owns_block hown hpos
    simp only [Value.slice.injEq] at hv
    obtain ⟨rfl, -, rfl⟩ := hv
    refine ⟨g, 0, rfl, by have := hY.size; omega, fun i hi => ?_⟩
    rw [Nat.zero_add, hY.cell (by omega) (by omega)]
    have := hwW.block g hlt
    have e := hc i (.int .i64 (I! (sortZ D) i)) (by simp [ic, I!, List.getD_eq_getElem?_getD, hi])
    simp only [World.cell?, this] at e ⊢
    exact e
  · have := hY.row hbr (by omega) (by omega)
    exact ⟨this.cell (i := 0) rfl, this.cell (i := 1) rfl⟩
  · have hB := hY.below (B' := nm) (by omega) (by omega)
    exact hpW.low.trans hB
  · rw [(sortZ_perm D).mem_iff, hin]
    unfold nC
    by_cases q : nbE E u = [] <;> simp [q]
end Go.Proofs.YtkjamheoihlekaaGreat

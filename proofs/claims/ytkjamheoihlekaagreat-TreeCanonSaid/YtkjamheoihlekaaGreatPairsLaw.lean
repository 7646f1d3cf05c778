/- Plain: when keys are apart. What certify.pairs keeps: the triangles of each key, the pairs that were told, the witnesses. slices.SortFunc of witnesses, by certify.All's comparison. -/
import Derived.Test.YtkjamheoihlekaaGreatMapLaw
import Derived.Test.YtkjamheoihlekaaGreatCertKeys
import Derived.Test.YtkjamheoihlekaaGreatQueue
import Derived.Test.YtkjamheoihlekaaGreatCmpW
import Derived.Shelf.SlSortCmp.WholeK
namespace Go.Proofs.YtkjamheoihlekaaGreat
set_option linter.unusedVariables false
set_option linter.unusedSimpArgs false
open Go.RowKit Go.Maps
open Go.RowKit Go.Lib Go.Sort
def pairFam : KeyFam 39 (Int × Int) where
  kv a := .agg #[.int .i64 a.1, .int .i64 a.2]
  ok a := I64 a.1 ∧ I64 a.2
  keyed := Keyed.of_law (deep_law_laid laidOut (m := 2) (by omega) (of_decide_eq_true (by kernel_rfl)) (by kernel_rfl) (by kernel_rfl))
  rd a h := by
    have hu : Tryz.prog.underlying 39 = some (.array 2 3) := by kernel_rfl
    have hk : Tryz.prog.keyType 39 = true := by kernel_rfl
    have hf : (Value.agg #[.int .i64 a.1, .int .i64 a.2]).formed Tryz.prog 39 = true := by kernel_rfl
    have hc : Tryz.prog.cellsOf 39 = 2 := by kernel_rfl
    have hc3 : Tryz.prog.cellsOf 3 = 1 := by kernel_rfl
    rw [keyOf, hu]
    simp only [hk, hf, Value.cells, Program.keyLits, hu, hc, hc3, Bool.and_self, if_true]
    simp [List.range_succ, keyLits_int _ h.1, keyLits_int _ h.2]
  inj a b h := by
    obtain ⟨a1, a2⟩ := a
    simp at h
    exact Prod.ext h.1 h.2
/-- All keys of the first triangles. -/
def KL (f : Tr → List Ky) (T : List Tr) (k : Nat) : List Ky := (List.range k).flatMap fun i => f (T! T i)
theorem KL_zero (f : Tr → List Ky) (T : List Tr) : KL f T 0 = [] := rfl
theorem KL_succ (f : Tr → List Ky) (T : List Tr) (k : Nat) : KL f T (k + 1) = KL f T k ++ f (T! T k) := by simp [KL, List.range_succ]
theorem KL_mem {f : Tr → List Ky} {T : List Tr} {k : Nat} {a : Ky} : a ∈ KL f T k ↔ ∃ i, i < k ∧ a ∈ f (T! T i) := by simp [KL]
theorem KL_apart {f : Tr → List Ky} {T : List Tr} (h : (KL f T T.length).Nodup) : KeysApart T f := by
  have key : ∀ k, k ≤ T.length → (KL f T k).Nodup → ∀ (i i' p q : Nat) (a : Ky), i < k → i' < k → (f (T! T i))[p]? = some a → (f (T! T i'))[q]? = some a → i = i' ∧ p = q := by
    intro k
    induction k with
    | zero => intro _ _ i i' p q a h; omega
    | succ k ih =>
      intro hk hn i i' p q a hi hi' hp hq
      rw [KL_succ] at hn
      obtain ⟨h1, h2, h3⟩ := List.nodup_append.1 hn
      by_cases e : i = k
      · by_cases e' : i' = k
        · subst e
          subst e'
          refine ⟨rfl, ?_⟩
          obtain ⟨hl, hp'⟩ := List.getElem?_eq_some_iff.1 hp
          obtain ⟨hl', hq'⟩ := List.getElem?_eq_some_iff.1 hq
          exact (List.getElem_inj h2).1 (hp'.trans hq'.symm)
        · exact absurd rfl (h3 a (KL_mem.2 ⟨i', by omega, List.mem_of_getElem? hq⟩) a (by rw [← e]; exact List.mem_of_getElem? hp))
      · by_cases e' : i' = k
        · exact absurd rfl (h3 a (KL_mem.2 ⟨i, by omega, List.mem_of_getElem? hp⟩) a (by rw [← e']; exact List.mem_of_getElem? hq))
        · exact ih (by omega) h1 i i' p q a (by omega) (by omega) hp hq
  exact key _ (Nat.le_refl _) h
theorem KL_nodup {f : Tr → List Ky} {T : List Tr} (h : KeysApart T f) : (KL f T T.length).Nodup := by
  have key : ∀ k, k ≤ T.length → (KL f T k).Nodup := by
    intro k
    induction k with
    | zero => intro _; simp [KL_zero]
    | succ k ih =>
      intro hk
      rw [KL_succ]
      refine List.nodup_append.2 ⟨ih (by omega), ?_, fun a ha b hb => ?_⟩
      · refine List.nodup_iff_pairwise_ne.2 (List.pairwise_iff_getElem.2 fun i j hi hj hij e => ?_)
        have := h k k i j _ (by omega) (by omega) (List.getElem?_eq_getElem hi) (by rw [List.getElem?_eq_getElem hj, e])
        omega
      · rintro rfl
        obtain ⟨i, hi, ha⟩ := KL_mem.1 ha
        obtain ⟨p, hp⟩ := List.mem_iff_getElem?.1 ha
        obtain ⟨q, hq⟩ := List.mem_iff_getElem?.1 hb
        have := h i k p q a (by omega) (by omega) hp hq
        omega
  exact key _ (Nat.le_refl _)
/-- What is known behind so many keys: E the triangles of each, L what was told. -/
structure PairSt (ks : List Ky) (k : Nat) (E : Ky → List Nat) (L : List Ky) : Prop where
  mem : ∀ a, E a ≠ [] ↔ a ∈ ks
  lt : ∀ a x, x ∈ E a → x ≤ k
  len : ∀ a, (E a).length ≤ ks.length
  told : L = [] ↔ ks.Nodup
theorem PairSt.start (E : Ky → List Nat) (hE : ∀ a, E a = []) : PairSt [] 0 E [] := ⟨fun a => by simp [hE a], fun a x h => by simp [hE a] at h, fun a => by simp [hE a], by simp⟩
theorem PairSt.up {ks : List Ky} {k : Nat} {E : Ky → List Nat} {L : List Ky} (h : PairSt ks k E L) : PairSt ks (k + 1) E L := ⟨h.mem, fun a x hx => Nat.le_succ_of_le (h.lt a x hx), h.len, h.told⟩
theorem PairSt.push {ks : List Ky} {k : Nat} {E : Ky → List Nat} {L L' : List Ky} (h : PairSt ks k E L) (ky : Ky) (hL : L' = [] ↔ L = [] ∧ E ky = []) : PairSt (ks ++ [ky]) k (fun b => if b = ky then E ky ++ [k] else E b) L' where
  mem a := by
    by_cases e : a = ky
    · simp [e]
    · simp only [e, if_false, List.mem_append, List.mem_singleton, or_false]
      exact h.mem a
  lt a x hx := by
    by_cases e : a = ky
    · simp only [e, if_true, List.mem_append, List.mem_singleton] at hx
      rcases hx with hx | rfl
      · exact h.lt _ x hx
      · omega
    · simp only [e, if_false] at hx
      exact h.lt a x hx
  len a := by
    have h1 := h.len a
    have h2 := h.len ky
    split
    · simp; omega
    · simp; omega
  told := by
    rw [hL, h.told, List.nodup_append]
    have := h.mem ky
    constructor
    · rintro ⟨h1, h2⟩
      refine ⟨h1, by simp, fun a ha b hb => ?_⟩
      simp at hb
      rintro rfl
      rw [hb] at ha
      exact this.2 ha h2
    · rintro ⟨h1, -, h3⟩
      refine ⟨h1, ?_⟩
      cases e : E ky with
      | nil => rfl
      | cons x l => exact absurd rfl (h3 ky (this.1 (by rw [e]; simp)) ky (by simp))
/-- The map of pairs that were told. -/
def Seen (w : World) (m : Nat) (L : List Ky) : Prop := ∃ n D, MapIs pairFam w m n D ∧ (L = [] → ∀ a, D a = none) ∧ ∀ a v, D a = some v → v = .bool true
/-- Witnesses of one kind, in a row of the call's own. -/
def WitRow (w : World) (base : Nat) (v : Value) (kind : Int) (L : List Ky) : Prop := w.ownsRow base 55 3 v L.length (kcells L) ∧ ∀ x, x ∈ L → x.1 = kind
theorem kcells_snoc (L : List Ky) (t : Ky) : kcells (L ++ [t]) = kcells L ++ [.int .i64 t.1, .int .i64 t.2.1, .int .i64 t.2.2] := by simp [kcells]
theorem WitRow.nil (w : World) (base : Nat) (kind : Int) : WitRow w base (.slice none 0 0) kind [] := ⟨World.ownsRow_nil _ _ _ _, by simp⟩
theorem WitRow.below {w w' : World} {base : Nat} {v : Value} {kind : Int} {L : List Ky} (h : WitRow w base v kind L) (hb : Below w.heap.size w w') : WitRow w' base v kind L := ⟨owns_below h.1 hb, h.2⟩
theorem WitRow.push {w : World} {base : Nat} {v : Value} {kind : Int} {L : List Ky} {a b : Int} (h : w.ownsRow base 55 3 v (L.length + 1) (kcells L ++ [.int .i64 kind, .int .i64 a, .int .i64 b])) (hk : ∀ x, x ∈ L → x.1 = kind) : WitRow w base v kind (L ++ [(kind, a, b)]) := by
  refine ⟨?_, fun x hx => ?_⟩
  · rw [kcells_snoc, List.length_append]
    exact h
  · simp only [List.mem_append, List.mem_singleton] at hx
    rcases hx with hx | rfl
    · exact hk x hx
    · rfl
theorem infoWit : (Tryz.prog.info? 55).map (fun i => (i.zero, i.size, i.bytes)) = some (some (.agg #[.int .i64 0, .int .i64 0, .int .i64 0]), 3, 24) := by kernel_rfl
/-- What a kind's function tells: witnesses of that kind, none just if P. -/
def WitPost (W : World) (kind : Int) (P : Prop) (e : Ending) (w' : World) : Prop := ∃ (v : Value) (L : List Ky), e = .returned v ∧ WitRow w' W.heap.size v kind L ∧ L.length ≤ 1000000000 ∧ (L = [] ↔ P) ∧ Below W.heap.size W w'
/-- A row of one type is no row of another. -/
theorem own_other {w : World} {b1 b2 : Nat} {e1 e2 : TypeId} {s1 s2 : Nat} {v1 v2 : Value} {n1 n2 : Nat} {x1 x2 : List Value} (h1 : w.ownsRow b1 e1 s1 v1 n1 x1) (h2 : w.ownsRow b2 e2 s2 v2 n2 x2) (hne : e1 ≠ e2) : v1.ownBlock = none ∨ v1.ownBlock ≠ v2.ownBlock := by
  obtain ⟨-, k1⟩ := h1
  obtain ⟨-, k2⟩ := h2
  rcases k1 with ⟨k1, -⟩ | ⟨g, cap, cur, hv, hg, hh, -⟩
  · subst k1; exact .inl rfl
  · subst hv
    right
    rcases k2 with ⟨k2, -⟩ | ⟨g2, cap2, cur2, hv2, hg2, hh2, -⟩
    · subst k2; simp [Value.ownBlock]
    · subst hv2
      intro e
      simp [Value.ownBlock] at e
      subst e
      rw [hh] at hh2
      simp at hh2
      exact hne hh2.2
theorem Fam.kept' {ι : Type} {w w' : World} {base b2 : Nat} {e2 : TypeId} {s2 n2 : Nat} {v2 : Value} {x2 : List Value} {vs : ι → Value} {E : ι → List Nat} (h : Fam w base vs E) (h2 : w.ownsRow b2 e2 s2 v2 n2 x2) (hg : w.grownBy w' v2.ownBlock) (hne : 3 ≠ e2) : Fam w' base vs E :=
  ⟨fun i => (h.1 i).kept hg (own_other (h.1 i) h2 hne), h.2⟩
theorem map_other {k : TypeId} {κ : Type} {F : KeyFam k κ} {w : World} {m n : Nat} {C : κ → Option Value} {base : Nat} {e : TypeId} {size : Nat} {v : Value} {nn : Nat} {xs : List Value} (h : MapIs F w m n C) (ho : w.ownsRow base e size v nn xs) : some m ≠ v.ownBlock := by
  obtain ⟨es, c, h1, -⟩ := h
  obtain ⟨-, k2⟩ := ho
  rcases k2 with ⟨k2, -⟩ | ⟨g2, cap2, cur2, hv2, hg2, hh2, -⟩
  · subst k2; simp [Value.ownBlock]
  · subst hv2
    simp [Value.ownBlock]
    rintro rfl
    rw [h1] at hh2
    simp at hh2
theorem owns_low {w w' : World} {base : Nat} {e : TypeId} {size : Nat} {v : Value} {n : Nat} {xs : List Value} {b : Nat} (h : w.ownsRow base e size v n xs) (hg : w.grownBy w' (some b)) (hb : b < base) : w'.ownsRow base e size v n xs :=
  h.kept hg (by
    cases e : v.ownBlock with
    | none => exact .inl rfl
    | some g => have := (h.lt g e).1; exact .inr (by simp; omega))
theorem Seen.below {w w' : World} {m : Nat} {L : List Ky} (h : Seen w m L) (hb : Below w.heap.size w w') : Seen w' m L := by
  obtain ⟨n, D, h1, h2⟩ := h
  exact ⟨n, D, h1.below (Nat.le_refl _) hb, h2⟩
theorem Seen.grown {w w' : World} {m : Nat} {L : List Ky} {row : Option Nat} (h : Seen w m L) (hg : w.grownBy w' row) (hne : some m ≠ row) : Seen w' m L := by
  obtain ⟨n, D, h1, h2⟩ := h
  exact ⟨n, D, h1.same (hg.block _ h1.lt hne), h2⟩
theorem Seen.lt {w : World} {m : Nat} {L : List Ky} (h : Seen w m L) : m < w.heap.size := by
  obtain ⟨n, D, h1, h2⟩ := h
  exact h1.lt
theorem Seen.other {w : World} {m : Nat} {L : List Ky} (h : Seen w m L) {base : Nat} {e : TypeId} {size : Nat} {v : Value} {nn : Nat} {xs : List Value} (ho : w.ownsRow base e size v nn xs) : some m ≠ v.ownBlock := by
  obtain ⟨n, D, h1, h2⟩ := h
  exact map_other h1 ho
theorem row_other {w : World} {g : Nat} {e e2 : TypeId} {xs ys : List Value} {base size nn : Nat} {v : Value} (h : RowIs w g e xs) (ho : w.ownsRow base e2 size v nn ys) (hne : e ≠ e2) : some g ≠ v.ownBlock := by
  obtain ⟨-, k2⟩ := ho
  rcases k2 with ⟨k2, -⟩ | ⟨g2, cap2, cur2, hv2, hg2, hh2, -⟩
  · subst k2; simp [Value.ownBlock]
  · subst hv2
    simp [Value.ownBlock]
    rintro rfl
    have := h.symm.trans hh2
    simp at this
    exact hne this.2
/-- What stands while the pairs of one key are told: the map 'had' in block m, 'seen' behind it. -/
structure PBox (w0 : World) (m n : Nat) (C : Ky → Option Value) (E : Ky → List Nat) (g gk : Nat) (F ky : List Value) (kind : Int) (vl : Value) (L : List Ky) (ws : World) : Prop where
  had : MapB triFam ws m n C
  fam : Fam ws (m + 2) (fun x => (C x).getD (.slice none 0 0)) E
  seen : Seen ws (m + 1) L
  wit : WitRow ws (m + 2) vl kind L
  row : RowIs ws g 71 F
  key : RowIs ws gk 71 ky
  far : m + 1 < g ∧ m + 1 < gk
  bel : Below m w0 ws
section
variable {w0 : World} {m n : Nat} {C : Ky → Option Value} {E : Ky → List Nat} {g gk : Nat} {F ky : List Value} {kind : Int} {vl : Value} {L : List Ky} {ws : World}
theorem PBox.below (h : PBox w0 m n C E g gk F ky kind vl L ws) {w' : World} (hb : Below ws.heap.size ws w') : PBox w0 m n C E g gk F ky kind vl L w' :=
  ⟨h.had.below (Nat.le_refl _) hb, h.fam.more hb, h.seen.below hb, h.wit.below hb, h.row.after hb, h.key.after hb, h.far, below_more h.bel hb (Nat.le_of_lt h.had.lt)⟩
/-- The pair is looked up: it is not there. -/
theorem PBox.ask (h : PBox w0 m n C E g gk F ky kind vl L ws) (a b : Int) (ha : I64 a) (hb : I64 b) :
    ((Instr.lookup 192 (.map (some (m + 1))) (.agg #[.int .i64 a, .int .i64 b]) false).run Tryz.prog ws = .ok (.bool true) ws ∧ L ≠ []) ∨
    ((Instr.lookup 192 (.map (some (m + 1))) (.agg #[.int .i64 a, .int .i64 b]) false).run Tryz.prog ws = .ok (.bool false) ws ∧
      ∃ w', (Instr.mapUpdate 192 (.map (some (m + 1))) (.agg #[.int .i64 a, .int .i64 b]) (.bool true)).run Tryz.prog ws = .ok () w' ∧
        (∀ L', L' ≠ [] → Seen w' (m + 1) L') ∧ ws.grownBy w' (some (m + 1))) := by
  obtain ⟨n2, D, h1, h2, h3⟩ := h.seen
  have hlk := h1.look 192 4 (by kernel_rfl) zero_bool (a, b) ⟨ha, hb⟩ false
  simp only [pairFam, Bool.false_eq_true, if_false] at hlk
  cases e : D (a, b) with
  | some v =>
    left
    rw [e, h3 _ _ e] at hlk
    refine ⟨hlk, fun hL => ?_⟩
    rw [h2 hL] at e
    cases e
  | none =>
    right
    rw [e] at hlk
    refine ⟨hlk, ?_⟩
    obtain ⟨w', hst, hm', hg⟩ := h1.store 192 4 (by kernel_rfl) (a, b) ⟨ha, hb⟩ (.bool true)
    refine ⟨w', hst, fun L' hL' => ⟨_, _, hm', fun hh => absurd hh hL', fun x v hv => ?_⟩, hg⟩
    by_cases ex : x = (a, b)
    · simp [ex] at hv; exact hv.symm
    · simp [ex] at hv; exact h3 _ _ hv
/-- It is told. -/
theorem PBox.tell (h : PBox w0 m n C E g gk F ky kind vl L ws) {w1 w2 : World} (hg : ws.grownBy w1 (some (m + 1))) (hs : ∀ L', L' ≠ [] → Seen w1 (m + 1) L') (o : Obj) (v' : Value) (a b : Int)
    (hown : w2.ownsRow (m + 2) 55 3 v' (L.length + 1) (kcells L ++ [.int .i64 kind, .int .i64 a, .int .i64 b])) (hgr : (w1.alloc o).grownBy w2 vl.ownBlock) : PBox w0 m n C E g gk F ky kind v' (L ++ [(kind, a, b)]) w2 := by
  have hal : Below w1.heap.size w1 (w1.alloc o) := (Below.refl _ _).alloc (Nat.le_refl _) _
  have hw1 := owns_below (owns_low h.wit.1 hg (by omega)) hal
  have hm1 := (h.had.same (hg.block _ h.had.lt (by simp))).below (Nat.le_refl _) hal
  have hb1 : Below m w0 w1 := h.bel.grown hg (Nat.le_of_lt h.had.lt) (by intro q hq; cases hq; omega)
  have hml := (h.had.same (hg.block _ h.had.lt (by simp))).lt
  have hs1 := (hs (L ++ [(kind, a, b)]) (by simp)).below hal
  have hr1 := (h.row.grown hg (by have := h.far.1; simp; omega)).after hal
  have hk1 := (h.key.grown hg (by have := h.far.2; simp; omega)).after hal
  refine ⟨hm1.same (hgr.block _ hm1.lt (map_other hm1.to hw1)), ((h.fam.other hg (by omega)).more hal).kept' hw1 hgr (by decide), hs1.grown hgr (hs1.other hw1), WitRow.push hown h.wit.2, hr1.grown hgr (row_other hr1 hw1 (by decide)), hk1.grown hgr (row_other hk1 hw1 (by decide)), h.far, ?_⟩
  exact (hb1.alloc (Nat.le_of_lt hml) o).grown hgr (by have := hm1.lt; omega) (fun q hq => by have := (hw1.lt q hq).1; omega)
/-- The key's entry is taken. -/
theorem PBox.take (h : PBox w0 m n C E g gk F ky kind vl L ws) (a : Ky) (ha : triFam.ok a) :
    ∃ w' c, (Instr.mapEntry 191 (.map (some m)) (.agg #[.int .i64 a.1, .int .i64 a.2.1, .int .i64 a.2.2])).run Tryz.prog ws = .ok (.tuple #[(C a).getD (.slice none 0 0), .int .i64 ((c : Nat) : Int)]) w' ∧ ws.grownBy w' (some m) ∧
      ∃ n', Held triFam w' m n' C a c := by
  obtain ⟨w', c, h1, h2, h3⟩ := h.had.entry 191 28 (by kernel_rfl) zero_ints a ha
  exact ⟨w', c, h1, h3, _, h2⟩
theorem held_other {k : TypeId} {κ : Type} {F : KeyFam k κ} {w : World} {m n : Nat} {C : κ → Option Value} {a : κ} {c : Nat} {base : Nat} {e : TypeId} {size : Nat} {v : Value} {nn : Nat} {xs : List Value} (h : Held F w m n C a c) (ho : w.ownsRow base e size v nn xs) : some m ≠ v.ownBlock := by
  obtain ⟨A, B, e0, cl, h1, -⟩ := h
  obtain ⟨-, k2⟩ := ho
  rcases k2 with ⟨k2, -⟩ | ⟨g2, cap2, cur2, hv2, hg2, hh2, -⟩
  · subst k2; simp [Value.ownBlock]
  · subst hv2
    simp [Value.ownBlock]
    rintro rfl
    rw [h1] at hh2
    simp at hh2
/-- The triangle is appended, and the entry stored. -/
theorem PBox.put (h : PBox w0 m n C E g gk F ky kind vl L ws) (a : Ky) {w1 w2 : World} {c n' k : Nat} (hg : ws.grownBy w1 (some m)) (hh : Held triFam w1 m n' C a c) (v' : Value)
    (hown : w2.ownsRow (m + 2) 3 1 v' ((E a).length + 1) (nv (E a) ++ [.int .i64 (k : Int)])) (hgr : w1.grownBy w2 ((C a).getD (.slice none 0 0)).ownBlock)
    (hat : v'.ownBlock = ((C a).getD (.slice none 0 0)).ownBlock ∨ v'.ownBlock = some w1.heap.size) :
    ∃ w3, (Instr.entryStore 191 (.map (some m)) (.int .i64 ((c : Nat) : Int)) v').run Tryz.prog w2 = .ok () w3 ∧
      PBox w0 m n' (fun b => if b = a then some v' else C b) (fun b => if b = a then E a ++ [k] else E b) g gk F ky kind vl L w3 := by
  have hf1 := h.fam.other hg (by omega)
  have ho1 := hf1.1 a
  have hf2 := hf1.push a k v' hown hgr (by
    rcases hat with e | e
    · exact .inl e
    · exact .inr ⟨_, Nat.le_refl _, e⟩)
  have hh2 := hh.same (hgr.block _ hh.lt (held_other hh ho1))
  obtain ⟨w3, hst, hm3, hg3⟩ := hh2.store 191 v'
  have hw1 := owns_low h.wit.1 hg (by omega)
  have hw2 := hw1.kept hgr (own_other hw1 ho1 (by decide))
  have hs1 := h.seen.grown hg (by simp)
  have hs2 := hs1.grown hgr (hs1.other ho1)
  have hr1 := h.row.grown hg (by have := h.far.1; simp; omega)
  have hk1 := h.key.grown hg (by have := h.far.2; simp; omega)
  have hr2 := hr1.grown hgr (row_other hr1 ho1 (by decide))
  have hk2 := hk1.grown hgr (row_other hk1 ho1 (by decide))
  refine ⟨w3, hst, hm3, ?_, hs2.grown hg3 (by simp), ⟨owns_low hw2 hg3 (by omega), h.wit.2⟩, hr2.grown hg3 (by have := h.far.1; simp; omega), hk2.grown hg3 (by have := h.far.2; simp; omega), h.far, ?_⟩
  · have e : (fun x => (if x = a then some v' else C x).getD (.slice none 0 0)) = fun x => if x = a then v' else (C x).getD (.slice none 0 0) := by
      funext x; by_cases e : x = a <;> simp [e]
    rw [e]
    exact hf2.other hg3 (by omega)
  · have b1 := h.bel.grown hg (Nat.le_of_lt h.had.lt) (by intro q hq; cases hq; omega)
    have b2 := b1.grown hgr (Nat.le_of_lt hh.lt) (fun q hq => by have := (ho1.lt q hq).1; omega)
    exact b2.grown hg3 (Nat.le_of_lt hh2.lt) (by intro q hq; cases hq; omega)
end
def encW (x : Ky) : List Value := [.int .i64 x.1, .int .i64 x.2.1, .int .i64 x.2.2]
theorem ltOf_cmpW (s t : Ky) : Go.Proofs.ltOf cmpW s t = true ↔ s.2.2 < t.2.2 ∨ s.2.2 = t.2.2 ∧ s.2.1 < t.2.1 := by
  unfold Go.Proofs.ltOf cmpW orI Lib.compareInt
  simp only [decide_eq_true_eq]
  by_cases h1 : s.2.2 < t.2.2
  · simp [h1]
  · by_cases h2 : t.2.2 < s.2.2
    · have : ¬ s.2.2 = t.2.2 := by omega
      simp [h1, h2, this]
    · have e : s.2.2 = t.2.2 := by omega
      simp only [h1, h2, if_false, if_true, e, false_or, true_and]
      by_cases h3 : s.2.1 < t.2.1
      · simp [h3]
      · by_cases h4 : t.2.1 < s.2.1
        · simp [h3, h4]
        · simp [h3, h4]
theorem swo_cmpW : Go.Sort.SWO (Go.Proofs.ltOf cmpW) where
  irrefl x := by
    cases h : Go.Proofs.ltOf cmpW x x
    · rfl
    · have := (ltOf_cmpW x x).1 h
      omega
  trans x y z h1 h2 := by
    have a := (ltOf_cmpW x y).1 h1
    have b := (ltOf_cmpW y z).1 h2
    exact (ltOf_cmpW x z).2 (by omega)
  ntrans x y z h1 h2 := by
    have a : ¬ _ := fun h => by rw [(ltOf_cmpW x y).2 h] at h1; cases h1
    have b : ¬ _ := fun h => by rw [(ltOf_cmpW y z).2 h] at h2; cases h2
    cases h : Go.Proofs.ltOf cmpW x z
    · rfl
    · have c := (ltOf_cmpW x z).1 h
      omega
theorem flat_get3 {L : List Ky} {p q : Nat} (hp : p < L.length) (hq : q < 3) : (kcells L)[p * 3 + q]? = some (flatK encW 3 L.toArray)[p * 3 + q]! := by
  rw [get_flatK _ _ _ _ (by simp; omega), show (p * 3 + q) / 3 = p by omega, show (p * 3 + q) % 3 = q by omega]
  obtain ⟨c0, c1, c2⟩ := kcells_get (L := L) (List.getElem?_eq_getElem hp)
  have e : L.toArray[p]! = L[p] := by rw [getElem!_pos L.toArray p (by simpa using hp)]; simp
  rw [e]
  match q, hq with
  | 0, _ => simpa [encW] using c0
  | 1, _ => simpa [encW] using c1
  | 2, _ => simpa [encW] using c2
theorem flat_get {L : List Ky} {j : Nat} (h : j < L.length * 3) : (kcells L)[j]? = some (flatK encW 3 L.toArray)[j]! := by
  have := flat_get3 (L := L) (p := j / 3) (q := j % 3) (by omega) (by omega)
  rwa [show j / 3 * 3 + j % 3 = j by omega] at this
theorem grown_sortK (w : World) (blk off m : Nat) (dk : Array Ky) (os : Array Obj) (hb : blk < w.heap.size) : w.grownBy (Go.Proofs.sortWorldK encW 3 w blk off m dk os) (some blk) := by
  have h1 : (Go.Proofs.sortWorldK encW 3 w blk off m dk os).heap.size = w.heap.size + os.size := by
    show (Go.Sort.grow (Go.Sort.putRow id (Go.Sort.ahead w m) blk off _) os).heap.size = _
    rw [Go.Sort.size_grow, Go.Sort.size_putRow]
    rfl
  refine ⟨rfl, rfl, rfl, by omega, fun j hj hne => ?_⟩
  have h2 : blk ≠ j := fun e => hne (by rw [e])
  show (Go.Sort.grow (Go.Sort.putRow id (Go.Sort.ahead w m) blk off _) os).heap[j]? = _
  rw [Go.Sort.heap_grow_old _ _ (by rw [Go.Sort.size_putRow]; exact hj)]
  simp only [Go.Sort.putRow, Go.Sort.mapBlock, Array.getElem?_modify, h2, if_false]
  rfl
theorem sort_wits (w : World) (base gf capf : Nat) (L : List Ky) (hL : L.length ≤ 1000000000) (hown : w.ownsRow base 55 3 (.slice (some ⟨gf, 0, none⟩) L.length capf) L.length (kcells L)) (h0 : L ≠ []) :
    Calls Tryz.prog 128 #[.slice (some ⟨gf, 0, none⟩) L.length capf, .func (.func 129) #[] #[]] w fun e w' => e = .returned (.tuple #[]) ∧
      ∃ L' : List Ky, L'.Perm L ∧ TrisAt w' (some ⟨gf, 0, none⟩) L' ∧ w.grownBy w' (some gf) ∧ base ≤ gf := by
  obtain ⟨hbg, hgl⟩ := hown.lt gf rfl
  have hpos := List.length_pos_iff.2 h0
  have hH : HoldsK encW 3 w gf 0 L.toArray := fun j hj => by
    simp at hj
    obtain ⟨g', cap', hv, -, -, -, -, hc, hf⟩ := owns_block hown hpos
    simp only [Value.slice.injEq, Option.some.injEq, Addr.mk.injEq] at hv
    obtain ⟨⟨rfl, -⟩, -, rfl⟩ := hv
    rw [Nat.zero_add]
    exact ⟨hc j _ (flat_get hj), hf j⟩
  have hcmp : Go.Proofs.CmpLays Tryz.prog 129 #[] encW 3 cmpW gf 0 L.toArray.size w := fun m os dk _ x y => by
    have := cmpw_any x.1 x.2.1 x.2.2 y.1 y.2.1 y.2.2 (Go.Proofs.sortWorldK encW 3 w gf 0 m dk os)
    exact this.mono fun e w' ⟨h1, q, os', h2⟩ => ⟨h1, q, os', h2⟩
  have hs := Go.Proofs.AnyQ.slices_SortFunc Tryz.laysSortW 3 Tryz.isAgg55 Tryz.sizeOf55 encW (fun _ => rfl) (fun x v hv => by simp [encW] at hv; rcases hv with rfl | rfl | rfl <;> rfl) cmpW swo_cmpW 129 #[] gf 0 capf L.toArray w (enters_of Tryz.func129 (by kernel_rfl) rfl) hcmp hH hgl (by simp; omega)
  have e0 : L.toArray.size = L.length := by simp
  rw [e0] at hs
  refine Calls.mono hs fun e w' ⟨he, d', n, os, hp, hso, hw⟩ => ⟨he, d'.toList, ?_, ?_, ?_, hbg⟩
  · have := hp.2.2
    have h1 := hp.1
    simp at h1
    rw [show d'.extract 0 L.length = d' from by rw [← h1]; simp, show L.toArray.extract 0 L.length = L.toArray from by rw [← e0]; simp] at this
    simpa using this
  · rw [hw]
    have h1 := hp.1
    have hg := grown_sortK w gf 0 n d' os hgl
    have hh := Go.Proofs.holdsK_sortWorldK_c encW 3 w gf 0 L.toArray d' n os hH hgl h1
    refine fun _ => ⟨gf, 0, rfl, by have := hg.size; omega, fun i hi => ?_⟩
    have hi' : i < d'.size := by simpa using hi
    have get : ∀ q, q < 3 → (Go.Proofs.sortWorldK encW 3 w gf 0 n d' os).cell? ⟨gf, 0 + (i * 3 + q), none⟩ = some (encW d'[i]!)[q]! := fun q hq => by
      have := (hh (i * 3 + q) (by simp; omega)).1
      rw [get_flatK _ _ _ _ (by omega), show (i * 3 + q) / 3 = i by omega, show (i * 3 + q) % 3 = q by omega] at this
      exact this
    have ed : d'[i]! = T! d'.toList i := by
      rw [getElem!_pos d' i hi']
      simp [T!, hi']
    rw [ed] at get
    have g0 := get 0 (by omega)
    have g1 := get 1 (by omega)
    have g2 := get 2 (by omega)
    exact ⟨g0, by rw [Nat.add_assoc]; exact g1, by rw [Nat.add_assoc]; exact g2⟩
  · rw [hw]; exact grown_sortK w gf 0 n d' os hgl
end Go.Proofs.YtkjamheoihlekaaGreat

/- Maps that a call makes and keeps: what they hold, told as a function of the key; the laws of look-up and store. The kinds of keys: an int; an edge; a pair; three numbers. Maps whose entries bear stamps all unlike: an entry is taken, found or made, and stored into. An entry is taken out of a map. -/
import Derived.Test.YtkjamheoihlekaaGreatBase
import Derived.Maps.Keyed
import Derived.DeepKeys4
namespace Go.Proofs.YtkjamheoihlekaaGreat
set_option linter.unusedVariables false
set_option linter.unusedSimpArgs false
open Go.RowKit Go.Maps
/-- Keys of one shape: how each lies in a cell, which can be read. -/
structure KeyFam (k : TypeId) (κ : Type) where
  kv : κ → Value
  ok : κ → Prop
  keyed : Keyed Tryz.prog k
  rd : ∀ a, ok a → ∃ l, keyOf Tryz.prog k (kv a) = some l
  inj : ∀ a b, kv a = kv b → a = b
theorem keys_apart {l : List MapEntry} (h : l.Pairwise (fun x y => x.key ≠ y.key)) {i j : Nat} {x y : MapEntry} (hi : l[i]? = some x) (hj : l[j]? = some y) (hne : i ≠ j) : x.key ≠ y.key := by
  obtain ⟨h1, e1⟩ := List.getElem?_eq_some_iff.1 hi
  obtain ⟨h2, e2⟩ := List.getElem?_eq_some_iff.1 hj
  have p := List.pairwise_iff_getElem.1 h
  subst e1
  subst e2
  rcases Nat.lt_or_gt_of_ne hne with hlt | hlt
  · exact p i j h1 h2 hlt
  · exact fun e => p j i h2 h1 hlt e.symm
theorem apart_of {l : List MapEntry} (h : ∀ (i j : Nat) (x y : MapEntry), l[i]? = some x → l[j]? = some y → i < j → x.key ≠ y.key) : l.Pairwise (fun x y => x.key ≠ y.key) :=
  List.pairwise_iff_getElem.2 fun i j hi hj hlt => h i j _ _ (List.getElem?_eq_getElem hi) (List.getElem?_eq_getElem hj) hlt
section
variable {k : TypeId} {κ : Type} (F : KeyFam k κ)
/-- The map in block m has n entries and holds C. -/
def MapIs (w : World) (m n : Nat) (C : κ → Option Value) : Prop :=
  ∃ es clock, w.heap[m]? = some (.map es clock) ∧ es.size = n ∧ (∀ e ∈ es.toList, ∃ a, F.ok a ∧ e.key = F.kv a ∧ C a = some e.val) ∧
    (∀ a v, C a = some v → ∃ e ∈ es.toList, e.key = F.kv a) ∧ es.toList.Pairwise (fun x y => x.key ≠ y.key) ∧ ∀ e ∈ es.toList, e.born < clock
variable {F}
theorem MapIs.made (w : World) : MapIs F (w.alloc (.map #[] 0)) w.heap.size 0 (fun _ => none) :=
  ⟨#[], 0, heap_alloc_new w _, rfl, by simp, by simp, by simp, by simp⟩
theorem MapIs.same {w w' : World} {m n : Nat} {C : κ → Option Value} (h : MapIs F w m n C) (e : w'.heap[m]? = w.heap[m]?) : MapIs F w' m n C := by
  obtain ⟨es, clock, h1, h2⟩ := h
  exact ⟨es, clock, e.trans h1, h2⟩
theorem MapIs.lt {w : World} {m n : Nat} {C : κ → Option Value} (h : MapIs F w m n C) : m < w.heap.size := by
  obtain ⟨es, clock, h1, h2⟩ := h
  exact (Array.getElem?_eq_some_iff.1 h1).1
theorem MapIs.below {w w' : World} {m n B : Nat} {C : κ → Option Value} (h : MapIs F w m n C) (hB : w.heap.size ≤ B) (hb : Below B w w') : MapIs F w' m n C :=
  h.same (hb.block m (by have := h.lt; omega))
theorem MapIs.look {w : World} {m n : Nat} {C : κ → Option Value} (h : MapIs F w m n C) (t e : TypeId) (ht : Tryz.prog.underlying t = some (.map k e)) {z : Value}
    (hz : ∀ w, (zeroValue e).run Tryz.prog w = .ok z w) (a : κ) (ha : F.ok a) (c : Bool) :
    (Instr.lookup t (.map (some m)) (F.kv a) c).run Tryz.prog w = .ok (if c then .tuple #[(C a).getD z, .bool (C a).isSome] else (C a).getD z) w := by
  obtain ⟨es, clock, h1, h2, h3, h4, h5, h6⟩ := h
  obtain ⟨l, hl⟩ := F.rd a ha
  have hkeys : ∀ e ∈ es.toList, ∃ l, keyOf Tryz.prog k e.key = some l := fun e he => by
    obtain ⟨b, hb, hk, _⟩ := h3 e he
    rw [hk]; exact F.rd b hb
  rcases F.keyed.find w hl es.toList hkeys with ⟨f1, f2⟩ | ⟨j, e0, f1, f2, f3⟩
  · have hC : C a = none := by
      cases hc : C a with
      | none => rfl
      | some v => obtain ⟨e, he, hk⟩ := h4 a v hc; exact absurd hk (f2 e he)
    simp [Instr.lookup, run_underlying ht, MapKept.run_getObj_map h1, F.keyed.check w _ hl, f1, hz, hC, Result.andThen]
  · obtain ⟨b, hb, hk, hv⟩ := h3 e0 (List.mem_of_getElem? f2)
    have hab : b = a := F.inj _ _ (hk.symm.trans f3)
    subst hab
    simp [Instr.lookup, run_underlying ht, MapKept.run_getObj_map h1, F.keyed.check w _ hl, f1, hv, Result.andThen]
theorem MapIs.store [DecidableEq κ] {w : World} {m n : Nat} {C : κ → Option Value} (h : MapIs F w m n C) (t e : TypeId) (ht : Tryz.prog.underlying t = some (.map k e)) (a : κ) (ha : F.ok a) (v : Value) :
    ∃ w', (Instr.mapUpdate t (.map (some m)) (F.kv a) v).run Tryz.prog w = .ok () w' ∧ MapIs F w' m (if (C a).isSome then n else n + 1) (fun b => if b = a then some v else C b) ∧ w.grownBy w' (some m) := by
  obtain ⟨es, clock, h1, h2, h3, h4, h5, h6⟩ := h
  obtain ⟨l, hl⟩ := F.rd a ha
  have hm : m < w.heap.size := (Array.getElem?_eq_some_iff.1 h1).1
  have hkeys : ∀ e ∈ es.toList, ∃ l, keyOf Tryz.prog k e.key = some l := fun e he => by
    obtain ⟨b, hb, hk, _⟩ := h3 e he
    rw [hk]; exact F.rd b hb
  have hgrown : ∀ o : Obj, w.grownBy { w with heap := w.heap.setIfInBounds m o } (some m) := fun o =>
    ⟨rfl, rfl, rfl, by simp, fun j hj hne => by
      have : m ≠ j := fun e => hne (by rw [e])
      simp [Array.getElem?_setIfInBounds_ne this]⟩
  have hset : ∀ o : Obj, ({ w with heap := w.heap.setIfInBounds m o } : World).heap[m]? = some o := fun o => by
    simp [Array.getElem?_setIfInBounds_self_of_lt hm]
  rcases F.keyed.find w hl es.toList hkeys with ⟨f1, f2⟩ | ⟨j, e0, f1, f2, f3⟩
  · have hC : C a = none := by
      cases hc : C a with
      | none => rfl
      | some v => obtain ⟨e, he, hk⟩ := h4 a v hc; exact absurd hk (f2 e he)
    refine ⟨{ w with heap := w.heap.setIfInBounds m (.map (es.push { key := F.kv a, val := v, born := clock }) (clock + 1)) }, ?_, ⟨_, _, hset _, ?_, ?_, ?_, ?_, ?_⟩, hgrown _⟩
    · simp [Instr.mapUpdate, run_underlying ht, MapKept.run_getObj_map h1, F.keyed.check w _ hl, f1, Result.andThen, setObj, Sem.run, h1]
    · simp [hC, h2]
    · intro e he
      simp only [Array.toList_push, List.mem_append, List.mem_singleton] at he
      rcases he with he | rfl
      · obtain ⟨b, hb, hk, hv⟩ := h3 e he
        refine ⟨b, hb, hk, ?_⟩
        have : b ≠ a := fun e' => f2 e he (by rw [hk, e'])
        simp [this, hv]
      · exact ⟨a, ha, rfl, by simp⟩
    · intro b u hbu
      by_cases hba : b = a
      · subst hba
        exact ⟨{ key := F.kv b, val := v, born := clock }, by simp, rfl⟩
      · simp only [hba, if_false] at hbu
        obtain ⟨e, he, hk⟩ := h4 b u hbu
        exact ⟨e, by simp only [Array.toList_push, List.mem_append]; exact .inl he, hk⟩
    · rw [Array.toList_push]
      refine List.pairwise_append.2 ⟨h5, by simp, fun x hx y hy => ?_⟩
      simp only [List.mem_singleton] at hy
      subst hy
      exact f2 x hx
    · intro e he
      simp only [Array.toList_push, List.mem_append, List.mem_singleton] at he
      rcases he with he | rfl
      · have := h6 e he; omega
      · simp
  · obtain ⟨b, hb, hk, hv⟩ := h3 e0 (List.mem_of_getElem? f2)
    have hab : b = a := F.inj _ _ (hk.symm.trans f3)
    subst hab
    have hj : j < es.size := by have := (List.getElem?_eq_some_iff.1 f2).1; simpa using this
    have hje : es[j] = e0 := by
      have h := (List.getElem?_eq_some_iff.1 f2).2
      simpa using h
    have hmod : es.modify j (fun e => { e with key := F.kv b, val := v }) = es.set j { e0 with key := F.kv b, val := v } hj := by
      apply Array.ext (by simp)
      intro i h1 h2
      simp only [Array.getElem_modify, Array.getElem_set]
      split
      · rename_i hx
        subst hx
        exact congrArg (fun e : MapEntry => ({ e with key := F.kv b, val := v } : MapEntry)) hje
      · rfl
    have hmem : ∀ e, e ∈ (es.set j { e0 with key := F.kv b, val := v } hj).toList → (e = { e0 with key := F.kv b, val := v }) ∨ (e ∈ es.toList ∧ e.key ≠ F.kv b) := by
      intro e he
      simp only [Array.toList_set] at he
      obtain ⟨i, hi⟩ := List.mem_iff_getElem?.1 he
      by_cases hij : i = j
      · subst hij
        rw [List.getElem?_set_self (by simpa using hj)] at hi
        exact .inl (Option.some.inj hi).symm
      · rw [List.getElem?_set_ne (by omega)] at hi
        refine .inr ⟨List.mem_of_getElem? hi, ?_⟩
        have := keys_apart h5 hi f2 hij
        rw [f3] at this
        exact this
    refine ⟨{ w with heap := w.heap.setIfInBounds m (.map (es.set j { e0 with key := F.kv b, val := v } hj) clock) }, ?_, ⟨_, _, hset _, ?_, ?_, ?_, ?_, ?_⟩, hgrown _⟩
    · have hst := F.keyed.stays w hl
      have hje' : es[j]? = some e0 := by rw [Array.getElem?_eq_getElem hj, hje]
      simp [Instr.mapUpdate, run_underlying ht, MapKept.run_getObj_map h1, F.keyed.check w _ hl, f1, Result.andThen, setObj, Sem.run, h1, hje', f3, hst, hmod]
    · simp [hv, h2]
    · intro e he
      rcases hmem e he with rfl | ⟨he, hne⟩
      · exact ⟨b, ha, rfl, by simp⟩
      · obtain ⟨c, hc, hkc, hvc⟩ := h3 e he
        refine ⟨c, hc, hkc, ?_⟩
        have : c ≠ b := fun e' => hne (by rw [hkc, e'])
        simp [this, hvc]
    · intro c u hcu
      by_cases hcb : c = b
      · subst hcb
        exact ⟨{ e0 with key := F.kv c, val := v }, by simp only [Array.toList_set]; exact List.mem_iff_getElem?.2 ⟨j, List.getElem?_set_self (by simpa using hj)⟩, rfl⟩
      · simp only [hcb, if_false] at hcu
        obtain ⟨e, he, hke⟩ := h4 c u hcu
        obtain ⟨i, hi⟩ := List.mem_iff_getElem?.1 he
        have hij : i ≠ j := fun e' => by
          subst e'
          rw [hi] at f2
          rw [Option.some.inj f2, f3] at hke
          exact hcb (F.inj _ _ hke).symm
        exact ⟨e, by simp only [Array.toList_set]; exact List.mem_iff_getElem?.2 ⟨i, by rw [List.getElem?_set_ne (by omega)]; exact hi⟩, hke⟩
    · rw [Array.toList_set]
      have hjl : j < es.toList.length := by simpa using hj
      refine apart_of fun i i' x y hi hi' hlt => ?_
      by_cases e1 : i = j
      · subst e1
        rw [List.getElem?_set_self hjl] at hi
        rw [List.getElem?_set_ne (by omega)] at hi'
        obtain rfl := Option.some.inj hi
        have := keys_apart h5 f2 hi' (by omega)
        rw [f3] at this
        exact this
      · rw [List.getElem?_set_ne (by omega)] at hi
        by_cases e2 : i' = j
        · subst e2
          rw [List.getElem?_set_self hjl] at hi'
          obtain rfl := Option.some.inj hi'
          have := keys_apart h5 hi f2 (by omega)
          rw [f3] at this
          exact this
        · rw [List.getElem?_set_ne (by omega)] at hi'
          exact keys_apart h5 hi hi' (by omega)
    · intro e he
      rcases hmem e he with rfl | ⟨he, _⟩
      · exact h6 e0 (List.mem_of_getElem? f2)
      · exact h6 e he
/-- The entry of key a, just made, bears the stamp c. -/
def Fresh (F : KeyFam k κ) (w : World) (m n : Nat) (C : κ → Option Value) (a : κ) (c : Nat) : Prop :=
  ∃ (es : Array MapEntry) (z : Value), w.heap[m]? = some (.map (es.push { key := F.kv a, val := z, born := c }) (c + 1)) ∧ es.size = n ∧ F.ok a ∧ C a = none ∧ (∀ e ∈ es.toList, ∃ a, F.ok a ∧ e.key = F.kv a ∧ C a = some e.val) ∧
    (∀ a v, C a = some v → ∃ e ∈ es.toList, e.key = F.kv a) ∧ es.toList.Pairwise (fun x y => x.key ≠ y.key) ∧ ∀ e ∈ es.toList, e.born < c
theorem Fresh.same {w w' : World} {m n : Nat} {C : κ → Option Value} {a : κ} {c : Nat} (h : Fresh F w m n C a c) (e : w'.heap[m]? = w.heap[m]?) : Fresh F w' m n C a c := by
  obtain ⟨es, z, h1, h2⟩ := h
  exact ⟨es, z, e.trans h1, h2⟩
theorem Fresh.lt {w : World} {m n : Nat} {C : κ → Option Value} {a : κ} {c : Nat} (h : Fresh F w m n C a c) : m < w.heap.size := by
  obtain ⟨es, z, h1, _⟩ := h
  exact (Array.getElem?_eq_some_iff.1 h1).1
theorem MapIs.entry {w : World} {m n : Nat} {C : κ → Option Value} (h : MapIs F w m n C) (t e : TypeId) (ht : Tryz.prog.underlying t = some (.map k e)) {z : Value}
    (hz : ∀ w, (zeroValue e).run Tryz.prog w = .ok z w) (a : κ) (ha : F.ok a) (hC : C a = none) :
    ∃ w' c, (Instr.mapEntry t (.map (some m)) (F.kv a)).run Tryz.prog w = .ok (.tuple #[z, .int .i64 ((c : Nat) : Int)]) w' ∧ Fresh F w' m n C a c ∧ w.grownBy w' (some m) := by
  obtain ⟨es, clock, h1, h2, h3, h4, h5, h6⟩ := h
  obtain ⟨l, hl⟩ := F.rd a ha
  have hm : m < w.heap.size := (Array.getElem?_eq_some_iff.1 h1).1
  have hkeys : ∀ e ∈ es.toList, ∃ l, keyOf Tryz.prog k e.key = some l := fun e he => by
    obtain ⟨b, hb, hk, _⟩ := h3 e he
    rw [hk]; exact F.rd b hb
  have hgrown : ∀ o : Obj, w.grownBy { w with heap := w.heap.setIfInBounds m o } (some m) := fun o =>
    ⟨rfl, rfl, rfl, by simp, fun j hj hne => by
      have : m ≠ j := fun e => hne (by rw [e])
      simp [Array.getElem?_setIfInBounds_ne this]⟩
  rcases F.keyed.find w hl es.toList hkeys with ⟨f1, f2⟩ | ⟨j, e0, f1, f2, f3⟩
  · refine ⟨{ w with heap := w.heap.setIfInBounds m (.map (es.push { key := F.kv a, val := z, born := clock }) (clock + 1)) }, clock, ?_, ⟨es, z, by simp [Array.getElem?_setIfInBounds_self_of_lt hm], h2, ha, hC, h3, h4, h5, h6⟩, hgrown _⟩
    simp [Instr.mapEntry, run_underlying ht, MapKept.run_getObj_map h1, F.keyed.check w _ hl, f1, hz, Result.andThen, setObj, Sem.run, h1, goInt]
  · obtain ⟨b, hb, hk, hv⟩ := h3 e0 (List.mem_of_getElem? f2)
    have hab : b = a := F.inj _ _ (hk.symm.trans f3)
    rw [hab, hC] at hv
    cases hv
theorem Fresh.store [DecidableEq κ] {w : World} {m n : Nat} {C : κ → Option Value} {a : κ} {c : Nat} (h : Fresh F w m n C a c) (t : TypeId) (v : Value) :
    ∃ w', (Instr.entryStore t (.map (some m)) (.int .i64 ((c : Nat) : Int)) v).run Tryz.prog w = .ok () w' ∧ MapIs F w' m (n + 1) (fun b => if b = a then some v else C b) ∧ w.grownBy w' (some m) := by
  obtain ⟨es, z, h1, h2, ha, hC, h3, h4, h5, h6⟩ := h
  have hm : m < w.heap.size := (Array.getElem?_eq_some_iff.1 h1).1
  have hgrown : ∀ o : Obj, w.grownBy { w with heap := w.heap.setIfInBounds m o } (some m) := fun o =>
    ⟨rfl, rfl, rfl, by simp, fun j hj hne => by
      have : m ≠ j := fun e => hne (by rw [e])
      simp [Array.getElem?_setIfInBounds_ne this]⟩
  have hidx : (es.push { key := F.kv a, val := z, born := c }).findIdx? (fun e => (e.born : Int) == (c : Int)) = some es.size := by
    rw [Array.findIdx?_push, Array.findIdx?_eq_none_iff.2 (fun e he => by
      have := h6 e (by simpa using he)
      simp; omega)]
    simp
  have hmod : (es.push { key := F.kv a, val := z, born := c }).modify es.size (fun e => { e with val := v }) = es.push { key := F.kv a, val := v, born := c } := by
    apply Array.ext (by simp)
    intro i q1 q2
    simp only [Array.getElem_modify, Array.getElem_push]
    by_cases hi : i < es.size
    · simp [hi]; intro e; omega
    · have : i = es.size := by simp at q2; omega
      subst this
      simp
  refine ⟨{ w with heap := w.heap.setIfInBounds m (.map (es.push { key := F.kv a, val := v, born := c }) (c + 1)) }, ?_, ⟨_, _, by simp [Array.getElem?_setIfInBounds_self_of_lt hm]; exact ⟨rfl, rfl⟩, ?_, ?_, ?_, ?_, ?_⟩, hgrown _⟩
  · simp [Instr.entryStore, MapKept.run_getObj_map h1, asInt, asIntOf, hidx, hmod, MapKept.run_setObj_map _ h1, Result.andThen]
  · simp [h2]
  · intro e he
    simp only [Array.toList_push, List.mem_append, List.mem_singleton] at he
    rcases he with he | rfl
    · obtain ⟨b, hb, hk, hv⟩ := h3 e he
      refine ⟨b, hb, hk, ?_⟩
      have : b ≠ a := fun e' => by rw [e', hC] at hv; cases hv
      simp [this, hv]
    · exact ⟨a, ha, rfl, by simp⟩
  · intro b u hbu
    by_cases hba : b = a
    · subst hba
      exact ⟨{ key := F.kv b, val := v, born := c }, by simp, rfl⟩
    · simp only [hba, if_false] at hbu
      obtain ⟨e, he, hk⟩ := h4 b u hbu
      exact ⟨e, by simp only [Array.toList_push, List.mem_append]; exact .inl he, hk⟩
  · rw [Array.toList_push]
    refine List.pairwise_append.2 ⟨h5, by simp, fun x hx y hy => ?_⟩
    simp only [List.mem_singleton] at hy
    subst hy
    obtain ⟨b, _, hk, hv⟩ := h3 x hx
    intro e'
    have : b = a := F.inj _ _ (hk.symm.trans e')
    rw [this, hC] at hv
    cases hv
  · intro e he
    simp only [Array.toList_push, List.mem_append, List.mem_singleton] at he
    rcases he with he | rfl
    · have := h6 e he; omega
    · simp
end
theorem laidOut : laidOutB Tryz.prog = true := by kernel_rfl
/-- A number that an int holds. -/
def I64 (x : Int) : Prop := -9223372036854775808 ≤ x ∧ x ≤ 9223372036854775807
theorem I64.wf {x : Int} (h : I64 x) : (Lit.int .i64 x).wf = true := by
  obtain ⟨h1, h2⟩ := h
  exact WalkArith.wf_i64 (by omega)
theorem keyLits_int (d : Nat) {x : Int} (h : I64 x) : Tryz.prog.keyLits (d + 1) 3 [.int .i64 x] = some [.int .i64 x] := by
  have hu : Tryz.prog.underlying 3 = some (.int .i64) := by kernel_rfl
  simp [Program.keyLits, hu, h.wf]
def intFam : KeyFam 3 Int where
  kv a := .int .i64 a
  ok := I64
  keyed := int_keyed (q := .i64) (by kernel_rfl)
  rd a h := ⟨.int .i64 a, by
    have hu : Tryz.prog.underlying 3 = some (.int .i64) := by kernel_rfl
    simp [keyOf, hu, mapKey, h.wf]⟩
  inj a b h := by simpa using h
def edgeFam : KeyFam 40 (Int × Int) where
  kv a := .agg #[.int .i64 a.1, .int .i64 a.2]
  ok a := I64 a.1 ∧ I64 a.2
  keyed := Keyed.of_law (deep_law_laid laidOut (m := 2) (by omega) (of_decide_eq_true (by kernel_rfl)) (by kernel_rfl) (by kernel_rfl))
  rd a h := by
    have hu : Tryz.prog.underlying 40 = some (.array 2 3) := by kernel_rfl
    have hk : Tryz.prog.keyType 40 = true := by kernel_rfl
    have hf : (Value.agg #[.int .i64 a.1, .int .i64 a.2]).formed Tryz.prog 40 = true := by kernel_rfl
    have hc : Tryz.prog.cellsOf 40 = 2 := by kernel_rfl
    have hc3 : Tryz.prog.cellsOf 3 = 1 := by kernel_rfl
    rw [keyOf, hu]
    simp only [hk, hf, Value.cells, Program.keyLits, hu, hc, hc3, Bool.and_self, if_true]
    simp [List.range_succ, keyLits_int _ h.1, keyLits_int _ h.2]
  inj a b h := by
    obtain ⟨a1, a2⟩ := a
    simp at h
    exact Prod.ext h.1 h.2
def triFam : KeyFam 71 (Int × Int × Int) where
  kv a := .agg #[.int .i64 a.1, .int .i64 a.2.1, .int .i64 a.2.2]
  ok a := I64 a.1 ∧ I64 a.2.1 ∧ I64 a.2.2
  keyed := Keyed.of_law (deep_law_laid laidOut (m := 2) (by omega) (of_decide_eq_true (by kernel_rfl)) (by kernel_rfl) (by kernel_rfl))
  rd a h := by
    have hu : Tryz.prog.underlying 71 = some (.array 3 3) := by kernel_rfl
    have hk : Tryz.prog.keyType 71 = true := by kernel_rfl
    have hf : (Value.agg #[.int .i64 a.1, .int .i64 a.2.1, .int .i64 a.2.2]).formed Tryz.prog 71 = true := by kernel_rfl
    have hc : Tryz.prog.cellsOf 71 = 3 := by kernel_rfl
    have hc3 : Tryz.prog.cellsOf 3 = 1 := by kernel_rfl
    rw [keyOf, hu]
    simp only [hk, hf, Value.cells, Program.keyLits, hu, hc, hc3, Bool.and_self, if_true]
    simp [List.range_succ, keyLits_int _ h.1, keyLits_int _ h.2.1, keyLits_int _ h.2.2]
  inj a b h := by
    obtain ⟨a1, a2, a3⟩ := a
    simp at h
    exact Prod.ext h.1 (Prod.ext h.2.1 h.2.2)
theorem modify_mid {α : Type} (A B : List α) (e0 : α) (f : α → α) : (A ++ e0 :: B).toArray.modify A.length f = (A ++ f e0 :: B).toArray := by
  apply Array.ext (by simp)
  intro i h1 h2
  simp only [Array.getElem_modify, List.getElem_toArray]
  by_cases h : A.length = i
  · subst h
    simp
  · rw [if_neg h]
    by_cases hlt : i < A.length
    · rw [List.getElem_append_left hlt, List.getElem_append_left hlt]
    · rw [List.getElem_append_right (by omega), List.getElem_append_right (by omega)]
      obtain ⟨q, hq⟩ : ∃ q, i - A.length = q + 1 := ⟨i - A.length - 1, by omega⟩
      simp [hq]
theorem zero_bool : ∀ w, (zeroValue 4).run Tryz.prog w = .ok (.bool false) w := fun _ => by kernel_rfl
section
variable {k : TypeId} {κ : Type} (F : KeyFam k κ)
/-- Two entries that are unlike in key and stamp. -/
def Unl (x y : MapEntry) : Prop := x.key ≠ y.key ∧ x.born ≠ y.born
def MapB (w : World) (m n : Nat) (C : κ → Option Value) : Prop :=
  ∃ (L : List MapEntry) (clock : Nat), w.heap[m]? = some (.map L.toArray clock) ∧ L.length = n ∧ (∀ e ∈ L, ∃ a, F.ok a ∧ e.key = F.kv a ∧ C a = some e.val ∧ e.born < clock) ∧
    (∀ a v, C a = some v → ∃ e ∈ L, e.key = F.kv a) ∧ L.Pairwise Unl
/-- The entry of key a has been taken; it bears the stamp c. -/
def Held (w : World) (m n : Nat) (C : κ → Option Value) (a : κ) (c : Nat) : Prop :=
  ∃ (A B : List MapEntry) (e0 : MapEntry) (clock : Nat), w.heap[m]? = some (.map (A ++ e0 :: B).toArray clock) ∧ A.length + B.length + 1 = n ∧ F.ok a ∧ e0.key = F.kv a ∧ e0.born = c ∧ c < clock ∧
    (∀ e, e ∈ A ∨ e ∈ B → ∃ b, F.ok b ∧ b ≠ a ∧ e.key = F.kv b ∧ C b = some e.val ∧ e.born ≠ c ∧ e.born < clock) ∧
    (∀ b v, b ≠ a → C b = some v → ∃ e, (e ∈ A ∨ e ∈ B) ∧ e.key = F.kv b) ∧ A.Pairwise Unl ∧ B.Pairwise Unl ∧ ∀ x ∈ A, ∀ y ∈ B, Unl x y
variable {F}
theorem unl_key {L : List MapEntry} (h : L.Pairwise Unl) : L.Pairwise (fun x y => x.key ≠ y.key) :=
  List.pairwise_iff_getElem.2 fun i j hi hj hij => (List.pairwise_iff_getElem.1 h i j hi hj hij).1
theorem MapB.to {w : World} {m n : Nat} {C : κ → Option Value} (h : MapB F w m n C) : MapIs F w m n C := by
  obtain ⟨L, clock, h1, h2, h3, h4, h5⟩ := h
  refine ⟨L.toArray, clock, h1, by simpa using h2, fun e he => ?_, fun a v e => ?_, ?_, fun e he => ?_⟩
  · obtain ⟨a, x1, x2, x3, x4⟩ := h3 e he
    exact ⟨a, x1, x2, x3⟩
  · exact h4 a v e
  · exact unl_key h5
  · obtain ⟨a, x1, x2, x3, x4⟩ := h3 e he
    exact x4
theorem MapB.made (w : World) : MapB F (w.alloc (.map #[] 0)) w.heap.size 0 (fun _ => none) :=
  ⟨[], 0, heap_alloc_new w _, rfl, by simp, by simp, by simp⟩
theorem MapB.same {w w' : World} {m n : Nat} {C : κ → Option Value} (h : MapB F w m n C) (e : w'.heap[m]? = w.heap[m]?) : MapB F w' m n C := by
  obtain ⟨L, clock, h1, h2⟩ := h
  exact ⟨L, clock, e.trans h1, h2⟩
theorem MapB.lt {w : World} {m n : Nat} {C : κ → Option Value} (h : MapB F w m n C) : m < w.heap.size := h.to.lt
theorem MapB.below {w w' : World} {m n B : Nat} {C : κ → Option Value} (h : MapB F w m n C) (hB : w.heap.size ≤ B) (hb : Below B w w') : MapB F w' m n C :=
  h.same (hb.block m (by have := h.lt; omega))
theorem Held.same {w w' : World} {m n : Nat} {C : κ → Option Value} {a : κ} {c : Nat} (h : Held F w m n C a c) (e : w'.heap[m]? = w.heap[m]?) : Held F w' m n C a c := by
  obtain ⟨A, B, e0, clock, h1, h2⟩ := h
  exact ⟨A, B, e0, clock, e.trans h1, h2⟩
theorem Held.lt {w : World} {m n : Nat} {C : κ → Option Value} {a : κ} {c : Nat} (h : Held F w m n C a c) : m < w.heap.size := by
  obtain ⟨A, B, e0, clock, h1, _⟩ := h
  exact (Array.getElem?_eq_some_iff.1 h1).1
theorem MapB.entry {w : World} {m n : Nat} {C : κ → Option Value} (h : MapB F w m n C) (t e : TypeId) (ht : Tryz.prog.underlying t = some (.map k e)) {z : Value}
    (hz : ∀ w, (zeroValue e).run Tryz.prog w = .ok z w) (a : κ) (ha : F.ok a) :
    ∃ w' c, (Instr.mapEntry t (.map (some m)) (F.kv a)).run Tryz.prog w = .ok (.tuple #[(C a).getD z, .int .i64 ((c : Nat) : Int)]) w' ∧ Held F w' m (if (C a).isSome then n else n + 1) C a c ∧ w.grownBy w' (some m) := by
  obtain ⟨L, clock, h1, h2, h3, h4, h5⟩ := h
  obtain ⟨l, hl⟩ := F.rd a ha
  have hm : m < w.heap.size := (Array.getElem?_eq_some_iff.1 h1).1
  have hkeys : ∀ e ∈ L, ∃ l, keyOf Tryz.prog k e.key = some l := fun e he => by
    obtain ⟨b, hb, hk, _⟩ := h3 e he
    rw [hk]; exact F.rd b hb
  have hgrown : ∀ o : Obj, w.grownBy { w with heap := w.heap.setIfInBounds m o } (some m) := fun o =>
    ⟨rfl, rfl, rfl, by simp, fun j hj hne => by
      have : m ≠ j := fun e => hne (by rw [e])
      simp [Array.getElem?_setIfInBounds_ne this]⟩
  rcases F.keyed.find w hl L hkeys with ⟨f1, f2⟩ | ⟨j, e0, f1, f2, f3⟩
  · have hC : C a = none := by
      cases hc : C a with
      | none => rfl
      | some v => obtain ⟨e, he, hk⟩ := h4 a v hc; exact absurd hk (f2 e he)
    refine ⟨{ w with heap := w.heap.setIfInBounds m (.map (L.toArray.push { key := F.kv a, val := z, born := clock }) (clock + 1)) }, clock, ?_, ⟨L, [], { key := F.kv a, val := z, born := clock }, clock + 1, by simp [Array.getElem?_setIfInBounds_self_of_lt hm], by simp [hC, h2], ha, rfl, rfl, by omega, fun e he => ?_, fun b v hne hb => ?_, h5, by simp, by simp⟩, hgrown _⟩
    · simp [Instr.mapEntry, run_underlying ht, MapKept.run_getObj_map h1, F.keyed.check w _ hl, f1, hz, Result.andThen, setObj, Sem.run, h1, goInt, hC]
    · rcases he with he | he
      · obtain ⟨b, hb, hk, hv, hlt⟩ := h3 e he
        exact ⟨b, hb, fun e' => f2 e he (by rw [hk, e']), hk, hv, by omega, by omega⟩
      · cases he
    · obtain ⟨e, he, hk⟩ := h4 b v hb
      exact ⟨e, .inl he, hk⟩
  · obtain ⟨b, hb, hk, hv, hlt⟩ := h3 e0 (List.mem_of_getElem? f2)
    have hab : b = a := F.inj _ _ (hk.symm.trans f3)
    subst hab
    obtain ⟨hj, hje⟩ := List.getElem?_eq_some_iff.1 f2
    have hL : L = L.take j ++ e0 :: L.drop (j + 1) := by
      rw [← hje, ← List.drop_eq_getElem_cons hj, List.take_append_drop]
    have hjl : (L.take j).length = j := by simp; omega
    have hst := F.keyed.stays w hl
    have hje' : L.toArray[j]? = some e0 := by simpa using f2
    obtain ⟨A, hA⟩ : ∃ A, A = L.take j := ⟨_, rfl⟩
    obtain ⟨B, hB⟩ : ∃ B, B = L.drop (j + 1) := ⟨_, rfl⟩
    rw [← hA, ← hB] at hL
    rw [← hA] at hjl
    have hmod : L.toArray.modify j (fun e => { e with key := F.kv b }) = (A ++ { e0 with key := F.kv b } :: B).toArray := by
      rw [hL, ← hjl]
      exact modify_mid A B e0 _
    have hmod2 : L.modify j (fun e => { e with key := F.kv b }) = A ++ { e0 with key := F.kv b } :: B := by
      have := congrArg Array.toList hmod
      simpa using this
    rw [hL] at h5
    obtain ⟨p1, p2, p3⟩ := List.pairwise_append.1 h5
    obtain ⟨p4, p5⟩ := List.pairwise_cons.1 p2
    refine ⟨{ w with heap := w.heap.setIfInBounds m (.map (A ++ { e0 with key := F.kv b } :: B).toArray clock) }, e0.born, ?_, ⟨A, B, { e0 with key := F.kv b }, clock, by simp [Array.getElem?_setIfInBounds_self_of_lt hm], ?_, ha, rfl, rfl, hlt, fun e he => ?_, fun c v hne hc => ?_, p1, p5, fun x hx y hy => p3 x hx y (List.mem_cons_of_mem _ hy)⟩, hgrown _⟩
    · simp [Instr.mapEntry, run_underlying ht, MapKept.run_getObj_map h1, F.keyed.check w _ hl, f1, Result.andThen, setObj, Sem.run, h1, f2, f3, hst, goInt, hv, hmod2]
    · rw [hL] at h2
      simp at h2
      simp [hv]; omega
    · have hmem : e ∈ L := by
        rw [hL]
        rcases he with he | he
        · exact List.mem_append_left _ he
        · exact List.mem_append_right _ (List.mem_cons_of_mem _ he)
      have hun : e.key ≠ e0.key ∧ e.born ≠ e0.born := by
        rcases he with he | he
        · exact p3 e he e0 (List.mem_cons_self ..)
        · have := p4 e he
          exact ⟨fun h => this.1 h.symm, fun h => this.2 h.symm⟩
      obtain ⟨c, hc, hkc, hvc, hlc⟩ := h3 e hmem
      exact ⟨c, hc, fun e' => hun.1 (by rw [hkc, e', f3]), hkc, hvc, hun.2, hlc⟩
    · obtain ⟨e, he, hke⟩ := h4 c v hc
      rw [hL] at he
      simp only [List.mem_append, List.mem_cons] at he
      rcases he with he | rfl | he
      · exact ⟨e, .inl he, hke⟩
      · exact absurd (F.inj _ _ (hke.symm.trans f3)) hne
      · exact ⟨e, .inr he, hke⟩
theorem Held.store [DecidableEq κ] {w : World} {m n : Nat} {C : κ → Option Value} {a : κ} {c : Nat} (h : Held F w m n C a c) (t : TypeId) (v : Value) :
    ∃ w', (Instr.entryStore t (.map (some m)) (.int .i64 ((c : Nat) : Int)) v).run Tryz.prog w = .ok () w' ∧ MapB F w' m n (fun b => if b = a then some v else C b) ∧ w.grownBy w' (some m) := by
  obtain ⟨A, B, e0, clock, h1, h2, ha, hk, hbn, hc, h3, h4, p1, p2, p3⟩ := h
  have hm : m < w.heap.size := (Array.getElem?_eq_some_iff.1 h1).1
  have hgrown : ∀ o : Obj, w.grownBy { w with heap := w.heap.setIfInBounds m o } (some m) := fun o =>
    ⟨rfl, rfl, rfl, by simp, fun j hj hne => by
      have : m ≠ j := fun e => hne (by rw [e])
      simp [Array.getElem?_setIfInBounds_ne this]⟩
  have hidx : (A ++ e0 :: B).toArray.findIdx? (fun e => (e.born : Int) == (c : Int)) = some A.length := by
    rw [List.findIdx?_toArray, List.findIdx?_append, List.findIdx?_eq_none_iff.2 (fun e he => by
      obtain ⟨b, -, -, -, -, hne, -⟩ := h3 e (.inl he)
      simp; omega)]
    simp [List.findIdx?_cons, hbn]
  have hmod := modify_mid A B e0 (fun e => { e with val := v })
  have unl : ∀ e, e ∈ A ∨ e ∈ B → e.key ≠ e0.key ∧ e.born ≠ e0.born := fun e he => by
    obtain ⟨b, hb, hne, hkb, -, hnb, -⟩ := h3 e he
    exact ⟨fun h => hne (F.inj _ _ (hkb.symm.trans (h.trans hk))), by rw [hbn]; exact hnb⟩
  refine ⟨{ w with heap := w.heap.setIfInBounds m (.map (A ++ { e0 with val := v } :: B).toArray clock) }, ?_, ⟨A ++ { e0 with val := v } :: B, clock, by simp [Array.getElem?_setIfInBounds_self_of_lt hm], ?_, fun e he => ?_, fun b u hu => ?_, ?_⟩, hgrown _⟩
  · simp [Instr.entryStore, MapKept.run_getObj_map h1, asInt, asIntOf, hidx, hmod, MapKept.run_setObj_map _ h1, Result.andThen]
  · simp; omega
  · simp only [List.mem_append, List.mem_cons] at he
    have get : e ∈ A ∨ e ∈ B → ∃ b, F.ok b ∧ e.key = F.kv b ∧ (if b = a then some v else C b) = some e.val ∧ e.born < clock := fun he => by
      obtain ⟨b, hb, hne, hkb, hvb, hnb, hlb⟩ := h3 e he
      exact ⟨b, hb, hkb, by rw [if_neg hne]; exact hvb, hlb⟩
    rcases he with he | rfl | he
    · exact get (.inl he)
    · exact ⟨a, ha, hk, by simp, by simp [hbn]; exact hc⟩
    · exact get (.inr he)
  · by_cases hba : b = a
    · subst hba
      exact ⟨{ e0 with val := v }, by simp, hk⟩
    · simp only [hba, if_false] at hu
      obtain ⟨e, he, hke⟩ := h4 b u hba hu
      refine ⟨e, ?_, hke⟩
      rcases he with he | he
      · exact List.mem_append_left _ he
      · exact List.mem_append_right _ (List.mem_cons_of_mem _ he)
  · refine List.pairwise_append.2 ⟨p1, List.pairwise_cons.2 ⟨fun y hy => ?_, p2⟩, fun x hx y hy => ?_⟩
    · have := unl y (.inr hy)
      exact ⟨fun h => this.1 h.symm, fun h => this.2 h.symm⟩
    · rcases List.mem_cons.1 hy with rfl | hy
      · exact unl x (.inl hx)
      · exact p3 x hx y hy
end
theorem MapB.delete {k : TypeId} {κ : Type} {F : KeyFam k κ} [DecidableEq κ] {w : World} {m n : Nat} {C : κ → Option Value} (h : MapB F w m n C) (t e : TypeId) (ht : Tryz.prog.underlying t = some (.map k e)) (a : κ) (ha : F.ok a) :
    ∃ w' n', (∀ ty, (Builtin.delete_ #[t, k] ty #[.map (some m), F.kv a]).run Tryz.prog w = .ok (.tuple #[]) w') ∧ n' ≤ n ∧ MapB F w' m n' (fun b => if b = a then none else C b) ∧ w.grownBy w' (some m) := by
  obtain ⟨L, clock, h1, h2, h3, h4, h5⟩ := h
  obtain ⟨l, hl⟩ := F.rd a ha
  have hm : m < w.heap.size := (Array.getElem?_eq_some_iff.1 h1).1
  have hkeys : ∀ e ∈ L, ∃ l, keyOf Tryz.prog k e.key = some l := fun e he => by
    obtain ⟨b, hb, hk, _⟩ := h3 e he
    rw [hk]; exact F.rd b hb
  have hgrown : ∀ o : Obj, w.grownBy { w with heap := w.heap.setIfInBounds m o } (some m) := fun o =>
    ⟨rfl, rfl, rfl, by simp, fun j hj hne => by
      have : m ≠ j := fun e => hne (by rw [e])
      simp [Array.getElem?_setIfInBounds_ne this]⟩
  have hset : ∀ o : Obj, ({ w with heap := w.heap.setIfInBounds m o } : World).heap[m]? = some o := fun o => by
    simp [Array.getElem?_setIfInBounds_self_of_lt hm]
  rcases F.keyed.find w hl L hkeys with ⟨f1, f2⟩ | ⟨j, e0, f1, f2, f3⟩
  · have hC : C a = none := by
      cases hc : C a with
      | none => rfl
      | some v => obtain ⟨e, he, hk⟩ := h4 a v hc; exact absurd hk (f2 e he)
    refine ⟨{ w with heap := w.heap.setIfInBounds m (.map L.toArray clock) }, n, ?_, Nat.le_refl _, ⟨L, clock, hset _, h2, ?_, ?_, h5⟩, hgrown _⟩
    · intro ty
      simp [Builtin.delete_, run_underlying ht, MapKept.run_getObj_map h1, F.keyed.check w _ hl, f1, Result.andThen, setObj, Sem.run, h1]
    · intro e he
      obtain ⟨b, hb, hk, hv, hlt⟩ := h3 e he
      refine ⟨b, hb, hk, ?_, hlt⟩
      have : b ≠ a := fun e' => f2 e he (by rw [hk, e'])
      simp [this, hv]
    · intro b u hbu
      replace hbu : (if b = a then none else C b) = some u := hbu
      by_cases hba : b = a
      · rw [if_pos hba] at hbu; cases hbu
      · rw [if_neg hba] at hbu
        exact h4 b u hbu
  · obtain ⟨hj, hje⟩ := List.getElem?_eq_some_iff.1 f2
    refine ⟨{ w with heap := w.heap.setIfInBounds m (.map (L.eraseIdx j).toArray clock) }, n - 1, ?_, by omega, ⟨L.eraseIdx j, clock, hset _, by rw [List.length_eraseIdx, if_pos hj]; omega, ?_, ?_, ?_⟩, hgrown _⟩
    · intro ty
      simp [Builtin.delete_, run_underlying ht, MapKept.run_getObj_map h1, F.keyed.check w _ hl, f1, Result.andThen, setObj, Sem.run, h1, Array.eraseIdxIfInBounds, hj]
    · intro e he
      obtain ⟨i, hi, hij, hie⟩ := List.mem_eraseIdx_iff_getElem.1 he
      obtain ⟨b, hb, hk, hv, hlt⟩ := h3 e (hie ▸ List.getElem_mem hi)
      refine ⟨b, hb, hk, ?_, hlt⟩
      have hne : b ≠ a := by
        intro e'
        have hu : e.key ≠ e0.key := by
          rcases Nat.lt_or_ge i j with hlt | hge
          · rw [← hie, ← hje]
            exact (List.pairwise_iff_getElem.1 h5 i j hi hj hlt).1
          · rw [← hie, ← hje]
            exact fun q => (List.pairwise_iff_getElem.1 h5 j i hj hi (by omega)).1 q.symm
        exact hu (by rw [hk, e', f3])
      show (if b = a then none else C b) = some e.val
      rw [if_neg hne]; exact hv
    · intro b u hbu
      replace hbu : (if b = a then none else C b) = some u := hbu
      by_cases hba : b = a
      · rw [if_pos hba] at hbu; cases hbu
      · rw [if_neg hba] at hbu
        obtain ⟨e, he, hk⟩ := h4 b u hbu
        refine ⟨e, ?_, hk⟩
        obtain ⟨i, hi, hie⟩ := List.mem_iff_getElem.1 he
        refine List.mem_eraseIdx_iff_getElem.2 ⟨i, hi, ?_, hie⟩
        rintro rfl
        rw [hje] at hie
        exact hba (F.inj _ _ (hk.symm.trans ((congrArg MapEntry.key hie.symm).trans f3)))
    · exact h5.sublist (List.eraseIdx_sublist L j)
end Go.Proofs.YtkjamheoihlekaaGreat

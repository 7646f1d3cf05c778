/- Maps with keys of any shape: a store by the key; a range over the keys: each comes once, in some order. maps.Keys over a map with edges for keys; slices.AppendSeq and Collect of edges, in whatever order they come. soup.Edges' comparison; slices.SortFunc and SortedFunc of edges by whatever comparison by both ends: the row holds them sorted. soup.Edges of a surface: all edges, each once, sorted. -/
import Derived.Test.YtkjamheoihlekaaGreatFaceLaw
import Derived.Test.YtkjamheoihlekaaGreatMapLaw
import Derived.Test.YtkjamheoihlekaaGreatRowl
import Derived.Maps.RangeRun
import Derived.Sort.MapsRangeIn
import Derived.Maps.OwnIn
import Derived.Deep.AppendLies
import Derived.Test.YtkjamheoihlekaaGreatRangeM
import Derived.Test.YtkjamheoihlekaaGreatBordEdge
import Derived.Test.YtkjamheoihlekaaGreatPairBase
import Derived.Test.YtkjamheoihlekaaGreatSortELay
import Derived.Test.YtkjamheoihlekaaGreatSurfDef
import Derived.Test.YtkjamheoihlekaaGreatCertPairs
import Derived.Deep.RegionHeldLaw
namespace Go.Proofs.YtkjamheoihlekaaGreat
set_option linter.unusedVariables false
set_option linter.unusedSimpArgs false
open Go.RowKit Go.Maps
open Go.RowKit Go.Shelf
open Go.RowKit Go.Lib Go.Sort
open Go.RowKit
section
variable {k : TypeId} {κ : Type} {F : KeyFam k κ}
theorem MapB.store [DecidableEq κ] {w : World} {m n : Nat} {C : κ → Option Value} (h : MapB F w m n C) (t e : TypeId) (ht : Tryz.prog.underlying t = some (.map k e)) (a : κ) (ha : F.ok a) (v : Value) :
    ∃ w', (Instr.mapUpdate t (.map (some m)) (F.kv a) v).run Tryz.prog w = .ok () w' ∧ MapB F w' m (if (C a).isSome then n else n + 1) (fun b => if b = a then some v else C b) ∧ w.grownBy w' (some m) := by
  obtain ⟨L, clock, h1, h2, h3, h4, h5⟩ := h
  obtain ⟨l, hl⟩ := F.rd a ha
  have hm : m < w.heap.size := (Array.getElem?_eq_some_iff.1 h1).1
  have hkeys : ∀ e ∈ L, ∃ l, keyOf Tryz.prog k e.key = some l := fun e he => by
    obtain ⟨b, hb, hk, _⟩ := h3 e he
    rw [hk]; exact F.rd b hb
  have hgrown : ∀ o : Obj, w.grownBy { w with heap := w.heap.setIfInBounds m o } (some m) := fun o =>
    ⟨rfl, rfl, rfl, by simp, fun j hj hne => by
      have : m ≠ j := fun e => hne (by rw [e])
      simp [Array.getElem?_setIfInBounds_ne this]⟩
  have hset : ∀ o : Obj, ({ w with heap := w.heap.setIfInBounds m o } : World).heap[m]? = some o := fun o => by
    simp [Array.getElem?_setIfInBounds_self_of_lt hm]
  rcases F.keyed.find w hl L hkeys with ⟨f1, f2⟩ | ⟨j, e0, f1, f2, f3⟩
  · have hC : C a = none := by
      cases hc : C a with
      | none => rfl
      | some v => obtain ⟨e, he, hk⟩ := h4 a v hc; exact absurd hk (f2 e he)
    refine ⟨{ w with heap := w.heap.setIfInBounds m (.map (L ++ [({ key := F.kv a, val := v, born := clock } : MapEntry)]).toArray (clock + 1)) }, ?_, ⟨L ++ [({ key := F.kv a, val := v, born := clock } : MapEntry)], _, hset _, ?_, ?_, ?_, ?_⟩, hgrown _⟩
    · simp [Instr.mapUpdate, run_underlying ht, MapKept.run_getObj_map h1, F.keyed.check w _ hl, f1, Result.andThen, setObj, Sem.run, h1]
    · simp [hC, h2]
    · intro e he
      simp only [List.mem_append, List.mem_singleton] at he
      rcases he with he | rfl
      · obtain ⟨b, hb, hk, hv, hlt⟩ := h3 e he
        refine ⟨b, hb, hk, ?_, by omega⟩
        have : b ≠ a := fun e' => f2 e he (by rw [hk, e'])
        simp [this, hv]
      · exact ⟨a, ha, rfl, by simp, by simp⟩
    · intro b u hbu
      by_cases hba : b = a
      · subst hba
        exact ⟨{ key := F.kv b, val := v, born := clock }, by simp, rfl⟩
      · simp only [hba, if_false] at hbu
        obtain ⟨e, he, hk⟩ := h4 b u hbu
        exact ⟨e, List.mem_append_left _ he, hk⟩
    · refine List.pairwise_append.2 ⟨h5, by simp, fun x hx y hy => ?_⟩
      simp only [List.mem_singleton] at hy
      subst hy
      obtain ⟨b, hb, hk, hv, hlt⟩ := h3 x hx
      exact ⟨f2 x hx, by show x.born ≠ clock; omega⟩
  · obtain ⟨b, hb, hk, hv, hlt⟩ := h3 e0 (List.mem_of_getElem? f2)
    have hab : b = a := F.inj _ _ (hk.symm.trans f3)
    subst hab
    obtain ⟨hj, hje⟩ := List.getElem?_eq_some_iff.1 f2
    have hL : L = L.take j ++ e0 :: L.drop (j + 1) := by
      rw [← hje, ← List.drop_eq_getElem_cons hj, List.take_append_drop]
    have hjl : (L.take j).length = j := by simp; omega
    have hst := F.keyed.stays w hl
    obtain ⟨A, hA⟩ : ∃ A, A = L.take j := ⟨_, rfl⟩
    obtain ⟨B, hB⟩ : ∃ B, B = L.drop (j + 1) := ⟨_, rfl⟩
    rw [← hA, ← hB] at hL
    rw [← hA] at hjl
    have hmod : L.toArray.modify j (fun e => { e with key := F.kv b, val := v }) = (A ++ { e0 with key := F.kv b, val := v } :: B).toArray := by
      rw [hL, ← hjl]
      exact modify_mid A B e0 _
    have hmod2 : L.modify j (fun e => { e with key := F.kv b, val := v }) = A ++ { e0 with key := F.kv b, val := v } :: B := by
      have := congrArg Array.toList hmod
      simpa using this
    rw [hL] at h5
    obtain ⟨p1, p2, p3⟩ := List.pairwise_append.1 h5
    obtain ⟨p4, p5⟩ := List.pairwise_cons.1 p2
    refine ⟨{ w with heap := w.heap.setIfInBounds m (.map (A ++ { e0 with key := F.kv b, val := v } :: B).toArray clock) }, ?_, ⟨_, _, hset _, ?_, ?_, ?_, ?_⟩, hgrown _⟩
    · simp [Instr.mapUpdate, run_underlying ht, MapKept.run_getObj_map h1, F.keyed.check w _ hl, f1, Result.andThen, setObj, Sem.run, h1, f2, f3, hst, hmod2]
    · rw [hL] at h2
      simp at h2
      simp [hv]; omega
    · intro e he
      have get : e ∈ A ∨ e ∈ B → ∃ a, F.ok a ∧ e.key = F.kv a ∧ (if a = b then some v else C a) = some e.val ∧ e.born < clock := fun he => by
        have hmem : e ∈ L := by
          rw [hL]
          rcases he with he | he
          · exact List.mem_append_left _ he
          · exact List.mem_append_right _ (List.mem_cons_of_mem _ he)
        have hun : e.key ≠ e0.key := by
          rcases he with he | he
          · exact (p3 e he e0 (List.mem_cons_self ..)).1
          · exact fun h => (p4 e he).1 h.symm
        obtain ⟨c, hc, hkc, hvc, hlc⟩ := h3 e hmem
        exact ⟨c, hc, hkc, by rw [if_neg (fun e' => hun (by rw [hkc, e', f3]))]; exact hvc, hlc⟩
      simp only [List.mem_append, List.mem_cons] at he
      rcases he with he | rfl | he
      · exact get (.inl he)
      · exact ⟨b, ha, rfl, by simp, hlt⟩
      · exact get (.inr he)
    · intro c u hcu
      by_cases hcb : c = b
      · subst hcb
        exact ⟨{ e0 with key := F.kv c, val := v }, by simp, rfl⟩
      · simp only [hcb, if_false] at hcu
        obtain ⟨e, he, hke⟩ := h4 c u hcu
        rw [hL] at he
        simp only [List.mem_append, List.mem_cons] at he
        rcases he with he | rfl | he
        · exact ⟨e, by simp [he], hke⟩
        · exact absurd (F.inj _ _ (hke.symm.trans f3)) hcb
        · exact ⟨e, by simp [he], hke⟩
    · refine List.pairwise_append.2 ⟨p1, List.pairwise_cons.2 ⟨fun y hy => ?_, p5⟩, fun x hx y hy => ?_⟩
      · exact ⟨by have := (p4 y hy).1; rw [f3] at this; exact this, (p4 y hy).2⟩
      · rcases List.mem_cons.1 hy with rfl | hy
        · have := p3 x hx e0 (List.mem_cons_self ..)
          exact ⟨by have := this.1; rw [f3] at this; exact this, this.2⟩
        · exact p3 x hx y (List.mem_cons_of_mem _ hy)
/-- A range over a map: the keys S have come. -/
def Rng (F : KeyFam k κ) (w : World) (r m n : Nat) (C : κ → Option Value) (S : List κ) : Prop :=
  ∃ (L : List MapEntry) (clock : Nat) (seen : Array Nat) (c0 : Nat), w.heap[m]? = some (.map L.toArray clock) ∧ L.length = n ∧ (∀ e ∈ L, ∃ a, F.ok a ∧ e.key = F.kv a ∧ C a = some e.val ∧ e.born < clock) ∧
    (∀ a v, C a = some v → ∃ e ∈ L, e.key = F.kv a) ∧ L.Pairwise Unl ∧ w.heap[r]? = some (.mapIter (some m) clock seen c0) ∧ clock ≤ c0 ∧ S.Nodup ∧ (∀ a ∈ S, C a ≠ none) ∧ ∀ e ∈ L, seen.contains e.born = true ↔ ∃ a ∈ S, e.key = F.kv a
theorem Rng.same {w w' : World} {r m n : Nat} {C : κ → Option Value} {S : List κ} (h : Rng F w r m n C S) (e : w'.heap[m]? = w.heap[m]?) (e' : w'.heap[r]? = w.heap[r]?) : Rng F w' r m n C S := by
  obtain ⟨L, clock, seen, c0, h1, h2, h3, h4, h5, h6, h7⟩ := h
  exact ⟨L, clock, seen, c0, e.trans h1, h2, h3, h4, h5, e'.trans h6, h7⟩
theorem Rng.lt {w : World} {r m n : Nat} {C : κ → Option Value} {S : List κ} (h : Rng F w r m n C S) : m < w.heap.size ∧ r < w.heap.size := by
  obtain ⟨L, clock, seen, c0, h1, h2, h3, h4, h5, h6, h7⟩ := h
  exact ⟨(Array.getElem?_eq_some_iff.1 h1).1, (Array.getElem?_eq_some_iff.1 h6).1⟩
theorem range_start {w : World} {m n : Nat} {C : κ → Option Value} (h : MapB F w m n C) (t e : TypeId) (ht : Tryz.prog.underlying t = some (.map k e)) :
    ∃ w', (Instr.range t (.map (some m))).run Tryz.prog w = .ok (.pointer (some ⟨w.heap.size, 0, none⟩)) w' ∧ Rng F w' w.heap.size m n C [] ∧ w.grownBy w' none ∧ w'.heap.size = w.heap.size + 1 := by
  obtain ⟨L, clock, h1, h2, h3, h4, h5⟩ := h
  have hm : m < w.heap.size := (Array.getElem?_eq_some_iff.1 h1).1
  refine ⟨w.alloc (.mapIter (some m) clock #[] clock), ?_, ⟨L, clock, #[], clock, (Below.heap_alloc _ _ _ hm).trans h1, h2, h3, h4, h5, heap_alloc_new w _, Nat.le_refl _, List.nodup_nil, by simp, by simp⟩, below_grown ((Below.refl _ _).alloc (Nat.le_refl _) _), by simp⟩
  simp only [Instr.range, Sem.run_bind, run_underlying ht, MapKept.run_getObj_map h1, Result.andThen_ok, Sem.run_pure]
  rfl
theorem Rng.le {w : World} {r m n : Nat} {C : κ → Option Value} {S : List κ} (h : Rng F w r m n C S) : S.length ≤ n := by
  obtain ⟨L, clock, seen, c0, h1, h2, h3, h4, h5, h6, h7, h8, h9, h10⟩ := h
  have hnd : (S.map F.kv).Nodup := by
    refine List.pairwise_map.2 (h8.imp ?_)
    intro a b hne e
    exact hne (F.inj _ _ e)
  have := hnd.length_le_of_subset (l₂ := L.map (·.key)) (fun x hx => by
    obtain ⟨a, ha, rfl⟩ := List.mem_map.1 hx
    cases hc : C a with
    | none => exact absurd hc (h9 a ha)
    | some v =>
      obtain ⟨e, he, hk⟩ := h4 a v hc
      exact List.mem_map.2 ⟨e, he, hk⟩)
  simpa [h2] using this
theorem Rng.next {w : World} {r m n : Nat} {C : κ → Option Value} {S : List κ} (h : Rng F w r m n C S) (ty : TypeId) :
    ((∀ a, C a ≠ none → a ∈ S) ∧ (Instr.next (.pointer (some ⟨r, 0, none⟩)) false ty).run Tryz.prog w = .ok (.tuple #[.bool false]) w) ∨
    ∃ a v w', C a = some v ∧ F.ok a ∧ a ∉ S ∧ (Instr.next (.pointer (some ⟨r, 0, none⟩)) false ty).run Tryz.prog w = .ok (.tuple #[.bool true, F.kv a, v]) w' ∧ Rng F w' r m n C (S ++ [a]) ∧ w.grownBy w' (some r) ∧ w'.heap.size = w.heap.size ∧
      (Instr.entry (.pointer (some ⟨r, 0, none⟩))).run Tryz.prog w' = .ok (.tuple #[F.kv a, v]) w' := by
  obtain ⟨L, clock, seen, c0, h1, h2, h3, h4, h5, h6, h7, h8, h9, h10⟩ := h
  have hmr : m ≠ r := fun e => by rw [e] at h1; rw [h1] at h6; cases h6
  have hlt : ∀ x ∈ L, x.born < clock := fun x hx => (h3 x hx).elim fun a h => h.2.2.2
  rcases run_next_at (P := Tryz.prog) w ty r m clock c0 seen L.toArray clock h6 h1 (by simpa using hlt) h7 with ⟨hz, hrun⟩ | ⟨e, he, w1, hw1, hrun⟩
  · left
    refine ⟨fun a hc => ?_, hrun⟩
    cases hca : C a with
    | none => exact absurd hca hc
    | some v =>
      obtain ⟨e, he, hk⟩ := h4 a v hca
      have : seen.contains e.born = true := by
        cases hs : seen.contains e.born with
        | true => rfl
        | false =>
          have hmem : e ∈ (leftOf L.toArray seen).toList := by simp [leftOf, he, hs]; simpa using hs
          have : (leftOf L.toArray seen).toList.length = 0 := by simpa using hz
          rw [List.length_eq_zero_iff] at this
          rw [this] at hmem
          cases hmem
      obtain ⟨b, hb, hkb⟩ := (h10 e he).1 this
      have : a = b := F.inj _ _ (hk.symm.trans hkb)
      rw [this]; exact hb
  · right
    have hmem : e ∈ L ∧ seen.contains e.born = false := by
      have := he
      simp [leftOf] at this
      exact ⟨this.1, by simpa using this.2⟩
    obtain ⟨heL, hns⟩ := hmem
    obtain ⟨a, ha, hk, hv, hb⟩ := h3 e heL
    have haS : a ∉ S := fun haS => by
      have := (h10 e heL).2 ⟨a, haS, hk⟩
      rw [hns] at this
      cases this
    have hr1 : w1.heap = w.heap := by rcases hw1 with rfl | rfl <;> rfl
    have hrl : r < w.heap.size := (Array.getElem?_eq_some_iff.1 h6).1
    obtain ⟨w', hw'⟩ : ∃ w', w' = Go.ChangeMaps.setBlock w1 r (.mapIter (some m) clock (seen.push e.born) clock) := ⟨_, rfl⟩
    have hheap : w'.heap = w.heap.setIfInBounds r (.mapIter (some m) clock (seen.push e.born) clock) := by rw [hw', ← hr1]; rfl
    have hm' : w'.heap[m]? = some (.map L.toArray clock) := by rw [hheap, Array.getElem?_setIfInBounds_ne (Ne.symm hmr)]; exact h1
    have hr' : w'.heap[r]? = some (.mapIter (some m) clock (seen.push e.born) clock) := by rw [hheap, Array.getElem?_setIfInBounds_self_of_lt hrl]
    have hbn : (L.map (·.born)).Nodup := List.pairwise_map.2 (h5.imp fun h => h.2)
    rw [← hw'] at hrun
    rw [hk] at hrun
    refine ⟨a, e.val, w', hv, ha, haS, hrun, ⟨L, clock, seen.push e.born, clock, hm', h2, h3, h4, h5, hr', Nat.le_refl _, ?_, ?_, ?_⟩, ?_, by rw [hheap]; simp, ?_⟩
    · rw [List.nodup_append]
      exact ⟨h8, by simp, fun x hx y hy => by
        rw [List.mem_singleton.1 hy]
        exact fun e => haS (e ▸ hx)⟩
    · intro b hb
      rcases List.mem_append.1 hb with hb | hb
      · exact h9 b hb
      · rw [List.mem_singleton.1 hb, hv]; simp
    · intro x hx
      rw [Array.contains_push]
      constructor
      · intro h
        rcases Bool.or_eq_true_iff.1 h with h | h
        · obtain ⟨b, hb, hkb⟩ := (h10 x hx).1 (by first | exact h | simpa using h)
          exact ⟨b, List.mem_append_left _ hb, hkb⟩
        · have hxe : x.born = e.born := by simpa using h
          have : x = e := Classical.byContradiction fun hne => by
            obtain ⟨i, hi, rfl⟩ := List.getElem_of_mem hx
            obtain ⟨j, hj, hje⟩ := List.getElem_of_mem heL
            have hij : i ≠ j := fun e' => hne (by subst e'; exact hje)
            have p := List.pairwise_iff_getElem.1 h5
            rcases Nat.lt_or_gt_of_ne hij with hlt | hlt
            · exact (p i j hi hj hlt).2 (by rw [hje]; exact hxe)
            · exact (p j i hj hi hlt).2 (by rw [hje]; exact hxe.symm)
          exact ⟨a, by simp, by rw [this]; exact hk⟩
      · rintro ⟨b, hb, hkb⟩
        rcases List.mem_append.1 hb with hb | hb
        · have := (h10 x hx).2 ⟨b, hb, hkb⟩
          simp at this
          simp [this]
        · rw [List.mem_singleton.1 hb] at hkb
          have : x = e := Classical.byContradiction fun hne => by
            obtain ⟨i, hi, rfl⟩ := List.getElem_of_mem hx
            obtain ⟨j, hj, hje⟩ := List.getElem_of_mem heL
            have hij : i ≠ j := fun e' => hne (by subst e'; exact hje)
            have p := List.pairwise_iff_getElem.1 h5
            rcases Nat.lt_or_gt_of_ne hij with hlt | hlt
            · exact (p i j hi hj hlt).1 (by rw [hje, hkb, hk])
            · exact (p j i hj hi hlt).1 (by rw [hje, hkb, hk])
          simp [this]
    · refine ⟨?_, ?_, ?_, by rw [hheap]; simp, fun j hj hne => ?_⟩
      · rw [hw']; rcases hw1 with rfl | rfl <;> rfl
      · rw [hw']; rcases hw1 with rfl | rfl <;> rfl
      · rw [hw']; rcases hw1 with rfl | rfl <;> rfl
      · have : r ≠ j := fun e => hne (by rw [e])
        rw [hheap, Array.getElem?_setIfInBounds_ne this]
    · have := run_entry_at (P := Tryz.prog) w' r m clock seen L.toArray clock e hr' hm' (by simpa using heL) (by simpa using hbn)
      rw [hk] at this
      exact this
theorem wpListIn_range_rng {FF : Fence} {nf : Nat} {ops : Array Oper} {rest : List Oper} {o : Oper} {a : Act} {Q : Exit → Act → World → Prop} {w : World} {m n : Nat} {C : κ → Option Value} (hg : o.guard = none) (mo : Operand) (t e : TypeId) (hop : o.op = Op.range t mo) (ht : Tryz.prog.underlying t = some (.map k e)) (hm : a.eval mo = .map (some m)) (h : MapB F w m n C)
    (hK : ∀ w', Rng F w' w.heap.size m n C [] → w.grownBy w' none → w'.heap.size = w.heap.size + 1 → wpListIn FF nf Tryz.prog ops Q rest (a.put o.dst (.pointer (some ⟨w.heap.size, 0, none⟩))) w') :
    wpListIn FF nf Tryz.prog ops Q (o :: rest) a w := by
  refine wpListIn_plain hg fun K' hK' => ?_
  obtain ⟨w', hrun, r1, r2, r3⟩ := range_start h t e ht
  unfold Oper.wpIn
  refine ⟨?_, ?_⟩
  · simp [Oper.about, hop]
  · rw [Oper.semAt_plain FF _ _ (by rw [hop]; intro c hc'; cases hc')]
    simp [execOp, hop, hm, hrun, Result.andThen]
    exact hK' _ _ (hK w' r1 r2 r3)
/-- Where a walk is to stand. -/
def Stop (p : Prop) : Prop := p
theorem wpListIn_next_rng {FF : Fence} {nf : Nat} {ops : Array Oper} {rest : List Oper} {o : Oper} {a : Act} {Q : Exit → Act → World → Prop} {w : World} {r m n : Nat} {C : κ → Option Value} {S : List κ} (hg : o.guard = none) (it : Operand) (hop : o.op = Op.next it false) (hit : a.eval it = .pointer (some ⟨r, 0, none⟩)) (h : Rng F w r m n C S)
    (hDone : (∀ a, C a ≠ none → a ∈ S) → Stop (wpListIn FF nf Tryz.prog ops Q rest (a.put o.dst (.tuple #[.bool false])) w))
    (hMore : ∀ (x : κ) (v : Value) (w' : World), C x = some v → F.ok x → x ∉ S → Rng F w' r m n C (S ++ [x]) → w.grownBy w' (some r) → w'.heap.size = w.heap.size → (Instr.entry (.pointer (some ⟨r, 0, none⟩))).run Tryz.prog w' = .ok (.tuple #[F.kv x, v]) w' → Stop (wpListIn FF nf Tryz.prog ops Q rest (a.put o.dst (.tuple #[.bool true, F.kv x, v])) w')) :
    wpListIn FF nf Tryz.prog ops Q (o :: rest) a w := by
  refine wpListIn_plain hg fun K' hK' => ?_
  unfold Oper.wpIn
  refine ⟨?_, ?_⟩
  · simp [Oper.about, hop]
  · rw [Oper.semAt_plain FF _ _ (by rw [hop]; intro c hc'; cases hc')]
    rcases h.next o.type with ⟨hd, hrun⟩ | ⟨x, v, w', h1, h2, h3, hrun, h4, h5, h6, h7⟩
    · simp [execOp, hop, hit, hrun, Result.andThen]
      exact hK' _ _ (hDone hd)
    · simp [execOp, hop, hit, hrun, Result.andThen]
      exact hK' _ _ (hMore x v w' h1 h2 h3 h4 h5 h6 h7)
end
attribute [local go_sem] Oper.semAt_some
def encE2 (x : Int × Int) : Array Value := #[.agg #[.int .i64 x.1, .int .i64 x.2]]
set_option maxRecDepth 100000 in
set_option maxHeartbeats 2000000 in
theorem keys_mk (m : Nat) (w : World) :
    Calls Tryz.prog 46 #[.map (some m)] w fun e w' => e = .returned (.func (.func 87) #[] #[.pointer (some ⟨w.heap.size, 0, none⟩)]) ∧ w' = w.alloc (.cells #[.map (some m)] 68) := by
  go_enter Tryz.func46, Tryz.ntmps46
  go_wp2
  go_ret
  exact ⟨rfl, rfl⟩
theorem Rng.parts {w : World} {r m n : Nat} {C : Int × Int → Option Value} {S : List (Int × Int)} (h : Rng edgeFam w r m n C S) : S.Nodup ∧ ∀ a, a ∈ S → C a ≠ none := by
  obtain ⟨L, clock, seen, c0, h1, h2, h3, h4, h5, h6, h7, h8, h9, h10⟩ := h
  exact ⟨h8, h9⟩
theorem Rng.walk {w : World} {r m n : Nat} {C : Int × Int → Option Value} {S : List (Int × Int)} (h : Rng edgeFam w r m n C S) : ∃ o : Obj, w.heap[r]? = some o ∧ o.isWalk = true := by
  obtain ⟨L, clock, seen, c0, h1, h2, h3, h4, h5, h6, h7⟩ := h
  exact ⟨_, h6, rfl⟩
theorem Rng.keeps {w w' : World} {B r m n : Nat} {C : Int × Int → Option Value} {S : List (Int × Int)} (h : Rng edgeFam w r m n C S) (hB : r = B) (hm : w'.heap[m]? = w.heap[m]?) (hk : KeepsFrom B w w') : Rng edgeFam w' r m n C S := by
  obtain ⟨L, clock, seen, c0, h1, h2, h3, h4, h5, h6, h7⟩ := h
  exact ⟨L, clock, seen, c0, hm.trans h1, h2, h3, h4, h5, hk.same r _ (by omega) h6 rfl, h7⟩
set_option maxRecDepth 100000 in
set_option maxHeartbeats 2000000 in
theorem keys_seq (n : Nat) (hn : 1 ≤ n) (b1 m cnt : Nat) (C : Int × Int → Option Value) (w : World) (hb1 : b1 < w.heap.size) (c1 : w.cell? ⟨b1, 0, none⟩ = some (.map (some m))) (h : MapB edgeFam w m cnt C) :
    SeqG Fence.wide n Tryz.prog 87 #[.pointer (some ⟨b1, 0, none⟩)] encE2 (fun k => k = b1 ∨ k = m) (fun S => S.length ≤ cnt) (fun S => S.Nodup ∧ S.length ≤ cnt ∧ ∀ a, a ∈ S ↔ C a ≠ none) w := by
  intro l J W hW hJ hY h0
  have hml := h.lt
  have hM := h.same (w' := W) (hW.block m hml)
  have x1 := (hW.cell (p := ⟨b1, 0, none⟩) hb1).trans c1
  have HJ := Lib.hid hJ
  have HY := Lib.hid hY
  have H0 := Lib.hid h0
  have HML := Lib.hid (show m < W.heap.size by have := hW.size; omega)
  have HM := Lib.hid hM
  clear hJ hY h0 h c1 hb1 hM hml hW
  refine callsIn_of_wp Tryz.func87 rfl trivial ?_ rfl
  simp only [Tryz.ntmps87, List.size_toArray, List.length_cons, List.length_nil, Nat.reduceAdd, Nat.reduceSub, Array.replicate_succ, Array.replicate_zero, List.push_toArray, List.append_toArray, List.nil_append, List.cons_append]
  gi_wp2_with (gi_at_range; refine wpListIn_range_rng rfl _ 68 4 rfl (by kernel_rfl) rfl HM.out ?_; intro w1 hr1 hg1 hs1)
  have HR1 := Lib.hid hr1
  have HJ1 := Lib.hid (HJ.out [] W w1 none H0.out hg1 (fun r e => by cases e))
  have HS1 := Lib.hid hs1
  obtain ⟨r, hr⟩ : ∃ r, r = W.heap.size := ⟨_, rfl⟩
  rw [← hr] at HR1
  simp only [← hr]
  have HRR := Lib.hid hr
  clear hr1 hg1 hs1 hr
  gi_loopg [] cnt (fun g wr => ∃ S, g = cnt - S.length ∧ Rng edgeFam wr r m cnt C S ∧ J S wr)
  case atStart => exact ⟨[], rfl, HR1.out, HJ1.out⟩
  case round =>
  obtain ⟨S, hg, hRS, hJS⟩ := hrel
  obtain ⟨X, rfl⟩ : ∃ X : World, X = wr := ⟨_, rfl⟩
  have HRS := Lib.hid hRS
  have HJS := Lib.hid hJS
  have HG := Lib.hid hg
  clear hRS hJS hg HM HR1 HJ1 H0 HS1
  gi_wp2_with (first | (gi_at_next; refine wpListIn_next_rng rfl _ rfl rfl HRS.out (fun hall => ?_) (fun x v w2 hC hok hnS hR2 hg2 hs2 hent => ?_)) | gi_in)
  · unfold Stop
    obtain ⟨hnd, hin⟩ := HRS.out.parts
    have HE := Lib.hid (show S.Nodup ∧ S.length ≤ cnt ∧ ∀ a, a ∈ S ↔ C a ≠ none from ⟨hnd, HRS.out.le, fun a => ⟨hin a, hall a⟩⟩)
    clear hall hnd hin
    gi_wp2
    go_end0
    exact ⟨⟨_, rfl⟩, S, HE.out, HJS.out⟩
  · unfold Stop
    obtain ⟨w3, hw3⟩ : ∃ w3, w3 = w2.alloc (.cells #[.int .i64 x.1, .int .i64 x.2] 40) := ⟨_, rfl⟩
    have hlen := hR2.le
    have hw := HRS.out.walk
    have hJ2 := HJ.out S X w2 (some r) HJS.out hg2 (fun q e => by cases e; exact ⟨by rw [HRR.out]; exact Nat.le_refl _, hw⟩)
    have hJ3 : J S w3 := HJ.out S w2 w3 none hJ2 (by rw [hw3]; exact below_grown ((Below.refl _ _).alloc (Nat.le_refl _) _)) (fun q e => by cases e)
    have hR3 : Rng edgeFam w3 r m cnt C (S ++ [x]) := by
      rw [hw3]
      exact hR2.same (Below.heap_alloc _ _ _ hR2.lt.1) (Below.heap_alloc _ _ _ hR2.lt.2)
    obtain ⟨fn, tmps, assign, body, hy, hR⟩ := HY.out S x w3 hJ3 hlen
    have hxa := RowIs.made w2 40 [.int .i64 x.1, .int .i64 x.2]
    have hc0 := hxa.cell (i := 0) rfl
    have hc1 := hxa.cell (i := 1) rfl
    subst hw3
    try dsimp only [encE2] at hy
    try dsimp only [edgeFam] at hent
    have HR3 := Lib.hid hR3
    have HLEN := Lib.hid hlen
    clear hR3 hlen hJ2 hJ3 hR2 hg2 hs2 hnS hok hC hxa hw
    simp only [edgeFam]
    gi_wp2
    refine hR.mono ?_
    rintro e W4 ⟨rfl, hJ4, hK4, hKF4⟩
    have HR4 := Lib.hid (HR3.out.keeps HRR.out (hK4 m (.inr rfl)) hKF4)
    have HJ4 := Lib.hid hJ4
    clear hJ4 hK4 hKF4 hy hR hent hc0 hc1
    gi_wp2
    gi_roundg (cnt - (S ++ [x]).length)
    case rel => exact ⟨S ++ [x], rfl, HR4.out, HJ4.out⟩
    case measure => have := HG.out; have := HLEN.out; rw [List.length_append, List.length_singleton] at *; omega
set_option maxRecDepth 100000 in
set_option maxHeartbeats 2000000 in
theorem append_edges (n : Nat) (hn : 3 ≤ n) (gf : Nat) (lb : Array Value) (cnt : Nat) (hlen : cnt ≤ 100000) (Fin : List (Int × Int) → Prop) (Kc : Nat → Prop) (w : World) (hKc : ∀ k, Kc k → k < w.heap.size) (eg : ∀ args w, (callFunc gf args).run Tryz.prog w = .ok (.enter gf args) w)
    (hseq : SeqG Fence.wide (n - 1) Tryz.prog gf lb encE2 Kc (fun S => S.length ≤ cnt) Fin w) :
    CallsIn Fence.wide n Tryz.prog 107 #[.slice none 0 0, .func (.func gf) #[] lb] w fun e W' => ∃ v D, Fin D ∧ e = .returned v ∧ W'.ownsRow w.heap.size 40 2 v D.length (ecells D) ∧ Below w.heap.size w W' := by
  have h1 : 1 ≤ n := by omega
  obtain ⟨i0, hi, hz0, hz1, hz2⟩ := info_parts infoEdge
  refine callsIn_of_wp_marks Tryz.func107 rfl trivial ?_ rfl
  simp only [Tryz.ntmps107, List.size_toArray, List.length_cons, List.length_nil, Nat.reduceAdd, Nat.reduceSub, Array.replicate_succ, Array.replicate_zero, List.push_toArray, List.append_toArray, List.nil_append, List.cons_append]
  gi_wp2
  have bO := Boxed.new w 34 (.slice none 0 0)
  have hB0 : Below w.heap.size w (w.alloc (.cells #[.slice none 0 0] 34)) := (Below.refl _ w).alloc (Nat.le_refl _) _
  refine rangeFunc_G rfl h1 (gf := gf) (lb := lb) rfl trivial eg hseq hB0 (fun _ => rfl) (fun k hk => by have := hKc k hk; simp; omega)
    (fun pre W => (∃ v, Boxed W w.heap.size 34 v ∧ W.ownsRow w.heap.size 40 2 v pre.length (ecells pre) ∧ True) ∧ Below w.heap.size w W)
    (OwnFrom.and (Own.from (holdsRow_own w.heap.size w.heap.size 34 40 2 (fun pre => pre.length) (fun pre => ecells pre) (fun _ _ => True)) _) (ownFrom_below (Nat.le_refl _) (by simp)))
    ⟨⟨_, bO, World.ownsRow_nil _ _ _ _, trivial⟩, hB0⟩ (fun x b0 => { tmps := #[.slice none 0 0, .func (.func gf) #[] lb, .pointer (some ⟨w.heap.size, 0, none⟩), undef, .slice none 0 0, .pointer (some ⟨b0, 0, none⟩), .func (.func gf) #[] lb, .agg #[.int .i64 x.1, .int .i64 x.2], undef, undef, undef, undef, undef], defers := [] }) (fun x => .cells #[.int .i64 x.1, .int .i64 x.2] 40) ?assign ?body ?done
  case assign =>
    intro l x W K hK
    simp only [encE2]
    gi_wp2
    exact hK
  case body =>
    rintro l pre x W b0 ⟨⟨v, hv, hrow, -⟩, hB⟩ hpre hb0 hnew
    have hc := hv.cell
    have hn0 : W.cell? ⟨b0, 0, none⟩ = some (.int .i64 x.1) := by simp [World.cell?, hnew]
    have hn1 : W.cell? ⟨b0, 1, none⟩ = some (.int .i64 x.2) := by simp [World.cell?, hnew]
    have hpl : pre.length + 1 ≤ cnt := by simpa using hpre
    clear hpre hnew
    gi_wp2_with (gi_at_builtin; refine wpListIn_append_own _ rfl _ _ 34 rfl w.heap.size 40 i0 (.agg #[.int .i64 0, .int .i64 0]) 2 16 (by kernel_rfl) hi hz0 hz1 hz2 rfl (by decide) _ _ _ rfl (hrow.alloc _) ⟨W.heap.size, 0, none⟩ 1 1 [.int .i64 x.1, .int .i64 x.2] rfl rfl (World.news_of_block (heap_alloc_new W _)) (by simp [Value.oneCell']) (by unfold maxLen; omega) (by omega) (by have := hB.size; simp; omega) ?_; intro v' w1 hown' hgrow _; obtain ⟨g', cap', rfl⟩ := ownsRow_succ hown'; obtain ⟨hv1, hv2, hr2, hk2, hb2⟩ := hv.appended (by decide) hrow hB.size (Nat.le_refl _) hown' hgrow; have hc1 := hv1.cell; have hf1 := hv1.frozen)
    exact ⟨hk2.from _, fun k hk => hb2.block k (hKc k hk), ⟨_, hv2, by rw [ecells_snoc, List.length_append]; exact hr2, trivial⟩, hB.trans hb2⟩
  case done =>
    rintro D W ss hD hfin ⟨⟨v, hv, hrow, -⟩, hB⟩ hK
    have hc := hv.cell
    gi_wp2
    refine ⟨by simp, .inl ⟨_, _, rfl, run_takeDeferred hK, ?_⟩⟩
    exact ⟨_, results_tmp rfl _ _ _, v, ss, hfin, rfl, ownsRow_putObj hrow _ hK rfl, hB.trans (belowK_b (w := w) (Nat.le_refl _) W D _ _ (by simp at hD; omega) hK rfl rfl)⟩
set_option maxRecDepth 100000 in
set_option maxHeartbeats 2000000 in
theorem collect_edges (n : Nat) (hn : 4 ≤ n) (gf : Nat) (lb : Array Value) (cnt : Nat) (hlen : cnt ≤ 100000) (Fin : List (Int × Int) → Prop) (Kc : Nat → Prop) (w : World) (hKc : ∀ k, Kc k → k < w.heap.size) (eg : ∀ args w, (callFunc gf args).run Tryz.prog w = .ok (.enter gf args) w)
    (hseq : SeqG Fence.wide (n - 1 - 1) Tryz.prog gf lb encE2 Kc (fun S => S.length ≤ cnt) Fin w) :
    CallsIn Fence.wide n Tryz.prog 85 #[.func (.func gf) #[] lb] w fun e W' => ∃ v D, Fin D ∧ e = .returned v ∧ W'.ownsRow w.heap.size 40 2 v D.length (ecells D) ∧ Below w.heap.size w W' := by
  have h1 : 1 ≤ n := by omega
  have HA := append_edges (n - 1) (by omega) gf lb cnt hlen Fin Kc w hKc eg hseq
  refine callsIn_of_wp Tryz.func85 rfl trivial ?_ rfl
  simp only [Tryz.ntmps85, List.size_toArray, List.length_cons, List.length_nil, Nat.reduceAdd, Nat.reduceSub, Array.replicate_succ, Array.replicate_zero, List.push_toArray, List.append_toArray, List.nil_append, List.cons_append]
  gi_wp2_with (refine ⟨trivial, ?_⟩; gi_at_call 107; refine HA.mono ?_; rintro e w1 ⟨v, D, hfin, rfl, hown, hbl⟩)
  go_ret
  exact ⟨v, D, hfin, rfl, hown, hbl⟩
/-- The keys of a map of edges, in some order. -/
theorem keys_collect (b1 m cnt : Nat) (hcnt : cnt ≤ 100000) (C : Int × Int → Option Value) (w : World) (hb1 : b1 < w.heap.size) (c1 : w.cell? ⟨b1, 0, none⟩ = some (.map (some m))) (h : MapB edgeFam w m cnt C) :
    Calls Tryz.prog 85 #[.func (.func 87) #[] #[.pointer (some ⟨b1, 0, none⟩)]] w fun e W' => ∃ v D, (D.Nodup ∧ D.length ≤ cnt ∧ ∀ a, a ∈ D ↔ C a ≠ none) ∧ e = .returned v ∧ W'.ownsRow w.heap.size 40 2 v D.length (ecells D) ∧ Below w.heap.size w W' :=
  callsIn_wide.1 (collect_edges 7 (by omega) 87 #[.pointer (some ⟨b1, 0, none⟩)] cnt hcnt (fun S => S.Nodup ∧ S.length ≤ cnt ∧ ∀ a, a ∈ S ↔ C a ≠ none) (fun k => k = b1 ∨ k = m) w (by rintro k (rfl | rfl); exact hb1; exact h.lt) (enters_of Tryz.func87 (by kernel_rfl) rfl) (keys_seq 5 (by omega) b1 m cnt C w hb1 c1 h))
/-- The keys D of a map, sorted. -/
def KeysP (C : Int × Int → Option Value) (w : World) (e : Ending) (w' : World) : Prop :=
  ∃ ao cap D, (D.Nodup ∧ ∀ a, a ∈ D ↔ C a ≠ none) ∧ e = .returned (.slice ao D.length cap) ∧ EdgesAt w' ao (sortP D) ∧ Below w.heap.size w w'
set_option maxRecDepth 100000 in
set_option maxHeartbeats 1000000 in
theorem sorted_keys (K : Nat) (hK : CmpE K) (hE : ∀ args w, (callFunc K args).run Tryz.prog w = .ok (.enter K args) w) (b1 m cnt : Nat) (hcnt : cnt ≤ 100000) (C : Int × Int → Option Value) (w : World) (hb1 : b1 < w.heap.size) (c1 : w.cell? ⟨b1, 0, none⟩ = some (.map (some m))) (h : MapB edgeFam w m cnt C) :
    Calls Tryz.prog 45 #[.func (.func 87) #[] #[.pointer (some ⟨b1, 0, none⟩)], .func (.func K) #[] #[]] w (KeysP C w) := by
  have HC := Lib.hid (keys_collect b1 m cnt hcnt C w hb1 c1 h)
  have HK := Lib.hid (fun w base v L => sort_edges K hK hE w base v L)
  clear h c1
  go_enter Tryz.func45, Tryz.ntmps45
  go_wp2_with fail
  refine HC.out.mono ?_
  rintro e w1 ⟨v, D, ⟨hnd, hle, hin⟩, rfl, hown, hb⟩
  have HS := Lib.hid (HK.out w1 w.heap.size v D (by omega) hown)
  have HB := Lib.hid hb
  have HD := Lib.hid (show D.Nodup ∧ ∀ a, a ∈ D ↔ C a ≠ none from ⟨hnd, hin⟩)
  clear hnd hle hin hown hb
  go_wp2_with fail
  refine HS.out.mono ?_
  rintro e w2 ⟨rfl, ao, cap, rfl, hE2, hb2⟩
  have HE2 := Lib.hid hE2
  have HB2 := Lib.hid (HB.out.trans hb2)
  clear hE2 hb2
  go_wp2
  go_ret
  exact ⟨ao, cap, D, HD.out, rfl, HE2.out, HB2.out⟩
set_option maxRecDepth 100000 in
set_option maxHeartbeats 1000000 in
theorem ecmp_any (a0 a1 b0 b1 : Int) (w : World) :
    Calls Tryz.prog 78 #[.agg #[.int .i64 a0, .int .i64 a1], .agg #[.int .i64 b0, .int .i64 b1]] w fun e w' => e = .returned (.int .i64 (cmpP (a0, a1) (b0, b1))) ∧ Gr w w' := by
  have hor := or_cmpP (a0, a1) (b0, b1)
  rw [← hor]
  clear hor
  try dsimp only
  obtain ⟨c1, hc1⟩ : ∃ c, c = Lib.compareInt a0 b0 := ⟨_, rfl⟩
  obtain ⟨c2, hc2⟩ : ∃ c, c = Lib.compareInt a1 b1 := ⟨_, rfl⟩
  rw [← hc1, ← hc2]
  have HC1 := Lib.hid (show ∀ X, Calls Tryz.prog 80 #[.int .i64 a0, .int .i64 b0] X fun e w' => e = .returned (.int .i64 c1) ∧ w' = X from fun X => by rw [hc1]; exact Tryz.cmp_Compare_int a0 b0 X)
  have HC2 := Lib.hid (show ∀ X, Calls Tryz.prog 80 #[.int .i64 a1, .int .i64 b1] X fun e w' => e = .returned (.int .i64 c2) ∧ w' = X from fun X => by rw [hc2]; exact Tryz.cmp_Compare_int a1 b1 X)
  clear hc1 hc2
  go_enter Tryz.func78, Tryz.ntmps78
  go_upto_region 1 with fail
  obtain ⟨W0, hW0⟩ : ∃ W0, W0 = (w.alloc (.cells #[.int .i64 a0, .int .i64 a1] 40)).alloc (.cells #[.int .i64 b0, .int .i64 b1] 40) := ⟨_, rfl⟩
  have hb0 : Below w.heap.size w W0 := by rw [hW0]; exact ((Below.refl _ _).alloc (Nat.le_refl _) _).alloc (by simp) _
  have hr0 : RowIs W0 w.heap.size 40 [.int .i64 a0, .int .i64 a1] := by rw [hW0]; exact (RowIs.made w 40 [.int .i64 a0, .int .i64 a1]).alloc _
  have hr1 : RowIs W0 (w.heap.size + 1) 40 [.int .i64 b0, .int .i64 b1] := by rw [hW0]; exact RowIs.made' _ _ [.int .i64 b0, .int .i64 b1] _ (by simp)
  have HKS := Lib.hid (show ∀ X, Below W0.heap.size W0 X → X.cell? ⟨w.heap.size, 0, none⟩ = some (.int .i64 a0) ∧ X.cell? ⟨w.heap.size + 1, 0, none⟩ = some (.int .i64 b0) ∧ X.cell? ⟨w.heap.size, 1, none⟩ = some (.int .i64 a1) ∧ X.cell? ⟨w.heap.size + 1, 1, none⟩ = some (.int .i64 b1) from fun X hX =>
    ⟨(hr0.below hX hr0.lt).cell rfl, (hr1.below hX hr1.lt).cell rfl, (hr0.below hX hr0.lt).cell rfl, (hr1.below hX hr1.lt).cell rfl⟩)
  have HG0 := Lib.hid (show Gr w W0 from by rw [hW0]; exact ((Gr.refl w).alloc _).alloc _)
  have hgr := HG0.out
  have hbel : Below W0.heap.size W0 W0 := Below.refl _ _
  rw [← hW0]
  clear hW0 hb0 hr0 hr1
  go_region_held3 (fun w' => w'.cell? ⟨w.heap.size, 0, none⟩ = some (.int .i64 a0) ∧ w'.cell? ⟨w.heap.size + 1, 0, none⟩ = some (.int .i64 b0) ∧ w'.cell? ⟨w.heap.size, 1, none⟩ = some (.int .i64 a1) ∧ w'.cell? ⟨w.heap.size + 1, 1, none⟩ = some (.int .i64 b1))
    (exact HKS.out _ (by repeat (first | exact hbel | with_reducible apply bel_alloc | with_reducible apply bel_drew)))
    (first | (go_at_call 80; (with_reducible refine (HC1.out _).mono ?_); rintro e w2 ⟨rfl, rfl⟩) | (go_at_call 80; (with_reducible refine (HC2.out _).mono ?_); rintro e w2 ⟨rfl, rfl⟩) | (go_at_call 79; (with_reducible refine (or_two c1 c2 _ _ (by repeat (first | with_reducible exact RowIs.made _ _ _ | with_reducible apply RowIs.drew1))).mono ?_); rintro e w2 ⟨rfl, rfl⟩))
  all_goals
    go_wp2
    exact bodyPost_ret (v := .int .i64 (orI c1 c2)) (by simp [results, Tryz.results78, go_sem]) rfl ⟨rfl, by repeat (first | exact hgr | with_reducible apply Gr.alloc | with_reducible apply Gr.drew)⟩
/-- The edge behind place j of triangle i, whichever way round. -/
def eK (T : List Tr) (i j : Nat) : Int × Int := (min (tg (T! T i) j) (tg (T! T i) ((j + 1) % 3)), max (tg (T! T i) j) (tg (T! T i) ((j + 1) % 3)))
def eIn (T : List Tr) (i j : Nat) (e : Int × Int) : Prop := ∃ i' j', (i' < i ∧ j' < 3 ∨ i' = i ∧ j' < j) ∧ e = eK T i' j'
open Classical in
noncomputable def eC (T : List Tr) (i j : Nat) : Int × Int → Option Value := fun e => if eIn T i j e then some (.bool true) else none
theorem eC_zero (T : List Tr) : eC T 0 0 = fun _ => none := by
  funext e
  unfold eC
  rw [if_neg]
  rintro ⟨i', j', h, -⟩
  omega
theorem eC_next (T : List Tr) (i : Nat) : eC T i 3 = eC T (i + 1) 0 := by
  funext e
  unfold eC
  have : eIn T i 3 e ↔ eIn T (i + 1) 0 e := by
    constructor
    · rintro ⟨i', j', h, he⟩; exact ⟨i', j', by omega, he⟩
    · rintro ⟨i', j', h, he⟩; exact ⟨i', j', by omega, he⟩
  by_cases h : eIn T i 3 e
  · rw [if_pos h, if_pos (this.1 h)]
  · rw [if_neg h, if_neg fun q => h (this.2 q)]
theorem eC_succ (T : List Tr) (i j : Nat) : eC T i (j + 1) = fun e => if e = eK T i j then some (.bool true) else eC T i j e := by
  funext e
  unfold eC
  by_cases h : e = eK T i j
  · rw [if_pos h, if_pos ⟨i, j, by omega, h⟩]
  · rw [if_neg h]
    have : eIn T i (j + 1) e ↔ eIn T i j e := by
      constructor
      · rintro ⟨i', j', h', he⟩
        refine ⟨i', j', ?_, he⟩
        by_cases q : i' = i ∧ j' = j
        · rw [q.1, q.2] at he; exact absurd he h
        · omega
      · rintro ⟨i', j', h', he⟩; exact ⟨i', j', by omega, he⟩
    by_cases h2 : eIn T i j e
    · rw [if_pos h2, if_pos (this.2 h2)]
    · rw [if_neg h2, if_neg fun q => h2 (this.1 q)]
theorem vt_tri' (T : List Tr) (i j : Nat) (hj : j < 3) : vt T ((3 * i + j : Nat) : Int) = tg (T! T i) j := by
  have := vt_tri T i j hj
  rw [← this]
  congr 1
theorem eK_ukey (T : List Tr) (i j : Nat) (hj : j < 3) : eK T i j = ukey T (3 * i + (j + 2) % 3) := by
  have h1 : nxn (3 * i + (j + 2) % 3) = 3 * i + j := by unfold nxn; omega
  have h2 : pvn (3 * i + (j + 2) % 3) = 3 * i + (j + 1) % 3 := by unfold pvn; omega
  unfold eK ukey
  rw [h1, h2, vt_tri' T i j hj, vt_tri' T i ((j + 1) % 3) (by omega)]
theorem eC_all {T : List Tr} {e : Int × Int} : eC T T.length 0 e ≠ none ↔ ∃ c, c < 3 * T.length ∧ e = ukey T c := by
  unfold eC
  constructor
  · intro h
    by_cases h2 : eIn T T.length 0 e
    · obtain ⟨i, j, hij, rfl⟩ := h2
      exact ⟨3 * i + (j + 2) % 3, by omega, eK_ukey T i j (by omega)⟩
    · rw [if_neg h2] at h; exact absurd rfl h
  · rintro ⟨c, hc, rfl⟩
    have : eIn T T.length 0 (ukey T c) := ⟨c / 3, (c % 3 + 1) % 3, by omega, by rw [eK_ukey T _ _ (by omega), show 3 * (c / 3) + ((c % 3 + 1) % 3 + 2) % 3 = c by omega]⟩
    rw [if_pos this]
    simp
/-- All edges of a surface, sorted. -/
def EdgesP (T : List Tr) (w : World) (e : Ending) (w' : World) : Prop :=
  ∃ ao cap D, (D.Nodup ∧ ∀ a, a ∈ D ↔ ∃ c, c < 3 * T.length ∧ a = ukey T c) ∧ e = .returned (.slice ao D.length cap) ∧ EdgesAt w' ao (sortP D) ∧ Below w.heap.size w w'
set_option maxRecDepth 100000 in
set_option maxHeartbeats 2000000 in
theorem soupedges_any (N : Int) (ao : Option Addr) (cap : Nat) (T : List Tr) (w : World) (hs : Surf N T) (hT : TrisAt w ao T) :
    Calls Tryz.prog 36 #[.agg #[.int .i64 N, .slice ao T.length cap]] w (EdgesP T w) := by
  have h2 := hs.t1
  obtain ⟨W0, hW0⟩ : ∃ W0, W0 = w.alloc (.cells #[.int .i64 N, .slice ao T.length cap] 24) := ⟨_, rfl⟩
  obtain ⟨B, hB⟩ : ∃ B, B = w.heap.size := ⟨_, rfl⟩
  have hb0 : Below B w W0 := by rw [hW0, hB]; exact (Below.refl _ _).alloc (Nat.le_refl _) _
  have hx : RowIs W0 B 24 [.int .i64 N, .slice ao T.length cap] := by rw [hW0, hB]; exact RowIs.made w 24 [.int .i64 N, .slice ao T.length cap]
  have HF := Lib.hid (soupfits_yes N ao cap T W0 hs (hT.mono (by rw [hB]; exact Nat.le_refl _) hb0))
  have HT := Lib.hid (hT.mono (by rw [hB]; exact Nat.le_refl _) hb0)
  have HI := Lib.hid hs.i64
  have HX := Lib.hid hx
  have HB0 := Lib.hid hb0
  have HBB := Lib.hid hB
  have HS := Lib.hid hs
  have x0 := hx.cell (i := 0) rfl
  have x1 := hx.cell (i := 1) rfl
  obtain ⟨len, hlen⟩ : ∃ n, n = T.length := ⟨_, rfl⟩
  have HL := Lib.hid hlen
  rw [← hlen] at h2 x1 HF hW0 HX ⊢
  have hmm := @run_makeMap Tryz.prog
  have hmn : ∀ ats ty (a b : Int) (w : World), (Builtin.min_ ats ty #[.int .i64 a, .int .i64 b]).run Tryz.prog w = .ok (.int .i64 (min a b)) w := fun ats ty a b w => by
    simp [Builtin.min_, Builtin.min2, Int.min_def]; split <;> split <;> first | rfl | omega | (congr 2; omega)
  have hmx : ∀ ats ty (a b : Int) (w : World), (Builtin.max_ ats ty #[.int .i64 a, .int .i64 b]).run Tryz.prog w = .ok (.int .i64 (max a b)) w := fun ats ty a b w => by
    simp [Builtin.max_, Builtin.max2, Int.max_def]; split <;> split <;> first | rfl | omega | (congr 2; omega)
  clear hb0 hx hT hs hlen
  go_enter Tryz.func36, Tryz.ntmps36
  go_upto_region 1 with fail
  rw [← hW0, ← hB]
  clear hW0 hB
  go_wp2_with fail
  refine HF.out.mono ?_
  rintro e w1 ⟨rfl, hb1⟩
  have x1' := (HX.out.after hb1).cell (i := 1) rfl
  have x2' := ((HX.out.after hb1).alloc (.map #[] 0)).cell (i := 1) rfl
  have HB1 := Lib.hid hb1
  clear hb1 x0 x1
  have HM1 := Lib.hid (show MapB edgeFam (w1.alloc (.map #[] 0)) w1.heap.size 0 (eC T 0 0) from by rw [eC_zero]; exact MapB.made w1)
  have HW1 := Lib.hid (show Below w1.heap.size w1 (w1.alloc (.map #[] 0)) from (Below.refl _ _).alloc (Nat.le_refl _) _)
  obtain ⟨m, hm⟩ : ∃ m, m = w1.heap.size := ⟨_, rfl⟩
  have HMM := Lib.hid hm
  go_wp2_with fail
  simp only [← hm] at HM1 HW1 ⊢
  clear hm
  have HB2 := Lib.hid (show Below W0.heap.size W0 (w1.alloc (.map #[] 0)) from HB1.out.trans (HW1.out.mono (by rw [HMM.out]; exact HB1.out.size)))
  have HMS := Lib.hid (show m < (w1.alloc (.map #[] 0)).heap.size ∧ W0.heap.size ≤ m from ⟨by simp [HMM.out], by rw [HMM.out]; exact HB1.out.size⟩)
  clear x1' x2'
  generalize w1.alloc (.map #[] 0) = W2 at HM1 HW1 HB2 HMS ⊢
  go_loopw [16] (fun i ws => ∃ k cn : Nat, k ≤ len ∧ i = .int .i64 k ∧ MapB edgeFam ws m cn (eC T k 0) ∧ cn ≤ 3 * k ∧ Below W0.heap.size W0 ws) (fun i _ => len - (intOf i).toNat)
  case atStart => exact ⟨0, 0, by omega, rfl, HM1.out, by omega, HB2.out⟩
  case round =>
  obtain ⟨k, cn, hk, rfl, hmap, hcn, hbel⟩ := hrel
  obtain ⟨X, rfl⟩ : ∃ X : World, X = wr := ⟨_, rfl⟩
  have HMAP := Lib.hid hmap
  have HBEL := Lib.hid hbel
  have HXS := Lib.hid (show m < X.heap.size from hmap.lt)
  clear HM1 HW1 HB2
  by_cases hlt : k < len
  case neg =>
    have hke : k = len := by omega
    have d0 : decide ((k : Int) < (len : Int)) = false := by simp; omega
    have hbx : Below X.heap.size X (X.alloc (.cells #[.map (some m)] 68)) := (Below.refl _ _).alloc (Nat.le_refl _) _
    have HKM := Lib.hid (keys_mk m X)
    have HSF := Lib.hid (sorted_keys 78 ecmp_any (enters_of Tryz.func78 (by kernel_rfl) rfl) X.heap.size m cn (by omega) (eC T k 0) (X.alloc (.cells #[.map (some m)] 68)) (by simp) ((RowIs.made X 68 [.map (some m)]).cell (i := 0) rfl) (hmap.below (Nat.le_refl _) hbx))
    have HBX := Lib.hid (show Below W0.heap.size W0 (X.alloc (.cells #[.map (some m)] 68)) from hbel.trans (hbx.mono hbel.size))
    have HKE := Lib.hid hke
    clear hmap hbel hke hbx
    go_wp2_with fail
    refine HKM.out.mono ?_
    rintro e w' ⟨rfl, hw'⟩
    subst hw'
    go_wp2_with fail
    refine HSF.out.mono ?_
    rintro e w3 ⟨ao', cap', D, hD, rfl, hE3, hb3⟩
    have HP := Lib.hid (show EdgesP T w (.returned (.slice ao' D.length cap')) w3 from ⟨ao', cap', D, ⟨hD.1, fun a => by rw [hD.2, HKE.out, HL.out]; exact eC_all⟩, rfl, hE3, by
      rw [← HBB.out]; exact HB0.out.trans ((HBX.out.trans (hb3.mono HBX.out.size)).mono (by rw [HBB.out]; exact HB0.out.size))⟩)
    clear hD hE3 hb3
    go_wp2
    go_ret
    exact HP.out
  case pos =>
  have d0 : decide ((k : Int) < (len : Int)) = true := by simp; omega
  obtain ⟨b, off, x, y, z, rfl, ht, g0, g1, g2, hbs, hbs'⟩ := HT.out.get (Nat.le_refl _) hbel (i := k) (by have := HL.out; omega)
  have HX1 := Lib.hid (show Below W0.heap.size W0 (X.alloc (.cells #[.int .i64 x, .int .i64 y, .int .i64 z] 72)) from hbel.trans (((Below.refl _ _).alloc (Nat.le_refl _) _).mono hbel.size))
  have HR1 := Lib.hid (RowIs.made X 72 [.int .i64 x, .int .i64 y, .int .i64 z])
  have HMAP1 := Lib.hid (hmap.below (Nat.le_refl _) ((Below.refl _ _).alloc (Nat.le_refl _) (.cells #[.int .i64 x, .int .i64 y, .int .i64 z] 72)))
  obtain ⟨gx, hgx⟩ : ∃ gx, gx = X.heap.size := ⟨_, rfl⟩
  have HGX := Lib.hid (show m < gx from by rw [hgx]; exact hmap.lt)
  clear hmap hbel
  go_wp2_with fail
  rw [← hgx] at HR1 ⊢
  clear hgx
  go_loopw [20] (fun i ws => ∃ j cn : Nat, j ≤ 3 ∧ i = .int .i64 j ∧ MapB edgeFam ws m cn (eC T k j) ∧ cn ≤ 3 * k + j ∧ Below W0.heap.size W0 ws ∧ RowIs ws gx 72 [.int .i64 x, .int .i64 y, .int .i64 z]) (fun i _ => 3 - (intOf i).toNat)
  case atStart => exact ⟨0, cn, by omega, rfl, HMAP1.out, by omega, HX1.out, HR1.out⟩
  case round =>
  obtain ⟨j, cn', hj, rfl, hmap, hcn', hbel, hrow⟩ := hrel
  obtain ⟨Y, rfl⟩ : ∃ Y : World, Y = wr := ⟨_, rfl⟩
  have HMAP2 := Lib.hid hmap
  have HBEL2 := Lib.hid hbel
  have HROW2 := Lib.hid hrow
  clear HMAP1 HX1 HR1
  by_cases hj3 : j < 3
  case neg =>
    have hje : j = 3 := by omega
    have d1 : decide ((j : Int) < 3) = false := by simp; omega
    have HM3 := Lib.hid (show MapB edgeFam Y m cn' (eC T (k + 1) 0) from by rw [← eC_next, ← hje]; exact hmap)
    clear hmap hbel hrow hje
    go_wp2
    go_roundw
    case rel => exact ⟨k + 1, cn', by omega, by go_num, HM3.out, by omega, HBEL2.out⟩
    case measure => simp [intOf]; omega
  case pos =>
  have d1 : decide ((j : Int) < 3) = true := by simp; omega
  obtain ⟨c, hc⟩ : ∃ c, c = (j + 1) % 3 := ⟨_, rfl⟩
  have hc3 : c < 3 := by omega
  have hcm : ((j : Int) + 1) % 3 = (c : Int) := by omega
  have hget : ∀ i, i < 3 → Y.cell? ⟨gx, i, none⟩ = some (.int .i64 (tg (T! T k) i)) := fun i hi => by
    rw [ht]
    match i, hi with
    | 0, _ => exact hrow.cell (i := 0) rfl
    | 1, _ => exact hrow.cell (i := 1) rfl
    | 2, _ => exact hrow.cell (i := 2) rfl
  have xa := hget j hj3
  have xb := hget c hc3
  have ha64 := HI.out k (by have := HL.out; omega) j
  have hb64 := HI.out k (by have := HL.out; omega) c
  have hek : eK T k j = (min (tg (T! T k) j) (tg (T! T k) c), max (tg (T! T k) j) (tg (T! T k) c)) := by unfold eK; rw [← hc]
  generalize tg (T! T k) j = a at xa ha64 hek
  generalize tg (T! T k) c = e at xb hb64 hek
  have HEK := Lib.hid hek
  have HC := Lib.hid hc
  have hok : I64 (min a e) ∧ I64 (max a e) := by unfold I64 at *; omega
  have b0 : (0 : Int) ≤ (j : Int) := by omega
  have b1 : (j : Int) < 3 := by omega
  have b2 : (0 : Int) ≤ (c : Int) := by omega
  have b3 : (c : Int) < 3 := by omega
  clear hget hmap hbel hrow hek hc ha64 hb64
  go_upto_region 10 with fail
  go_quiet (fail)
  rename_i nq
  obtain ⟨Z, hZ⟩ : ∃ Z, Z = Y.drewN nq := ⟨_, rfl⟩
  have hYZ : Below Y.heap.size Y Z := by rw [hZ]; exact ⟨rfl, rfl, rfl, Nat.le_refl _, fun _ _ => rfl⟩
  obtain ⟨Z', hst, hM', hg'⟩ := (HMAP2.out.below (Nat.le_refl _) hYZ).store 68 4 (by kernel_rfl) (min a e, max a e) hok (.bool true)
  rw [← HEK.out, ← eC_succ] at hM'
  simp only [edgeFam] at hst
  have hcn2 : (if (eC T k j (eK T k j)).isSome = true then cn' else cn' + 1) ≤ 3 * k + (j + 1) := by split <;> omega
  have HN := Lib.hid (show ∃ cn2, MapB edgeFam Z' m cn2 (eC T k (j + 1)) ∧ cn2 ≤ 3 * k + (j + 1) ∧ Below W0.heap.size W0 Z' ∧ RowIs Z' gx 72 [.int .i64 x, .int .i64 y, .int .i64 z] from
    ⟨_, hM', hcn2, (HBEL2.out.trans (hYZ.mono HBEL2.out.size)).grown hg' (by have := HBEL2.out.size; have := hYZ.size; omega) (fun q hq => by cases hq; exact HMS.out.2), by
      have := (HROW2.out.after hYZ)
      exact (hg'.block _ this.lt (by intro e; cases e; exact absurd HGX.out (Nat.lt_irrefl _))).trans this⟩)
  rw [← hZ]
  clear hZ hYZ hM' hg' hcn2 xa xb
  go_wp2
  obtain ⟨cn2, n1, n2, n3, n4⟩ := HN.out
  go_roundw
  case rel => exact ⟨j + 1, cn2, by omega, by go_num, n1, n2, n3, n4⟩
  case measure => simp [intOf]; omega
end Go.Proofs.YtkjamheoihlekaaGreat

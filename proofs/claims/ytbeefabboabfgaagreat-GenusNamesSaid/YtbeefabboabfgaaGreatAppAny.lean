/- 'append(v, x...)', however many. s.T[:a], s.T[a:]. -/
import Derived.Test.YtbeefabboabfgaaGreatSurfDef
import Derived.Deep.AppendLies
import Derived.Maps.AppendAt
import Derived.ChangeKeysEq
namespace Go.Proofs.YtbeefabboabfgaaGreat
set_option linter.unusedVariables false
set_option linter.unusedSimpArgs false
open Go.RowKit
theorem wp_append_any {P : Program} {w : World} {o : Oper} {a : Act} {K : Act → World → Prop} {Q : Exit → Act → World → Prop} (s x : Operand) (t : TypeId)
    (ho : o.op = .call { callee := .builtin .append, args := #[s, x], argTypes := #[t, t] })
    (base : Nat) (e : TypeId) (i : TypeInfo) (z : Value) (size bytes : Nat) (ht : P.underlying t = some (.slice e)) (hi : P.info? e = some i) (hz : i.zero = some z)
    (hsize : i.size = size) (hby : i.bytes = bytes) (hzs : z.cells.size = size) (hsz : 0 < size)
    (v : Value) (n : Nat) (xs : List Value) (hs : a.eval s = v) (hown : w.ownsRow base e size v n xs)
    (ad : Addr) (m c : Nat) (news : List Value) (hx : a.eval x = .slice (some ad) m c) (hl : news.length = m * size) (hnews : ∀ j u, news[j]? = some u → w.cell? (ad.add j) = some u) (h1 : ∀ u ∈ news, u.oneCell' = true)
    (h63 : n + m ≤ maxLen) (hbytes : (n + m) * bytes ≤ 140737488355328) (hbase : base ≤ w.heap.size)
    (h : ∀ ao cap w', w'.ownsRow base e size (.slice ao (n + m) cap) (n + m) (xs ++ news) → (∀ B w0, B ≤ base → Below B w0 w → Below B w0 w') → w.grownBy w' v.ownBlock → K (a.put o.dst (.slice ao (n + m) cap)) w') : o.wp P a w K Q := by
  obtain ⟨v', w', hr, h2, h3, _, _⟩ := run_append_own_at (P := P) w base t o.type e i z size bytes ht hi hz hsize hby hzs hsz v n xs hown ad m c news hl hnews h1 h63 hbytes hbase
  obtain ⟨ao, cap, rfl⟩ := owns_slice h2
  unfold Oper.wp execOp
  simp only [ho, resolve, invoke, builtin, Sem.run_bind, Sem.run_pure, Result.andThen_ok, List.map_toArray, List.map_cons, List.map_nil, hs, hx, hr]
  exact h ao cap w' h2 (fun B w0 hB hb => hb.grown h3 (by omega) (fun k hk => by have := (hown.lt k hk).1; omega)) h3
theorem step_append_any {P : Program} {w : World} {ops : Array Oper} {o : Oper} {a : Act} {K : Act → World → Prop} {Q : Exit → Act → World → Prop} {E : Prop} (hgd : o.guard = none) (s x : Operand) (t : TypeId)
    (ho : o.op = .call { callee := .builtin .append, args := #[s, x], argTypes := #[t, t] })
    (base : Nat) (e : TypeId) (i : TypeInfo) (z : Value) (size bytes : Nat) (ht : P.underlying t = some (.slice e)) (hi : P.info? e = some i) (hz : i.zero = some z)
    (hsize : i.size = size) (hby : i.bytes = bytes) (hzs : z.cells.size = size) (hsz : 0 < size)
    (v : Value) (n : Nat) (xs : List Value) (hs : a.eval s = v) (hown : w.ownsRow base e size v n xs)
    (ad : Addr) (m c : Nat) (news : List Value) (hx : a.eval x = .slice (some ad) m c) (hl : news.length = m * size) (hnews : ∀ j u, news[j]? = some u → w.cell? (ad.add j) = some u) (h1 : ∀ u ∈ news, u.oneCell' = true)
    (h63 : n + m ≤ maxLen) (hbytes : (n + m) * bytes ≤ 140737488355328) (hbase : base ≤ w.heap.size)
    (h : ∀ ao cap w', w'.ownsRow base e size (.slice ao (n + m) cap) (n + m) (xs ++ news) → (∀ B w0, B ≤ base → Below B w0 w → Below B w0 w') → w.grownBy w' v.ownBlock → K (a.put o.dst (.slice ao (n + m) cap)) w') :
    if Region.wanted o (yielded ops a.tmps) = true then Oper.wp P o a w K Q else E := by
  have hw : Region.wanted o (yielded ops a.tmps) = true := by simp [Region.wanted, hgd]
  rw [if_pos hw]
  exact wp_append_any s x t ho base e i z size bytes ht hi hz hsize hby hzs hsz v n xs hs hown ad m c news hx hl hnews h1 h63 hbytes hbase h
/-- The first append to an empty literal. -/
theorem step_append_first {P : Program} {w : World} {ops : Array Oper} {o : Oper} {a : Act} {K : Act → World → Prop} {Q : Exit → Act → World → Prop} {E : Prop} (hgd : o.guard = none) (s x : Operand) (t : TypeId)
    (ho : o.op = .call { callee := .builtin .append, args := #[s, x], argTypes := #[t, t] })
    (base : Nat) (e : TypeId) (i : TypeInfo) (z : Value) (size bytes : Nat) (ht : P.underlying t = some (.slice e)) (hi : P.info? e = some i) (hz : i.zero = some z)
    (hsize : i.size = size) (hby : i.bytes = bytes) (hzs : z.cells.size = size) (hsz : 0 < size)
    (v : Value) (hs : a.eval s = v) (hown : w.ownsRow base e size v 0 [])
    (ad : Addr) (m c : Nat) (news : List Value) (hx : a.eval x = .slice (some ad) m c) (hl : news.length = m * size) (hnews : ∀ j u, news[j]? = some u → w.cell? (ad.add j) = some u) (h1 : ∀ u ∈ news, u.oneCell' = true)
    (h63 : m ≤ maxLen) (hbytes : m * bytes ≤ 140737488355328) (hbase : base ≤ w.heap.size)
    (h : ∀ ao cap w', w'.ownsRow base e size (.slice ao m cap) m news → (∀ B w0, B ≤ base → Below B w0 w → Below B w0 w') → w.grownBy w' v.ownBlock → K (a.put o.dst (.slice ao m cap)) w') :
    if Region.wanted o (yielded ops a.tmps) = true then Oper.wp P o a w K Q else E :=
  step_append_any hgd s x t ho base e i z size bytes ht hi hz hsize hby hzs hsz v 0 [] hs hown ad m c news hx hl hnews h1 (by rw [Nat.zero_add]; exact h63) (by rw [Nat.zero_add]; exact hbytes) hbase (fun ao cap w' h2 h3 h4 => by
    rw [Nat.zero_add, List.nil_append] at h2
    rw [Nat.zero_add]
    exact h ao cap w' h2 h3 h4)
theorem box_kept {w w' : World} {base g : Nat} {e e' : TypeId} {sz n : Nat} {v : Value} {xs ys : List Value} (hg : w.grownBy w' v.ownBlock) (hown : w.ownsRow base e sz v n xs) (k : RowIs w g e' ys) (hne : e ≠ e') : RowIs w' g e' ys := k.grown hg (by
  intro e2
  rcases hown.2 with ⟨q, -⟩ | ⟨g1, cap1, cur1, rfl, -, hg1, -⟩
  · rw [q] at e2; cases e2
  simp only [Value.ownBlock, Option.some.injEq] at e2
  subst e2
  unfold RowIs at k
  rw [k] at hg1
  simp only [Option.some.injEq, Obj.cells.injEq] at hg1
  exact hne hg1.2.1.symm)
theorem tcells_append (A B : List Tr) : tcells (A ++ B) = tcells A ++ tcells B := by simp [tcells]
theorem below_alloc {w X : World} (h : Below w.heap.size w X) (o : Obj) : Below w.heap.size w (X.alloc o) := h.alloc h.size o
theorem below_drew {B : Nat} {w X : World} (h : Below B w X) : Below B w X.drew := h.trans ⟨rfl, rfl, rfl, Nat.le_refl _, fun _ _ => rfl⟩
theorem take_cells {T : List Tr} {a j : Nat} {u : Value} (h : (tcells (T.take a))[j]? = some u) : (tcells T)[j]? = some u := by
  have e : tcells T = tcells (T.take a) ++ tcells (T.drop a) := by rw [← tcells_append, List.take_append_drop]
  rw [e, List.getElem?_append_left (List.getElem?_eq_some_iff.1 h).1]
  exact h
theorem drop_cells {T : List Tr} {a j : Nat} {u : Value} (h : (tcells (T.drop a))[j]? = some u) (ha : a ≤ T.length) : (tcells T)[a * 3 + j]? = some u := by
  have e : tcells T = tcells (T.take a) ++ tcells (T.drop a) := by rw [← tcells_append, List.take_append_drop]
  have hl : (tcells (T.take a)).length = a * 3 := by rw [tcells_length, List.length_take]; congr 1; omega
  rw [e, List.getElem?_append_right (by omega), hl]
  rw [show a * 3 + j - a * 3 = j by omega]
  exact h
theorem infoTriH : (Tryz.prog.info? 62).map (fun i => (i.zero, i.size, i.bytes)) = some (some (.agg #[.int .i64 0, .int .i64 0, .int .i64 0]), 3, 24) := by kernel_rfl
theorem slice_hi (b off len cap h : Nat) (hh : h ≤ cap) (w : World) : (Instr.slice 22 (.slice (some ⟨b, off, none⟩) len cap) none (some (.int .i64 (h : Int))) none).run Tryz.prog w = .ok (.slice (some ⟨b, off, none⟩) h cap) w := by
  have hu : Tryz.prog.underlying 22 = some (.slice 62) := by kernel_rfl
  obtain ⟨i0, hi, -, hz1, -⟩ := info_parts infoTriH
  unfold Instr.slice Instr.sliceBounds Instr.sliceBound
  simp only [Sem.run_bind, run_underlying hu, Result.andThen_ok, run_sizeOf w hi, Sem.run_pure]
  simp [go_sem, hh, hz1]
theorem slice_lo (b off len cap l : Nat) (hl : l ≤ len) (w : World) : (Instr.slice 22 (.slice (some ⟨b, off, none⟩) len cap) (some (.int .i64 (l : Int))) none none).run Tryz.prog w = .ok (.slice (some (if cap = l then ⟨b, off, none⟩ else ⟨b, off + l * 3, none⟩)) (len - l) (cap - l)) w := by
  have hu : Tryz.prog.underlying 22 = some (.slice 62) := by kernel_rfl
  obtain ⟨i0, hi, -, hz1, -⟩ := info_parts infoTriH
  unfold Instr.slice Instr.sliceBounds Instr.sliceBound
  simp only [Sem.run_bind, run_underlying hu, Result.andThen_ok, run_sizeOf w hi, Sem.run_pure]
  by_cases e : cap = l <;> simp [go_sem, hl, hz1, e]
theorem sliceAt_hi (b off len cap h : Nat) (hh : h ≤ cap) (w : World) : (Instr.sliceAt 22 (.slice (some ⟨b, off, none⟩) len cap) none (some (.int .i64 (h : Int))) none).run Tryz.prog w = .ok (.slice (some ⟨b, off, none⟩) h cap) w := by
  have hu : Tryz.prog.underlying 22 = some (.slice 62) := by kernel_rfl
  unfold Instr.sliceAt
  simp only [Sem.run_bind, run_underlying hu, Result.andThen_ok]
  exact slice_hi b off len cap h hh w
theorem sliceAt_lo (b off len cap l : Nat) (hl : l ≤ len) (w : World) : (Instr.sliceAt 22 (.slice (some ⟨b, off, none⟩) len cap) (some (.int .i64 (l : Int))) none none).run Tryz.prog w = .ok (.slice (some (if cap = l then ⟨b, off, none⟩ else ⟨b, off + l * 3, none⟩)) (len - l) (cap - l)) w := by
  have hu : Tryz.prog.underlying 22 = some (.slice 62) := by kernel_rfl
  unfold Instr.sliceAt
  simp only [Sem.run_bind, run_underlying hu, Result.andThen_ok]
  exact slice_lo b off len cap l hl w
end Go.Proofs.YtbeefabboabfgaaGreat

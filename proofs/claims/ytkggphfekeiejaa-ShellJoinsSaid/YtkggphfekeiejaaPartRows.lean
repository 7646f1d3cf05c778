/- Rows of parts that a call owns; appends of parts. -/
import Derived.Test.YtkggphfekeiejaaJoinRows
import Derived.Deep.AppendLies
namespace Go.Proofs.Ytkggphfekeiejaa
set_option linter.unusedVariables false
set_option linter.unusedSimpArgs false
open Go.RowKit
theorem info40' : (Try.prog.info? 40).map (fun i => (i.zero, i.size, i.bytes)) = some (some (.agg #[.int .i64 0, .slice none 0 0, .slice none 0 0, .slice none 0 0]), 4, 80) := by kernel_rfl
/-- Parts of an owned row. -/
theorem partsAt_row {w : World} {base m : Nat} {v : Value} {f : Nat → Nat → Value} {P : Nat → PartV} {t : TypeId} (hr : w.ownsRow base t 4 v m (pc f m)) (h : ∀ k, k < m → PartVal w (f k) (P k)) : ∃ a c, v = .slice a m c ∧ PartsAt w a P m := by
  by_cases h0 : 0 < m
  · obtain ⟨g, cap, rfl, hb, hlt, hc, hm, hcell, hfr⟩ := owns_block hr h0
    refine ⟨_, _, rfl, fun _ => ⟨g, rfl, hlt, fun k hk => ?_⟩⟩
    obtain ⟨aoS, cS, aoV, cV, aoT, cT, e0, e1, e2, e3, h1, h2, h3⟩ := h k hk
    exact ⟨aoS, cS, aoV, cV, aoT, cT, by rw [← e0]; exact hcell _ _ (pc_get f hk (c := 0) (by omega)), by rw [← e1]; exact hcell _ _ (pc_get f hk (c := 1) (by omega)), by rw [← e2]; exact hcell _ _ (pc_get f hk (c := 2) (by omega)),
      by rw [← e3]; exact hcell _ _ (pc_get f hk (c := 3) (by omega)), h1, h2, h3⟩
  · obtain ⟨ao, cap, rfl⟩ := owns_slice hr
    exact ⟨ao, cap, rfl, fun h => absurd h h0⟩
theorem pc_news {w : World} {b m : Nat} {F : Nat → Nat → Value} (h : ∀ k, k < m → (w.cell? ⟨b, k * 4, none⟩ = some (F k 0) ∧ w.cell? ⟨b, k * 4 + 1, none⟩ = some (F k 1) ∧ w.cell? ⟨b, k * 4 + 2, none⟩ = some (F k 2) ∧ w.cell? ⟨b, k * 4 + 3, none⟩ = some (F k 3))) :
    ∀ j u, (pc F m)[j]? = some u → w.cell? ((⟨b, 0, none⟩ : Addr).add j) = some u := by
  intro j u hu
  have hj : j < m * 4 := by have := (List.getElem?_eq_some_iff.1 hu).1; rwa [pc_length] at this
  have hk : j / 4 < m := by omega
  obtain ⟨h0, h1, h2, h3⟩ := h (j / 4) hk
  have he := pc_get F hk (c := j % 4) (by omega)
  rw [show j / 4 * 4 + j % 4 = j by omega] at he
  rw [he] at hu
  cases hu
  simp only [Addr.add_lit, Nat.zero_add]
  have hc : j % 4 = 0 ∨ j % 4 = 1 ∨ j % 4 = 2 ∨ j % 4 = 3 := by omega
  rcases hc with e | e | e | e
  · rw [e]; have q : j / 4 * 4 = j := by omega
    rw [q] at h0; exact h0
  · rw [e]; have q : j / 4 * 4 + 1 = j := by omega
    rw [q] at h1; exact h1
  · rw [e]; have q : j / 4 * 4 + 2 = j := by omega
    rw [q] at h2; exact h2
  · rw [e]; have q : j / 4 * 4 + 3 = j := by omega
    rw [q] at h3; exact h3
theorem pc_one {w : World} {F : Nat → Nat → Value} {P : Nat → PartV} {m : Nat} (h : ∀ k, k < m → PartVal w (F k) (P k)) : ∀ u ∈ pc F m, u.oneCell' = true := by
  intro u hu
  simp only [pc, List.mem_map, List.mem_range] at hu
  obtain ⟨j, hj, rfl⟩ := hu
  obtain ⟨aoS, cS, aoV, cV, aoT, cT, e0, e1, e2, e3, -⟩ := h (j / 4) (by omega)
  have hc : j % 4 = 0 ∨ j % 4 = 1 ∨ j % 4 = 2 ∨ j % 4 = 3 := by omega
  rcases hc with e | e | e | e
  · rw [e, e0]; rfl
  · rw [e, e1]; rfl
  · rw [e, e2]; rfl
  · rw [e, e3]; rfl
theorem below_alloc {w X : World} (h : Below w.heap.size w X) (o : Obj) : Below w.heap.size w (X.alloc o) := h.alloc h.size o
theorem below_drew {w X : World} (h : Below w.heap.size w X) : Below w.heap.size w X.drew := h.drew
section
variable {W X : World} {b m p0 c : Nat} {F : Nat → Nat → Value} {P : Nat → PartV}
theorem own_empty (h0 : RowIs X p0 40 []) (hp0 : W.heap.size ≤ p0) : X.ownsRow W.heap.size 40 4 (.slice (some ⟨p0, 0, none⟩) 0 0) 0 [] := h0.owns hp0 rfl (by decide)
theorem news_in (hX : Below W.heap.size W X) (hcells : ∀ k, k < m → (W.cell? ⟨b, k * 4, none⟩ = some (F k 0) ∧ W.cell? ⟨b, k * 4 + 1, none⟩ = some (F k 1) ∧ W.cell? ⟨b, k * 4 + 2, none⟩ = some (F k 2) ∧ W.cell? ⟨b, k * 4 + 3, none⟩ = some (F k 3))) (hb : b < W.heap.size) :
    ∀ j u, (pc F m)[j]? = some u → X.cell? ((⟨b, 0, none⟩ : Addr).add j) = some u := by
  refine pc_news fun k hk => ?_
  obtain ⟨h0, h1, h2, h3⟩ := hcells k hk
  exact ⟨(hX.cell (p := ⟨b, _, none⟩) hb).trans h0, (hX.cell (p := ⟨b, _, none⟩) hb).trans h1, (hX.cell (p := ⟨b, _, none⟩) hb).trans h2, (hX.cell (p := ⟨b, _, none⟩) hb).trans h3⟩
/-- 'append([]Part{}, l...)', at a step of a region that draws. -/
theorem step_all {ops : Array Oper} {o : Oper} {a : Act} {K : Act → World → Prop} {Q : Exit → Act → World → Prop} {E : Prop} (hgd : o.guard = none) (s x : Operand)
    (ho : o.op = .call { callee := .builtin .append, args := #[s, x], argTypes := #[29, 29] }) (hX : Below W.heap.size W X) (hs : a.eval s = .slice (some ⟨p0, 0, none⟩) 0 0) (h0 : RowIs X p0 40 []) (hp0 : W.heap.size ≤ p0)
    (hx : a.eval x = .slice (some ⟨b, 0, none⟩) m c)
    (hcells : ∀ k, k < m → (W.cell? ⟨b, k * 4, none⟩ = some (F k 0) ∧ W.cell? ⟨b, k * 4 + 1, none⟩ = some (F k 1) ∧ W.cell? ⟨b, k * 4 + 2, none⟩ = some (F k 2) ∧ W.cell? ⟨b, k * 4 + 3, none⟩ = some (F k 3))) (hb : b < W.heap.size) (hval : ∀ k, k < m → PartVal W (F k) (P k)) (h0m : 0 < m) (hm : m ≤ 100)
    (hk : ∀ g cap w1, w1.ownsRow W.heap.size 40 4 (.slice (some ⟨g, 0, none⟩) m cap) m (pc F m) → Below W.heap.size W w1 → (∀ q t zs, q ≠ p0 → RowIs X q t zs → RowIs w1 q t zs) → K (a.put o.dst (.slice (some ⟨g, 0, none⟩) m cap)) w1) :
    if Region.wanted o (yielded ops a.tmps) = true then Oper.wp Try.prog o a X K Q else E := by
  obtain ⟨i0, hi, hz0, hz1, hz2⟩ := info_parts info40'
  refine step_append_lies X hgd s x 29 ho W.heap.size 40 i0 _ 4 80 (by kernel_rfl) hi hz0 hz1 hz2 rfl (by decide) _ 0 [] hs (own_empty h0 hp0) ⟨b, 0, none⟩ m c (pc F m) hx (pc_length _ _) (news_in hX hcells hb) (pc_one hval) h0m (by unfold maxLen; omega) (by omega) hX.size _ rfl ?_
  intro g cap w1 hown hgrow hat _
  rw [Nat.zero_add, List.nil_append] at hown
  rw [Nat.zero_add]
  refine hk g cap w1 hown (hX.grown hgrow hX.size fun q hq => by cases hq; exact hp0) fun q t zs hq hr => hr.grown hgrow fun e => hq (by cases e; rfl)
/-- 'append(parts, p)', at a step of a region that draws. -/
theorem step_part {ops : Array Oper} {o : Oper} {a : Act} {K : Act → World → Prop} {Q : Exit → Act → World → Prop} {E : Prop} {v r0 r1 r2 r3 : Value} {n p : Nat} {xs : List Value} (hgd : o.guard = none) (s x : Operand)
    (ho : o.op = .call { callee := .builtin .append, args := #[s, x], argTypes := #[29, 29] }) (hX : Below W.heap.size W X) (hs : a.eval s = v) (hown0 : X.ownsRow W.heap.size 40 4 v n xs)
    (hx : a.eval x = .slice (some ⟨p, 0, none⟩) 1 1) (hp : RowIs X p 40 [r0, r1, r2, r3]) (h1 : ∀ u ∈ [r0, r1, r2, r3], u.oneCell' = true) (hn : n ≤ 100)
    (hk : ∀ g cap w1, w1.ownsRow W.heap.size 40 4 (.slice (some ⟨g, 0, none⟩) (n + 1) cap) (n + 1) (xs ++ [r0, r1, r2, r3]) → Below W.heap.size W w1 → K (a.put o.dst (.slice (some ⟨g, 0, none⟩) (n + 1) cap)) w1) :
    if Region.wanted o (yielded ops a.tmps) = true then Oper.wp Try.prog o a X K Q else E := by
  obtain ⟨i0, hi, hz0, hz1, hz2⟩ := info_parts info40'
  refine step_append_lies X hgd s x 29 ho W.heap.size 40 i0 _ 4 80 (by kernel_rfl) hi hz0 hz1 hz2 rfl (by decide) v n xs hs hown0 ⟨p, 0, none⟩ 1 1 [r0, r1, r2, r3] hx rfl (World.news_of_block hp) h1 (by omega) (by unfold maxLen; omega) (by omega) hX.size _ rfl ?_
  intro g cap w1 hown hgrow hat _
  exact hk g cap w1 hown (hX.grown hgrow hX.size fun q hq => (hown0.lt q hq).1)
/-- The same in a plain region. -/
theorem wpList_all {ops : Array Oper} {rest : List Oper} {o : Oper} {a : Act} {Q : Exit → Act → World → Prop} (hgd : o.guard = none) (s x : Operand)
    (ho : o.op = .call { callee := .builtin .append, args := #[s, x], argTypes := #[29, 29] }) (hX : Below W.heap.size W X) (hs : a.eval s = .slice (some ⟨p0, 0, none⟩) 0 0) (h0 : RowIs X p0 40 []) (hp0 : W.heap.size ≤ p0)
    (hx : a.eval x = .slice (some ⟨b, 0, none⟩) m c)
    (hcells : ∀ k, k < m → (W.cell? ⟨b, k * 4, none⟩ = some (F k 0) ∧ W.cell? ⟨b, k * 4 + 1, none⟩ = some (F k 1) ∧ W.cell? ⟨b, k * 4 + 2, none⟩ = some (F k 2) ∧ W.cell? ⟨b, k * 4 + 3, none⟩ = some (F k 3))) (hb : b < W.heap.size) (hval : ∀ k, k < m → PartVal W (F k) (P k)) (h0m : 0 < m) (hm : m ≤ 100)
    (hk : ∀ g cap w1, w1.ownsRow W.heap.size 40 4 (.slice (some ⟨g, 0, none⟩) m cap) m (pc F m) → Below W.heap.size W w1 → wpList Try.prog ops Q rest (a.put o.dst (.slice (some ⟨g, 0, none⟩) m cap)) w1) :
    wpList Try.prog ops Q (o :: rest) a X := by
  obtain ⟨i0, hi, hz0, hz1, hz2⟩ := info_parts info40'
  refine wpList_append_lies X hgd s x 29 ho W.heap.size 40 i0 _ 4 80 (by kernel_rfl) hi hz0 hz1 hz2 rfl (by decide) _ 0 [] hs (own_empty h0 hp0) ⟨b, 0, none⟩ m c (pc F m) hx (pc_length _ _) (news_in hX hcells hb) (pc_one hval) h0m (by unfold maxLen; omega) (by omega) hX.size _ rfl ?_
  intro g cap w1 hown hgrow hat _
  rw [Nat.zero_add, List.nil_append] at hown
  rw [Nat.zero_add]
  exact hk g cap w1 hown (hX.grown hgrow hX.size fun q hq => by cases hq; exact hp0)
end
end Go.Proofs.Ytkggphfekeiejaa

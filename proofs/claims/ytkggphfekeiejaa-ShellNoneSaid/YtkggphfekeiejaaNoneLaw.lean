/- gypsumlaw13.ShellNone: the walk. -/
import Derived.Test.YtkggphfekeiejaaBack
import Derived.Test.YtkggphfekeiejaaNilTab
import Derived.Test.YtkggphfekeiejaaSub
import Derived.Deep.AppendLies
namespace Go.Proofs.Ytkggphfekeiejaa
set_option linter.unusedVariables false
set_option linter.unusedSimpArgs false
open Go.RowKit
theorem info40' : (Try.prog.info? 40).map (fun i => (i.zero, i.size, i.bytes)) = some (some (.agg #[.int .i64 0, .slice none 0 0, .slice none 0 0, .slice none 0 0]), 4, 80) := by kernel_rfl
/-- Parts of an owned row. -/
theorem partsAt_row {w : World} {base m : Nat} {v : Value} {f : Nat → Nat → Value} {P : Nat → PartV} {t : TypeId} (hr : w.ownsRow base t 4 v m (pc f m)) (h : ∀ k, k < m → PartVal w (f k) (P k)) : ∃ a c, v = .slice a m c ∧ PartsAt w a P m := by
  by_cases h0 : 0 < m
  · obtain ⟨g, cap, rfl, hb, hlt, hc, hm, hcell, hfr⟩ := owns_block hr h0
    refine ⟨_, _, rfl, fun _ => ⟨g, rfl, hlt, fun k hk => ?_⟩⟩
    obtain ⟨aoS, cS, aoV, cV, aoT, cT, e0, e1, e2, e3, h1, h2, h3⟩ := h k hk
    exact ⟨aoS, cS, aoV, cV, aoT, cT, by rw [← e0]; exact hcell _ _ (pc_get f hk (c := 0) (by omega)), by rw [← e1]; exact hcell _ _ (pc_get f hk (c := 1) (by omega)), by rw [← e2]; exact hcell _ _ (pc_get f hk (c := 2) (by omega)),
      by rw [← e3]; exact hcell _ _ (pc_get f hk (c := 3) (by omega)), h1, h2, h3⟩
  · obtain ⟨ao, cap, rfl⟩ := owns_slice hr
    exact ⟨ao, cap, rfl, fun h => absurd h h0⟩
theorem pc_news {w : World} {b m : Nat} {F : Nat → Nat → Value} (h : ∀ k, k < m → (w.cell? ⟨b, k * 4, none⟩ = some (F k 0) ∧ w.cell? ⟨b, k * 4 + 1, none⟩ = some (F k 1) ∧ w.cell? ⟨b, k * 4 + 2, none⟩ = some (F k 2) ∧ w.cell? ⟨b, k * 4 + 3, none⟩ = some (F k 3))) :
    ∀ j u, (pc F m)[j]? = some u → w.cell? ((⟨b, 0, none⟩ : Addr).add j) = some u := by
  intro j u hu
  have hj : j < m * 4 := by have := (List.getElem?_eq_some_iff.1 hu).1; rwa [pc_length] at this
  have hk : j / 4 < m := by omega
  obtain ⟨h0, h1, h2, h3⟩ := h (j / 4) hk
  have he := pc_get F hk (c := j % 4) (by omega)
  rw [show j / 4 * 4 + j % 4 = j by omega] at he
  rw [he] at hu
  cases hu
  simp only [Addr.add_lit, Nat.zero_add]
  have hc : j % 4 = 0 ∨ j % 4 = 1 ∨ j % 4 = 2 ∨ j % 4 = 3 := by omega
  rcases hc with e | e | e | e
  · rw [e]; have q : j / 4 * 4 = j := by omega
    rw [q] at h0; exact h0
  · rw [e]; have q : j / 4 * 4 + 1 = j := by omega
    rw [q] at h1; exact h1
  · rw [e]; have q : j / 4 * 4 + 2 = j := by omega
    rw [q] at h2; exact h2
  · rw [e]; have q : j / 4 * 4 + 3 = j := by omega
    rw [q] at h3; exact h3
theorem pc_one {w : World} {F : Nat → Nat → Value} {P : Nat → PartV} {m : Nat} (h : ∀ k, k < m → PartVal w (F k) (P k)) : ∀ u ∈ pc F m, u.oneCell' = true := by
  intro u hu
  simp only [pc, List.mem_map, List.mem_range] at hu
  obtain ⟨j, hj, rfl⟩ := hu
  obtain ⟨aoS, cS, aoV, cV, aoT, cT, e0, e1, e2, e3, -⟩ := h (j / 4) (by omega)
  have hc : j % 4 = 0 ∨ j % 4 = 1 ∨ j % 4 = 2 ∨ j % 4 = 3 := by omega
  rcases hc with e | e | e | e
  · rw [e, e0]; rfl
  · rw [e, e1]; rfl
  · rw [e, e2]; rfl
  · rw [e, e3]; rfl
/-- One more part, the first once more. -/
theorem pc_again (F : Nat → Nat → Value) (m : Nat) : pc F m ++ [F 0 0, F 0 1, F 0 2, F 0 3] = pc (fun k => if k < m then F k else F 0) (m + 1) := by
  apply List.ext_getElem?
  intro i
  by_cases h : i < m * 4
  · rw [List.getElem?_append_left (by rw [pc_length]; exact h)]
    have h1 : i / 4 < m := by omega
    simp [pc, h, show i < (m + 1) * 4 by omega, h1]
  · rw [List.getElem?_append_right (by rw [pc_length]; omega), pc_length]
    by_cases h2 : i < (m + 1) * 4
    · have h1 : i / 4 = m := by omega
      have hc : i - m * 4 = i % 4 := by omega
      have h3 : i % 4 < 4 := by omega
      rw [hc]
      simp only [pc, List.getElem?_map, List.getElem?_range h2, Option.map_some, h1, Nat.lt_irrefl, if_false]
      match e : i % 4, h3 with
      | 0, _ => rfl
      | 1, _ => rfl
      | 2, _ => rfl
      | 3, _ => rfl
    · rw [List.getElem?_eq_none (by simp; omega), List.getElem?_eq_none (by rw [pc_length]; omega)]
theorem gather_congr {X Y : Nat → List Int} : ∀ {m : Nat}, (∀ k, k < m → X k = Y k) → gather X m = gather Y m := by
  intro m
  induction m with
  | zero => exact fun _ => rfl
  | succ m ih =>
    intro h
    rw [gather_succ, gather_succ, ih fun k hk => h k (by omega), h m (by omega)]
/-- With the first part once more they aren't joined. -/
theorem join_twice {N : Int} {T : List Tr} {L : Nat → Int} {m : Nat} (hs : Surf N T) (hL : IsShells (Adj T) T.length L) (hm : (m : Int) = cnt L T.length) (h0 : 0 < m) :
    jcode (fun k => if k < m then partOf T L T.length k else partOf T L T.length 0) (m + 1) = 9 := by
  obtain ⟨P, hP⟩ : ∃ P, P = partOf T L T.length := ⟨_, rfl⟩
  have hj := (join_back hs hL hm).1
  rw [← hP] at hj ⊢
  have hra : RightAll P m := by
    by_cases h : RightAll P m
    · exact h
    · rw [jcode_1 h] at hj; cases hj
  have hia : InAll P m := by
    by_cases h : InAll P m
    · exact h
    · rw [jcode_2 hra h] at hj; cases hj
  have gT : allT (fun k => if k < m then P k else P 0) (m + 1) = allT P m ++ (P 0).T := by
    unfold allT
    rw [gather_succ]
    show gather _ m ++ (if m < m then P m else P 0).T = _
    rw [if_neg (Nat.lt_irrefl m)]
    congr 1
    exact gather_congr fun k hk => by simp only [hk, if_true]
  have gV : allV (fun k => if k < m then P k else P 0) (m + 1) = allV P m ++ (P 0).V := by
    unfold allV
    rw [gather_succ]
    show gather _ m ++ (if m < m then P m else P 0).V = _
    rw [if_neg (Nat.lt_irrefl m)]
    congr 1
    exact gather_congr fun k hk => by simp only [hk, if_true]
  have sT : ∀ x, x ∈ (P 0).T → x ∈ allT P m := fun x hx => gather_mem.2 ⟨0, h0, hx⟩
  have sV : ∀ x, x ∈ (P 0).V → x ∈ allV P m := fun x hx => gather_mem.2 ⟨0, h0, hx⟩
  refine jcode_9 (fun k hk => ?_) ⟨fun x hx => ?_, fun x hx => ?_⟩ fun ho => ?_
  · by_cases h : k < m
    · simp only [h, if_true]; exact hra k h
    · simp only [h, if_false]; exact hra 0 h0
  · have hx' : x ∈ allT P m ++ (P 0).T := by rw [← gT]; exact hx
    rw [gT, List.length_append]
    have hxx : x ∈ allT P m := by
      rcases List.mem_append.1 hx' with h | h
      · exact h
      · exact sT x h
    have := hia.1 x hxx
    omega
  · have hx' : x ∈ allV P m ++ (P 0).V := by rw [← gV]; exact hx
    rw [gV, List.length_append]
    have hxx : x ∈ allV P m := by
      rcases List.mem_append.1 hx' with h | h
      · exact h
      · exact sV x h
    have := hia.2 x hxx
    omega
  · have h1 := ho.1
    rw [gT, List.nodup_append] at h1
    obtain ⟨i, hi, e⟩ := has_shell hL hm h0
    have hmem : (i : Int) ∈ (P 0).T := by
      rw [hP]
      simp only [partOf, List.mem_map]
      exact ⟨i, mem_ofShell.2 ⟨hi, e⟩, rfl⟩
    exact h1.2.2 _ (sT _ hmem) _ hmem rfl
/-- With a number less they aren't joined. -/
theorem join_short {P : Nat → PartV} {m : Nat} (h0 : 0 < m) (hr : (P 0).S.length = (P 0).T.length) (hp : 0 < (P 0).T.length) (Q : Nat → PartV) (hS : (Q 0).S = (P 0).S) (hT : (Q 0).T.length + 1 = (P 0).T.length) : jcode Q m = 1 := by
  refine jcode_1 fun h => ?_
  have := (h 0 h0).1
  rw [hS] at this
  omega
theorem join_none (P : Nat → PartV) : jcode P 0 = 0 ∧ ∀ N T, JRes P 0 N T → N = 0 ∧ T = [] := by
  constructor
  · refine jcode_0 (fun k h => by omega) ⟨fun x hx => ?_, fun x hx => ?_⟩ ⟨?_, ?_⟩
    · simp [gather] at hx
    · simp [gather] at hx
    · simp [allT, gather]
    · simp [allV, gather]
  · rintro N T ⟨rfl, rfl⟩
    simp [allT, allV, gather]
/-- The whole block of an owned row. -/
theorem owns_whole {w : World} {base : Nat} {e : TypeId} {size : Nat} {n g cap : Nat} {xs : List Value} (h : w.ownsRow base e size (.slice (some ⟨g, 0, none⟩) n cap) n xs) (hn : 0 < n) : ∃ ys : List Value, RowIs w g e ys ∧ ∀ (i : Nat) (u : Value), xs[i]? = some u → ys[i]? = some u := by
  obtain ⟨h1, h2⟩ := h
  rcases h2 with ⟨_, h2⟩ | ⟨g', cap', cur, hv, hg, hh, hc, hm, hs, ht⟩
  · omega
  · simp only [Value.slice.injEq, Option.some.injEq, Addr.mk.injEq, and_true, true_and] at hv
    obtain ⟨rfl, rfl⟩ := hv
    refine ⟨cur.toList, by unfold RowIs; rw [hh], fun i u hu => ?_⟩
    rw [← ht, List.getElem?_take] at hu
    split at hu
    · exact hu
    · cases hu
/-- Less its first number: some numbers, one less. -/
theorem ints_cut {w : World} {b o c : Nat} {xs : List Int} (h : IntsAt w (some ⟨b, o, none⟩) xs) (hx : 0 < xs.length) : ∃ ys, ys.length + 1 = xs.length ∧ IntsAt w (if c = 1 then some ⟨b, o, none⟩ else some ⟨b, o + 1, none⟩) ys := by
  by_cases e : c = 1
  · refine ⟨xs.take (xs.length - 1), by simp; omega, fun hne => ?_⟩
    rw [if_pos e]
    obtain ⟨b', o', e', hlt, hc⟩ := h (List.ne_nil_of_length_pos hx)
    refine ⟨b', o', e', hlt, fun i hi => ?_⟩
    have hi' : i < xs.length - 1 := by simpa using hi
    have : I! (xs.take (xs.length - 1)) i = I! xs i := by simp [I!, List.getD_eq_getElem?_getD, List.getElem?_take, hi', show i < xs.length by omega]
    rw [this]
    exact hc i (by omega)
  · refine ⟨xs.tail, by simp; omega, fun hne => ?_⟩
    rw [if_neg e]
    obtain ⟨b', o', e', hlt, hc⟩ := h (List.ne_nil_of_length_pos hx)
    cases e'
    refine ⟨b, o + 1, rfl, hlt, fun i hi => ?_⟩
    have hi' : i + 1 < xs.length := by simp at hi; omega
    have : I! xs.tail i = I! xs (i + 1) := by simp [I!, List.getD_eq_getElem?_getD]
    rw [this, show o + 1 + i = o + (i + 1) by omega]
    exact hc (i + 1) hi'
theorem below_alloc {w X : World} (h : Below w.heap.size w X) (o : Obj) : Below w.heap.size w (X.alloc o) := h.alloc h.size o
theorem below_drew {w X : World} (h : Below w.heap.size w X) : Below w.heap.size w X.drew := h.drew
section
variable {W X : World} {b m p0 c : Nat} {F : Nat → Nat → Value} {P : Nat → PartV}
theorem own_empty (h0 : RowIs X p0 40 []) (hp0 : W.heap.size ≤ p0) : X.ownsRow W.heap.size 40 4 (.slice (some ⟨p0, 0, none⟩) 0 0) 0 [] := h0.owns hp0 rfl (by decide)
theorem news_in (hX : Below W.heap.size W X) (hcells : ∀ k, k < m → (W.cell? ⟨b, k * 4, none⟩ = some (F k 0) ∧ W.cell? ⟨b, k * 4 + 1, none⟩ = some (F k 1) ∧ W.cell? ⟨b, k * 4 + 2, none⟩ = some (F k 2) ∧ W.cell? ⟨b, k * 4 + 3, none⟩ = some (F k 3))) (hb : b < W.heap.size) :
    ∀ j u, (pc F m)[j]? = some u → X.cell? ((⟨b, 0, none⟩ : Addr).add j) = some u := by
  refine pc_news fun k hk => ?_
  obtain ⟨h0, h1, h2, h3⟩ := hcells k hk
  exact ⟨(hX.cell (p := ⟨b, _, none⟩) hb).trans h0, (hX.cell (p := ⟨b, _, none⟩) hb).trans h1, (hX.cell (p := ⟨b, _, none⟩) hb).trans h2, (hX.cell (p := ⟨b, _, none⟩) hb).trans h3⟩
/-- 'append([]Part{}, l...)', at a step of a region that draws. -/
theorem step_all {ops : Array Oper} {o : Oper} {a : Act} {K : Act → World → Prop} {Q : Exit → Act → World → Prop} {E : Prop} (hgd : o.guard = none) (s x : Operand)
    (ho : o.op = .call { callee := .builtin .append, args := #[s, x], argTypes := #[29, 29] }) (hX : Below W.heap.size W X) (hs : a.eval s = .slice (some ⟨p0, 0, none⟩) 0 0) (h0 : RowIs X p0 40 []) (hp0 : W.heap.size ≤ p0)
    (hx : a.eval x = .slice (some ⟨b, 0, none⟩) m c)
    (hcells : ∀ k, k < m → (W.cell? ⟨b, k * 4, none⟩ = some (F k 0) ∧ W.cell? ⟨b, k * 4 + 1, none⟩ = some (F k 1) ∧ W.cell? ⟨b, k * 4 + 2, none⟩ = some (F k 2) ∧ W.cell? ⟨b, k * 4 + 3, none⟩ = some (F k 3))) (hb : b < W.heap.size) (hval : ∀ k, k < m → PartVal W (F k) (P k)) (h0m : 0 < m) (hm : m ≤ 100)
    (hk : ∀ g cap w1, w1.ownsRow W.heap.size 40 4 (.slice (some ⟨g, 0, none⟩) m cap) m (pc F m) → Below W.heap.size W w1 → (∀ q t zs, q ≠ p0 → RowIs X q t zs → RowIs w1 q t zs) → K (a.put o.dst (.slice (some ⟨g, 0, none⟩) m cap)) w1) :
    if Region.wanted o (yielded ops a.tmps) = true then Oper.wp Try.prog o a X K Q else E := by
  obtain ⟨i0, hi, hz0, hz1, hz2⟩ := info_parts info40'
  refine step_append_lies X hgd s x 29 ho W.heap.size 40 i0 _ 4 80 (by kernel_rfl) hi hz0 hz1 hz2 rfl (by decide) _ 0 [] hs (own_empty h0 hp0) ⟨b, 0, none⟩ m c (pc F m) hx (pc_length _ _) (news_in hX hcells hb) (pc_one hval) h0m (by unfold maxLen; omega) (by omega) hX.size _ rfl ?_
  intro g cap w1 hown hgrow hat _
  rw [Nat.zero_add, List.nil_append] at hown
  rw [Nat.zero_add]
  refine hk g cap w1 hown (hX.grown hgrow hX.size fun q hq => by cases hq; exact hp0) fun q t zs hq hr => hr.grown hgrow fun e => hq (by cases e; rfl)
/-- 'append(parts, p)', at a step of a region that draws. -/
theorem step_part {ops : Array Oper} {o : Oper} {a : Act} {K : Act → World → Prop} {Q : Exit → Act → World → Prop} {E : Prop} {v r0 r1 r2 r3 : Value} {n p : Nat} {xs : List Value} (hgd : o.guard = none) (s x : Operand)
    (ho : o.op = .call { callee := .builtin .append, args := #[s, x], argTypes := #[29, 29] }) (hX : Below W.heap.size W X) (hs : a.eval s = v) (hown0 : X.ownsRow W.heap.size 40 4 v n xs)
    (hx : a.eval x = .slice (some ⟨p, 0, none⟩) 1 1) (hp : RowIs X p 40 [r0, r1, r2, r3]) (h1 : ∀ u ∈ [r0, r1, r2, r3], u.oneCell' = true) (hn : n ≤ 100)
    (hk : ∀ g cap w1, w1.ownsRow W.heap.size 40 4 (.slice (some ⟨g, 0, none⟩) (n + 1) cap) (n + 1) (xs ++ [r0, r1, r2, r3]) → Below W.heap.size W w1 → K (a.put o.dst (.slice (some ⟨g, 0, none⟩) (n + 1) cap)) w1) :
    if Region.wanted o (yielded ops a.tmps) = true then Oper.wp Try.prog o a X K Q else E := by
  obtain ⟨i0, hi, hz0, hz1, hz2⟩ := info_parts info40'
  refine step_append_lies X hgd s x 29 ho W.heap.size 40 i0 _ 4 80 (by kernel_rfl) hi hz0 hz1 hz2 rfl (by decide) v n xs hs hown0 ⟨p, 0, none⟩ 1 1 [r0, r1, r2, r3] hx rfl (World.news_of_block hp) h1 (by omega) (by unfold maxLen; omega) (by omega) hX.size _ rfl ?_
  intro g cap w1 hown hgrow hat _
  exact hk g cap w1 hown (hX.grown hgrow hX.size fun q hq => (hown0.lt q hq).1)
/-- The same in a plain region. -/
theorem wpList_all {ops : Array Oper} {rest : List Oper} {o : Oper} {a : Act} {Q : Exit → Act → World → Prop} (hgd : o.guard = none) (s x : Operand)
    (ho : o.op = .call { callee := .builtin .append, args := #[s, x], argTypes := #[29, 29] }) (hX : Below W.heap.size W X) (hs : a.eval s = .slice (some ⟨p0, 0, none⟩) 0 0) (h0 : RowIs X p0 40 []) (hp0 : W.heap.size ≤ p0)
    (hx : a.eval x = .slice (some ⟨b, 0, none⟩) m c)
    (hcells : ∀ k, k < m → (W.cell? ⟨b, k * 4, none⟩ = some (F k 0) ∧ W.cell? ⟨b, k * 4 + 1, none⟩ = some (F k 1) ∧ W.cell? ⟨b, k * 4 + 2, none⟩ = some (F k 2) ∧ W.cell? ⟨b, k * 4 + 3, none⟩ = some (F k 3))) (hb : b < W.heap.size) (hval : ∀ k, k < m → PartVal W (F k) (P k)) (h0m : 0 < m) (hm : m ≤ 100)
    (hk : ∀ g cap w1, w1.ownsRow W.heap.size 40 4 (.slice (some ⟨g, 0, none⟩) m cap) m (pc F m) → Below W.heap.size W w1 → wpList Try.prog ops Q rest (a.put o.dst (.slice (some ⟨g, 0, none⟩) m cap)) w1) :
    wpList Try.prog ops Q (o :: rest) a X := by
  obtain ⟨i0, hi, hz0, hz1, hz2⟩ := info_parts info40'
  refine wpList_append_lies X hgd s x 29 ho W.heap.size 40 i0 _ 4 80 (by kernel_rfl) hi hz0 hz1 hz2 rfl (by decide) _ 0 [] hs (own_empty h0 hp0) ⟨b, 0, none⟩ m c (pc F m) hx (pc_length _ _) (news_in hX hcells hb) (pc_one hval) h0m (by unfold maxLen; omega) (by omega) hX.size _ rfl ?_
  intro g cap w1 hown hgrow hat _
  rw [Nat.zero_add, List.nil_append] at hown
  rw [Nat.zero_add]
  exact hk g cap w1 hown (hX.grown hgrow hX.size fun q hq => by cases hq; exact hp0)
end
end Go.Proofs.Ytkggphfekeiejaa

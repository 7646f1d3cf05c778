/- Plain laws: labels by least members: a search that takes from a stack. -/
import Derived.Test.YtkjamheoihlekaaGreatShells
namespace Go.Proofs.YtkjamheoihlekaaGreat
set_option linter.unusedVariables false
set_option linter.unusedSimpArgs false
/-- L is of each of 0 .. n - 1 the least that is connected with it. -/
structure IsLeast (A : Nat → Nat → Prop) (n : Nat) (L : Nat → Int) : Prop where
  nonneg : ∀ i, i < n → 0 ≤ L i
  le : ∀ i, i < n → L i ≤ i
  clo : ∀ i j, i < n → j < n → A i j → L j = L i
  con : ∀ i, i < n → Conn A (L i).toNat i
/-- At the head of the outer loop: f have been looked at. -/
structure LInv (A : Nat → Nat → Prop) (n f : Nat) (L : Nat → Int) : Prop where
  rng : ∀ i, i < n → L i = -1 ∨ 0 ≤ L i ∧ L i < f
  low : ∀ i, i < f → i < n → 0 ≤ L i
  clo : ∀ i j, i < n → j < n → A i j → 0 ≤ L i → L j = L i
  le : ∀ i, i < n → L i ≤ i
  con : ∀ i, i < n → 0 ≤ L i → Conn A (L i).toNat i
theorem LInv.start (A : Nat → Nat → Prop) (n : Nat) : LInv A n 0 (fun _ => -1) where
  rng _ _ := .inl rfl
  low _ h _ := by omega
  clo _ _ _ _ _ h := by omega
  le _ _ := by omega
  con _ _ h := by omega
theorem LInv.skip {A : Nat → Nat → Prop} {n f : Nat} {L : Nat → Int} (h : LInv A n f L) (hf : 0 ≤ L f) : LInv A n (f + 1) L where
  rng i hi := by rcases h.rng i hi with e | e <;> omega
  low i hi hn := by
    by_cases e : i = f
    · subst e; exact hf
    · exact h.low i (by omega) hn
  clo := h.clo
  le := h.le
  con := h.con
theorem LInv.done {A : Nat → Nat → Prop} {n : Nat} {L : Nat → Int} (h : LInv A n n L) : IsLeast A n L where
  nonneg i hi := h.low i hi hi
  le := h.le
  clo i j hi hj a := h.clo i j hi hj a (h.low i hi hi)
  con i hi := h.con i hi (h.low i hi hi)
/-- In the middle of the search from f: what is labelled and no more on the stack S has all its neighbours labelled. -/
structure DInv (A : Nat → Nat → Prop) (n f : Nat) (L0 L : Nat → Int) (S : List Nat) : Prop where
  old : ∀ j, j < n → 0 ≤ L0 j → L j = L0 j
  new : ∀ j, j < n → L0 j < 0 → L j = f ∨ L j = -1
  con : ∀ j, j < n → L0 j < 0 → L j = f → Conn A f j
  fin : L f = f
  sub : ∀ x, x ∈ S → x < n ∧ L0 x < 0 ∧ L x = f
  done : ∀ x, x < n → L0 x < 0 → L x = f → x ∉ S → ∀ j, j < n → A x j → 0 ≤ L j
def nNeg (L : Nat → Int) (n : Nat) : Nat := (List.range n).countP fun i => decide (L i < 0)
theorem nNeg_succ (L : Nat → Int) (n : Nat) : nNeg L (n + 1) = nNeg L n + if L n < 0 then 1 else 0 := by
  simp [nNeg, List.range_succ, List.countP_append, List.countP_cons]
theorem nNeg_le (L : Nat → Int) (n : Nat) : nNeg L n ≤ n := by
  have := List.countP_le_length (p := fun i : Nat => decide (L i < 0)) (l := List.range n)
  simpa [nNeg] using this
theorem nNeg_upd {L : Nat → Int} {n x : Nat} {v : Int} (hx : x < n) (hL : L x < 0) (hv : 0 ≤ v) : nNeg (upd L x v) n + 1 = nNeg L n := by
  induction n with
  | zero => omega
  | succ n ih =>
    rw [nNeg_succ, nNeg_succ]
    by_cases q : x = n
    · subst q
      have : nNeg (upd L x v) x = nNeg L x := by
        unfold nNeg
        refine List.countP_congr fun y hy => ?_
        have := List.mem_range.1 hy
        unfold upd
        rw [if_neg (by omega)]
      rw [this, if_pos hL]
      have : ¬ upd L x v x < 0 := by simp [upd]; exact hv
      rw [if_neg this]
    · have := ih (by omega)
      have e : upd L x v n = L n := by unfold upd; rw [if_neg (fun h => q h.symm)]
      rw [e]
      omega
theorem DInv.start {A : Nat → Nat → Prop} {n f : Nat} {L : Nat → Int} (h : LInv A n f L) (hn : f < n) (hf : ¬ 0 ≤ L f) : DInv A n f L (upd L f f) [f] where
  old j hj h0 := by
    have : j ≠ f := fun e => hf (e ▸ h0)
    simp [upd, this]
  new j hj h0 := by
    by_cases e : j = f
    · subst e; exact .inl (by simp [upd])
    · refine .inr ?_
      rcases h.rng j hj with h1 | h1
      · simp [upd, e, h1]
      · omega
  con j hj h0 h1 := by
    by_cases e : j = f
    · subst e; exact .refl _
    · rcases h.rng j hj with h2 | h2
      · simp [upd, e, h2] at h1
      · omega
  fin := by simp [upd]
  sub x hx := by
    simp at hx; subst hx
    exact ⟨hn, by omega, by simp [upd]⟩
  done x hx h0 h1 hS := by
    have hxf : x ≠ f := fun e => hS (by simp [e])
    rcases h.rng x hx with h2 | h2
    · simp [upd, hxf, h2] at h1
    · omega
/-- x is taken off; its neighbours in J have been looked at: M is what they have become, more stand on the stack. -/
structure EInvS (A : Nat → Nat → Prop) (n f : Nat) (L0 L : Nat → Int) (S : List Nat) (x : Nat) : Prop where
  old : ∀ j, j < n → 0 ≤ L0 j → L j = L0 j
  new : ∀ j, j < n → L0 j < 0 → L j = f ∨ L j = -1
  con : ∀ j, j < n → L0 j < 0 → L j = f → Conn A f j
  fin : L f = f
  sub : ∀ y, y ∈ S → y < n ∧ L0 y < 0 ∧ L y = f
  xin : x < n ∧ L0 x < 0 ∧ L x = f
  done : ∀ y, y < n → L0 y < 0 → L y = f → y ∉ S → y ≠ x → ∀ j, j < n → A y j → 0 ≤ L j
theorem DInv.pop {A : Nat → Nat → Prop} {n f : Nat} {L0 L : Nat → Int} {S : List Nat} {x : Nat} (h : DInv A n f L0 L (S ++ [x])) : EInvS A n f L0 L S x :=
  ⟨h.old, h.new, h.con, h.fin, fun y hy => h.sub y (by simp [hy]), h.sub x (by simp), fun y hy h0 h1 hS hne => h.done y hy h0 h1 (by simp [hS, hne])⟩
theorem EInvS.push {A : Nat → Nat → Prop} {n f : Nat} {L0 L : Nat → Int} {S : List Nat} {x : Nat} (h : EInvS A n f L0 L S x) {y : Nat} (hy : y < n) (ha : A x y) (hL : L y < 0) : EInvS A n f L0 (upd L y f) (S ++ [y]) x := by
  have hy0 : L0 y < 0 := by
    by_cases h0 : 0 ≤ L0 y
    · rw [h.old y hy h0] at hL; omega
    · omega
  have keep : ∀ j, j ≠ y → upd L y f j = L j := fun j e => by simp [upd, e]
  have at_y : upd L y f y = f := by simp [upd]
  refine ⟨fun j hj h0 => ?_, fun j hj h0 => ?_, fun j hj h0 h1 => ?_, ?_, fun z hz => ?_, ?_, fun z hz h0 h1 hS hne j hj haj => ?_⟩
  · rw [keep j (fun e => by subst e; omega)]; exact h.old j hj h0
  · by_cases e : j = y
    · subst e; exact .inl at_y
    · rw [keep j e]; exact h.new j hj h0
  · by_cases e : j = y
    · subst e; exact (h.con x h.xin.1 h.xin.2.1 h.xin.2.2).step ha
    · rw [keep j e] at h1; exact h.con j hj h0 h1
  · have : f ≠ y := fun e => by have := h.fin; rw [e] at this; omega
    rw [keep f this]; exact h.fin
  · simp only [List.mem_append, List.mem_singleton] at hz
    rcases hz with hz | rfl
    · obtain ⟨a, b, c⟩ := h.sub z hz
      refine ⟨a, b, ?_⟩
      by_cases e : z = y
      · subst e; exact at_y
      · rw [keep z e]; exact c
    · exact ⟨hy, hy0, at_y⟩
  · have : x ≠ y := fun e => by have := h.xin.2.2; rw [e] at this; omega
    rw [keep x this]; exact h.xin
  · have hzy : z ≠ y := fun e => hS (by simp [e])
    rw [keep z hzy] at h1
    have := h.done z hz h0 h1 (fun hh => hS (by simp [hh])) hne j hj haj
    by_cases e : j = y
    · subst e; rw [at_y]; omega
    · rw [keep j e]; exact this
theorem EInvS.seen {A : Nat → Nat → Prop} {n f : Nat} {L0 L : Nat → Int} {S : List Nat} {x : Nat} (h : EInvS A n f L0 L S x) (hall : ∀ j, j < n → A x j → 0 ≤ L j) : DInv A n f L0 L S :=
  ⟨h.old, h.new, h.con, h.fin, h.sub, fun y hy h0 h1 hS j hj ha => by
    by_cases e : y = x
    · subst e; exact hall j hj ha
    · exact h.done y hy h0 h1 hS e j hj ha⟩
theorem DInv.stop {A : Nat → Nat → Prop} {n f : Nat} {L0 L : Nat → Int} (h : DInv A n f L0 L []) (h0 : LInv A n f L0) (hf : f < n) (hfn : L0 f < 0) (hsym : ∀ i j, i < n → j < n → A i j → A j i) : LInv A n (f + 1) L := by
  have inW : ∀ j, j < n → L0 j < 0 → 0 ≤ L j → L j = f := fun j hj a b => by
    rcases h.new j hj a with e | e <;> omega
  refine ⟨fun i hi => ?_, fun i hi hn => ?_, fun i j hi hj ha hL => ?_, fun i hi => ?_, fun i hi hL => ?_⟩
  · by_cases a : 0 ≤ L0 i
    · rw [h.old i hi a]
      rcases h0.rng i hi with e | e <;> omega
    · rcases h.new i hi (by omega) with e | e <;> omega
  · by_cases e : i = f
    · subst e; rw [h.fin]; omega
    · have := h0.low i (by omega) hn
      rw [h.old i hn this]; exact this
  · by_cases a : 0 ≤ L0 i
    · have e := h0.clo i j hi hj ha a
      rw [h.old i hi a, h.old j hj (by omega), e]
    · have ie := inW i hi (by omega) hL
      have hj0 := h.done i hi (by omega) ie (by simp) j hj ha
      by_cases b : 0 ≤ L0 j
      · have e := h0.clo j i hj hi (hsym i j hi hj ha) b
        omega
      · rw [inW j hj (by omega) hj0, ie]
  · by_cases a : 0 ≤ L0 i
    · rw [h.old i hi a]; exact h0.le i hi
    · rcases h.new i hi (by omega) with e | e
      · have : ¬ i < f := fun q => a (h0.low i q hi)
        omega
      · omega
  · by_cases a : 0 ≤ L0 i
    · rw [h.old i hi a]; exact h0.con i hi a
    · have ie := inW i hi (by omega) hL
      rw [ie]
      simpa using h.con i hi (by omega) ie
theorem IsLeast.iff {A : Nat → Nat → Prop} {n : Nat} {L : Nat → Int} (h : IsLeast A n L) (hA : ∀ i j, A i j → i < n ∧ j < n) {i j : Nat} (hi : i < n) (hj : j < n) : L i = L j ↔ Conn A i j := by
  have key : ∀ {i j}, Conn A i j → i < n → j < n ∧ L i = L j := fun {i j} c hi => by
    induction c with
    | refl => exact ⟨hi, rfl⟩
    | step _ s ih => exact ⟨(hA _ _ s).2, by rw [ih.2, h.clo _ _ ih.1 (hA _ _ s).2 s]⟩
    | back _ s ih => exact ⟨(hA _ _ s).1, by rw [ih.2, h.clo _ _ (hA _ _ s).1 ih.1 s]⟩
  refine ⟨fun e => ?_, fun c => (key c hi).2⟩
  have a := h.con i hi
  have b := h.con j hj
  rw [← e] at b
  exact a.symm.trans b
/-- The label is a member, and labels itself. -/
theorem IsLeast.top {A : Nat → Nat → Prop} {n : Nat} {L : Nat → Int} (h : IsLeast A n L) (hA : ∀ i j, A i j → i < n ∧ j < n) {i : Nat} (hi : i < n) : (L i).toNat < n ∧ L (L i).toNat = L i := by
  have h1 := h.nonneg i hi
  have h2 := h.le i hi
  have hl : (L i).toNat < n := by omega
  exact ⟨hl, (h.iff hA hl hi).2 (h.con i hi)⟩
theorem IsLeast.unique {A : Nat → Nat → Prop} {n : Nat} {L M : Nat → Int} (h : IsLeast A n L) (g : IsLeast A n M) (hA : ∀ i j, A i j → i < n ∧ j < n) : ∀ i, i < n → L i = M i := fun i hi => by
  have a := h.top hA hi
  have b := g.top hA hi
  have h1 := h.nonneg i hi
  have g1 := g.nonneg i hi
  -- the one's label lies in the part: the other one's is not greater
  have x : M i ≤ L i := by
    have e : M (L i).toNat = M i := (g.iff hA a.1 hi).2 (h.con i hi)
    have := g.le _ a.1
    omega
  have y : L i ≤ M i := by
    have e : L (M i).toNat = L i := (h.iff hA b.1 hi).2 (g.con i hi)
    have := h.le _ b.1
    omega
  omega
end Go.Proofs.YtkjamheoihlekaaGreat

/- Plain law: marks spread over edges, sweep by sweep, until they stand still. Plain law: leaves are taken away one by one; what is left over counts the handles. Plain law: a graph that hangs together has few paths, if it has few edges more than vertices. -/
import Derived.Test.YtkjamheoihlekaaGreatPruneLaw
import Derived.Test.YtkjamheoihlekaaGreatPathLaw
namespace Go.Proofs.YtkjamheoihlekaaGreat
set_option linter.unusedVariables false
set_option linter.unusedSimpArgs false
def markE (S : Int → Bool) (e : Int × Int) : Int → Bool := if S e.1 || S e.2 then fun v => decide (v = e.1) || decide (v = e.2) || S v else S
def sweepE (X : List (Int × Int)) (S : Int → Bool) : Int → Bool := X.foldl markE S
def sweepsE (X : List (Int × Int)) (S : Int → Bool) : Nat → (Int → Bool)
  | 0 => S
  | n + 1 => sweepE X (sweepsE X S n)
theorem mark_mono {S : Int → Bool} {e : Int × Int} {v : Int} (h : S v = true) : markE S e v = true := by
  unfold markE
  split
  · simp [h]
  · exact h
theorem mark_both {S : Int → Bool} {e : Int × Int} (h : S e.1 = true ∨ S e.2 = true) : markE S e e.1 = true ∧ markE S e e.2 = true := by
  unfold markE
  rw [if_pos (by simpa using h)]
  simp
theorem sweep_mono : ∀ (X : List (Int × Int)) {S : Int → Bool} {v : Int}, S v = true → sweepE X S v = true
  | [], _, _, h => h
  | e :: X, S, v, h => sweep_mono X (S := markE S e) (mark_mono h)
theorem sweep_both : ∀ (X : List (Int × Int)) {S : Int → Bool} {e : Int × Int}, e ∈ X → (S e.1 = true ∨ S e.2 = true) → sweepE X S e.1 = true ∧ sweepE X S e.2 = true
  | x :: X, S, e, he, h => by
    rcases List.mem_cons.1 he with rfl | he
    · exact ⟨sweep_mono X (mark_both h).1, sweep_mono X (mark_both h).2⟩
    · exact sweep_both X (S := markE S x) he (h.imp mark_mono mark_mono)
def ClosedE (X : List (Int × Int)) (S : Int → Bool) : Prop := ∀ e, e ∈ X → S e.1 = S e.2
def cntE (X : List (Int × Int)) (S : Int → Bool) : Nat := X.countP fun e => S e.1 && S e.2
theorem cnt_mono {X : List (Int × Int)} {S S' : Int → Bool} (h : ∀ v, S v = true → S' v = true) : cntE X S ≤ cntE X S' := by
  unfold cntE
  refine List.countP_mono_left fun e _ he => ?_
  simp only [Bool.and_eq_true] at he ⊢
  exact ⟨h _ he.1, h _ he.2⟩
theorem cnt_strict {X : List (Int × Int)} {S S' : Int → Bool} (h : ∀ v, S v = true → S' v = true) {e : Int × Int} (he : e ∈ X) (h1 : ¬ (S e.1 = true ∧ S e.2 = true)) (h2 : S' e.1 = true ∧ S' e.2 = true) : cntE X S < cntE X S' := by
  induction X with
  | nil => cases he
  | cons x X ih =>
    unfold cntE
    rw [List.countP_cons, List.countP_cons]
    rcases List.mem_cons.1 he with rfl | he
    · have := cnt_mono (X := X) h
      unfold cntE at this
      have e1 : (S e.1 && S e.2) = false := by
        cases a : S e.1 <;> cases b : S e.2 <;> simp_all
      rw [if_neg (by simp [e1]), if_pos (by simp [h2.1, h2.2])]
      omega
    · have := ih he
      unfold cntE at this
      by_cases hx : (S x.1 && S x.2) = true
      · have hx' : (S' x.1 && S' x.2) = true := by
          simp only [Bool.and_eq_true] at hx ⊢
          exact ⟨h _ hx.1, h _ hx.2⟩
        rw [if_pos hx, if_pos hx']
        omega
      · rw [if_neg hx]
        omega
theorem sweep_step (X : List (Int × Int)) (S : Int → Bool) : ClosedE X S ∨ cntE X S < cntE X (sweepE X S) := by
  by_cases h : ClosedE X S
  · exact .inl h
  · right
    have : ∃ e, e ∈ X ∧ S e.1 ≠ S e.2 := by
      apply Classical.byContradiction
      intro hn
      exact h fun e he => Classical.byContradiction fun hne => hn ⟨e, he, hne⟩
    obtain ⟨e, he, hne⟩ := this
    refine cnt_strict (fun v => sweep_mono X) he (fun q => hne (q.1.trans q.2.symm)) (sweep_both X he ?_)
    cases a : S e.1 <;> cases b : S e.2 <;> simp_all
theorem mark_closed {X : List (Int × Int)} {S : Int → Bool} (h : ClosedE X S) {e : Int × Int} (he : e ∈ X) : markE S e = S := by
  unfold markE
  split
  · rename_i hh
    funext v
    have := h e he
    rw [this] at hh
    simp at hh
    by_cases h1 : v = e.1
    · subst h1; simp [this, hh]
    · by_cases h2 : v = e.2
      · subst h2; simp [hh]
      · simp [h1, h2]
  · rfl
theorem sweep_closed {X : List (Int × Int)} {S : Int → Bool} (h : ClosedE X S) : sweepE X S = S := by
  have : ∀ Y : List (Int × Int), (∀ e, e ∈ Y → e ∈ X) → Y.foldl markE S = S := by
    intro Y
    induction Y with
    | nil => intro _; rfl
    | cons y Y ih =>
      intro hs
      rw [List.foldl_cons, mark_closed h (hs y (by simp))]
      exact ih fun e he => hs e (by simp [he])
  exact this X fun _ h => h
/-- As many sweeps as there are edges are enough. -/
theorem sweeps_closed (X : List (Int × Int)) (S : Int → Bool) : ClosedE X (sweepsE X S X.length) := by
  have key : ∀ n, ClosedE X (sweepsE X S n) ∨ n ≤ cntE X (sweepsE X S n) := by
    intro n
    induction n with
    | zero => exact .inr (Nat.zero_le _)
    | succ n ih =>
      show ClosedE X (sweepE X (sweepsE X S n)) ∨ n + 1 ≤ cntE X (sweepE X (sweepsE X S n))
      rcases ih with h | h
      · rw [sweep_closed h]; exact .inl h
      · rcases sweep_step X (sweepsE X S n) with h' | h'
        · rw [sweep_closed h']; exact .inl h'
        · right; omega
  rcases key X.length with h | h
  · exact h
  · intro e he
    have h1 : cntE X (sweepsE X S X.length) = X.length := Nat.le_antisymm List.countP_le_length h
    have h2 := List.countP_eq_length.1 h1 e he
    simp only [Bool.and_eq_true] at h2
    rw [h2.1, h2.2]
/-- Marks come of marks. -/
theorem sweep_in (P : Int → Prop) (X : List (Int × Int)) (hX : ∀ e, e ∈ X → (P e.1 ↔ P e.2)) : ∀ (n : Nat) {S : Int → Bool}, (∀ v, S v = true → P v) → ∀ v, sweepsE X S n v = true → P v := by
  have one : ∀ (Y : List (Int × Int)) {S : Int → Bool}, (∀ e, e ∈ Y → (P e.1 ↔ P e.2)) → (∀ v, S v = true → P v) → ∀ v, sweepE Y S v = true → P v := by
    intro Y
    induction Y with
    | nil => intro S _ h v hv; exact h v hv
    | cons y Y ih =>
      intro S hY h v hv
      refine ih (S := markE S y) (fun e he => hY e (by simp [he])) (fun u hu => ?_) v hv
      have hy := hY y (by simp)
      unfold markE at hu
      split at hu
      · rename_i hh
        have hb : P y.1 ∧ P y.2 := by
          simp only [Bool.or_eq_true] at hh
          rcases hh with hh | hh
          · exact ⟨h _ hh, hy.1 (h _ hh)⟩
          · exact ⟨hy.2 (h _ hh), h _ hh⟩
        simp only [Bool.or_eq_true, decide_eq_true_eq] at hu
        rcases hu with (rfl | rfl) | hu
        · exact hb.1
        · exact hb.2
        · exact h _ hu
      · exact h _ hu
  intro n
  induction n with
  | zero => intro S h v hv; exact h v hv
  | succ n ih => intro S h v hv; exact one X hX (ih h) v hv
theorem sweeps_mono (X : List (Int × Int)) {S : Int → Bool} {v : Int} (h : S v = true) : ∀ n, sweepsE X S n v = true
  | 0 => h
  | n + 1 => sweep_mono X (sweeps_mono X h n)
/-- Connected by edges of a list. -/
inductive LConn (X : List (Int × Int)) : Int → Int → Prop
  | refl (u : Int) : LConn X u u
  | step {u v w : Int} : LConn X u v → ((v, w) ∈ X ∨ (w, v) ∈ X) → LConn X u w
theorem LConn.trans {X : List (Int × Int)} {u v w : Int} (h : LConn X u v) (k : LConn X v w) : LConn X u w := by
  induction k with
  | refl => exact h
  | step _ e ih => exact ih.step e
theorem LConn.symm {X : List (Int × Int)} {u v : Int} (h : LConn X u v) : LConn X v u := by
  induction h with
  | refl => exact .refl _
  | step _ e ih => exact (LConn.step (.refl _) e.symm).trans ih
/-- What is marked in the end: all that hangs together with the start. -/
theorem sweeps_conn (X : List (Int × Int)) (s : Int) (v : Int) : sweepsE X (fun u => decide (u = s)) X.length v = true ↔ LConn X s v := by
  constructor
  · refine sweep_in (fun v => LConn X s v) X (fun e he => ⟨fun h => h.step (.inl he), fun h => h.step (.inr he)⟩) _ (fun u hu => ?_) v
    simp at hu
    subst hu
    exact .refl _
  · intro h
    have hc := sweeps_closed X (fun u => decide (u = s))
    induction h with
    | refl => exact sweeps_mono X (by simp) _
    | step _ e ih =>
      rcases e with e | e
      · rw [← hc _ e]; exact ih
      · rw [hc _ e]; exact ih
def dedupI : List Int → List Int
  | [] => []
  | a :: l => if a ∈ dedupI l then dedupI l else a :: dedupI l
theorem dedupI_mem {v : Int} : ∀ {l : List Int}, v ∈ dedupI l ↔ v ∈ l
  | [] => Iff.rfl
  | a :: l => by
    unfold dedupI
    split
    · rename_i h
      rw [dedupI_mem, List.mem_cons]
      constructor
      · exact .inr
      · rintro (rfl | h')
        · exact dedupI_mem.1 h
        · exact h'
    · rw [List.mem_cons, List.mem_cons, dedupI_mem]
theorem dedupI_nodup : ∀ l : List Int, (dedupI l).Nodup
  | [] => List.nodup_nil
  | a :: l => by
    unfold dedupI
    split
    · exact dedupI_nodup l
    · rename_i h
      exact List.nodup_cons.2 ⟨h, dedupI_nodup l⟩
/-- The vertices of edges. -/
def vertsE (X : List (Int × Int)) : List Int := dedupI (X.flatMap fun e => [e.1, e.2])
theorem vertsE_mem {X : List (Int × Int)} {v : Int} : v ∈ vertsE X ↔ ∃ e, e ∈ X ∧ (v = e.1 ∨ v = e.2) := by
  unfold vertsE
  rw [dedupI_mem, List.mem_flatMap]
  simp
theorem vertsE_nodup (X : List (Int × Int)) : (vertsE X).Nodup := dedupI_nodup _
theorem degE_pos {X : List (Int × Int)} {v : Int} : 0 < degE X v ↔ v ∈ vertsE X := by
  rw [vertsE_mem]
  unfold degE
  constructor
  · intro h
    by_cases h1 : 0 < X.countP fun e => decide (e.1 = v)
    · obtain ⟨e, he, hv⟩ := List.countP_pos_iff.1 h1
      exact ⟨e, he, .inl (of_decide_eq_true hv).symm⟩
    · obtain ⟨e, he, hv⟩ := List.countP_pos_iff.1 (show 0 < X.countP fun e => decide (e.2 = v) by omega)
      exact ⟨e, he, .inr (of_decide_eq_true hv).symm⟩
  · rintro ⟨e, he, rfl | rfl⟩
    · have : 0 < X.countP fun x => decide (x.1 = e.1) := List.countP_pos_iff.2 ⟨e, he, by simp⟩
      omega
    · have : 0 < X.countP fun x => decide (x.2 = e.2) := List.countP_pos_iff.2 ⟨e, he, by simp⟩
      omega
/-- All that is joined hangs together. -/
def ConnE (X : List (Int × Int)) : Prop := ∀ u v, u ∈ vertsE X → v ∈ vertsE X → LConn X u v
theorem RightE.erase {X : List (Int × Int)} (h : RightE X) (e : Int × Int) : RightE (X.erase e) := ⟨fun x hx => h.lt x (List.mem_of_mem_erase hx), h.nd.erase e⟩
theorem degE_erase {X : List (Int × Int)} {e : Int × Int} (he : e ∈ X) (v : Int) : degE X v = degE (X.erase e) v + ((if e.1 = v then 1 else 0) + (if e.2 = v then 1 else 0)) := by
  have hp := List.perm_cons_erase he
  rw [degE_perm hp]
  unfold degE
  rw [List.countP_cons, List.countP_cons]
  by_cases h1 : e.1 = v <;> by_cases h2 : e.2 = v <;> simp [h1, h2] <;> omega
/-- A leaf is taken away. -/
theorem leaf_conn {X : List (Int × Int)} (h : RightE X) (hc : ConnE X) {e : Int × Int} (he : e ∈ X) {v u : Int} (hvu : (v = e.1 ∧ u = e.2) ∨ (v = e.2 ∧ u = e.1)) (hd : degE X v = 1) :
    ConnE (X.erase e) ∧ ((X.erase e ≠ [] ∧ degE X u ≠ 1 ∧ (vertsE X).length = (vertsE (X.erase e)).length + 1) ∨ (X.erase e = [] ∧ (vertsE X).length = 2)) := by
  have hlt := h.lt e he
  have huv : u ≠ v := by rcases hvu with ⟨a, b⟩ | ⟨a, b⟩ <;> omega
  have dv : degE (X.erase e) v = 0 := by
    have := degE_erase he v
    rcases hvu with ⟨a, b⟩ | ⟨a, b⟩
    · rw [if_pos a.symm] at this; omega
    · rw [if_pos (show e.2 = v from a.symm)] at this; omega
  have du : degE X u = degE (X.erase e) u + 1 := by
    have := degE_erase he u
    rcases hvu with ⟨a, b⟩ | ⟨a, b⟩
    · rw [if_neg (by omega), if_pos b.symm] at this; omega
    · rw [if_pos b.symm, if_neg (by omega)] at this; omega
  have dx : ∀ x, x ≠ u → x ≠ v → degE X x = degE (X.erase e) x := by
    intro x h1 h2
    have := degE_erase he x
    rcases hvu with ⟨a, b⟩ | ⟨a, b⟩
    · rw [if_neg (by omega), if_neg (by omega)] at this; omega
    · rw [if_neg (by omega), if_neg (by omega)] at this; omega
  -- edges at v
  have atv : ∀ x, x ∈ X → (x.1 = v ∨ x.2 = v) → x = e := by
    intro x hx hxv
    apply Classical.byContradiction
    intro hne
    have : x ∈ X.erase e := (List.mem_erase_of_ne hne).2 hx
    have hp : 0 < degE (X.erase e) v := degE_pos.2 (vertsE_mem.2 ⟨x, this, by rcases hxv with q | q; exact .inl q.symm; exact .inr q.symm⟩)
    omega
  -- the way, with v drawn back to u
  have keep : ∀ {a b : Int}, LConn X a b → LConn (X.erase e) (if a = v then u else a) (if b = v then u else b) := by
    intro a b hab
    induction hab with
    | refl => exact .refl _
    | step _ hs ih =>
      rename_i b c _
      refine ih.trans ?_
      by_cases hb : b = v
      · have hcu : c = u := by
          rcases hs with hs | hs
          · have := atv _ hs (.inl hb)
            rcases hvu with ⟨p, q⟩ | ⟨p, q⟩
            · rw [q, ← this]
            · rw [← this] at p q hlt; simp only at p q hlt; omega
          · have := atv _ hs (.inr hb)
            rcases hvu with ⟨p, q⟩ | ⟨p, q⟩
            · rw [← this] at p q hlt; simp only at p q hlt; omega
            · rw [q, ← this]
        rw [if_pos hb, hcu, if_neg huv]
        exact .refl _
      · by_cases hcv : c = v
        · have hbu : b = u := by
            rcases hs with hs | hs
            · have := atv _ hs (.inr hcv)
              rcases hvu with ⟨p, q⟩ | ⟨p, q⟩
              · rw [← this] at p q hlt; simp only at p q hlt; omega
              · rw [q, ← this]
            · have := atv _ hs (.inl hcv)
              rcases hvu with ⟨p, q⟩ | ⟨p, q⟩
              · rw [q, ← this]
              · rw [← this] at p q hlt; simp only at p q hlt; omega
          rw [if_neg hb, if_pos hcv, hbu]
          exact .refl _
        · rw [if_neg hb, if_neg hcv]
          refine (LConn.refl _).step ?_
          refine hs.imp (fun q => ?_) (fun q => ?_)
          · refine (List.mem_erase_of_ne ?_).2 q
            rintro rfl
            rcases hvu with ⟨p, _⟩ | ⟨p, _⟩
            · exact hb p.symm
            · exact hcv p.symm
          · refine (List.mem_erase_of_ne ?_).2 q
            rintro rfl
            rcases hvu with ⟨p, _⟩ | ⟨p, _⟩
            · exact hcv p.symm
            · exact hb p.symm
  have hvX : v ∈ vertsE X := degE_pos.1 (by omega)
  have huX : u ∈ vertsE X := degE_pos.1 (by omega)
  have hve : v ∉ vertsE (X.erase e) := fun q => by have := degE_pos.2 q; omega
  have sub : ∀ x, x ∈ vertsE (X.erase e) → x ∈ vertsE X := by
    intro x hx
    obtain ⟨y, hy, hxy⟩ := vertsE_mem.1 hx
    exact vertsE_mem.2 ⟨y, List.mem_of_mem_erase hy, hxy⟩
  refine ⟨fun a b ha hb => ?_, ?_⟩
  · have := keep (hc a b (sub a ha) (sub b hb))
    rwa [if_neg (fun (q : a = v) => hve (q ▸ ha)), if_neg (fun (q : b = v) => hve (q ▸ hb))] at this
  · by_cases hn : X.erase e = []
    · right
      refine ⟨hn, ?_⟩
      have hl := List.length_erase_of_mem he
      rw [hn] at hl
      have hX : X = [e] := by
        match X, he, hl with
        | [x], he, _ => simp at he; rw [he]
        | _ :: _ :: _, _, hl => simp at hl
      rw [hX]
      have : [e.1, e.2].Nodup := by simp; omega
      have e1 := sub_len18 (vertsE [e]) [e.1, e.2] (vertsE_nodup _) (fun x hx => by obtain ⟨y, hy, hxy⟩ := vertsE_mem.1 hx; simp at hy; subst hy; simpa using hxy)
      have e2 := sub_len18 [e.1, e.2] (vertsE [e]) this (fun x hx => vertsE_mem.2 ⟨e, by simp, by simpa using hx⟩)
      simp only [List.length_cons, List.length_nil] at e1 e2
      omega
    · left
      refine ⟨hn, ?_, ?_⟩
      · -- u has another edge
        intro hu1
        obtain ⟨x, hx⟩ := List.exists_mem_of_ne_nil _ hn
        have hxv : x.1 ∈ vertsE (X.erase e) := vertsE_mem.2 ⟨x, hx, .inl rfl⟩
        have hk := keep (hc u x.1 huX (sub _ hxv))
        rw [if_neg huv, if_neg (fun (q : x.1 = v) => hve (q ▸ hxv))] at hk
        have du0 : degE (X.erase e) u = 0 := by omega
        have : u = x.1 := by
          have stuck : ∀ {a b : Int}, LConn (X.erase e) a b → a = u → b = u := by
            intro a b hab ha
            induction hab with
            | refl => exact ha
            | step _ hs ih =>
              exfalso
              have hb := ih
              have : 0 < degE (X.erase e) u := degE_pos.2 (vertsE_mem.2 (by
                rcases hs with hs | hs
                · exact ⟨_, hs, .inl hb.symm⟩
                · exact ⟨_, hs, .inr hb.symm⟩))
              omega
          exact (stuck hk rfl).symm
        have := degE_pos.2 (this ▸ hxv)
        omega
      · have hu2 : u ∈ vertsE (X.erase e) := by
          apply Classical.byContradiction
          intro hu
          have du0 : ¬ 0 < degE (X.erase e) u := fun q => hu (degE_pos.1 q)
          obtain ⟨x, hx⟩ := List.exists_mem_of_ne_nil _ hn
          have hxv : x.1 ∈ vertsE (X.erase e) := vertsE_mem.2 ⟨x, hx, .inl rfl⟩
          have hk := keep (hc u x.1 huX (sub _ hxv))
          rw [if_neg huv, if_neg (fun (q : x.1 = v) => hve (q ▸ hxv))] at hk
          have stuck : ∀ {a b : Int}, LConn (X.erase e) a b → a = u → b = u := by
            intro a b hab ha
            induction hab with
            | refl => exact ha
            | step _ hs ih =>
              exfalso
              have hb := ih
              exact du0 (degE_pos.2 (vertsE_mem.2 (by
                rcases hs with hs | hs
                · exact ⟨_, hs, .inl hb.symm⟩
                · exact ⟨_, hs, .inr hb.symm⟩)))
          rw [stuck hk rfl] at hxv
          exact hu hxv
        have e1 := sub_len18 (vertsE X) (v :: vertsE (X.erase e)) (vertsE_nodup _) (fun x hx => by
          by_cases hxv : x = v
          · subst hxv; simp
          · by_cases hxu : x = u
            · subst hxu; simp [hu2]
            · refine List.mem_cons_of_mem _ (degE_pos.1 ?_)
              have := degE_pos.2 hx
              rw [dx x hxu hxv] at this
              exact this)
        have e2 := sub_len18 (v :: vertsE (X.erase e)) (vertsE X) (List.nodup_cons.2 ⟨hve, vertsE_nodup _⟩) (fun x hx => by
          rcases List.mem_cons.1 hx with rfl | hx
          · exact hvX
          · exact sub x hx)
        simp only [List.length_cons] at e1 e2
        omega
/-- How many more edges than vertices; none is -1. -/
structure Exc (X : List (Int × Int)) (c : Int) : Prop where
  r : RightE X
  con : ConnE X
  some' : X ≠ [] → (X.length : Int) - (vertsE X).length = c
  none' : X = [] → c = -1
theorem Exc.leaf {X : List (Int × Int)} {c : Int} (h : Exc X c) {e : Int × Int} (he : e ∈ X) (hd : degE X e.1 = 1 ∨ degE X e.2 = 1) : Exc (X.erase e) c := by
  have key : ∀ v u : Int, ((v = e.1 ∧ u = e.2) ∨ (v = e.2 ∧ u = e.1)) → degE X v = 1 → Exc (X.erase e) c := by
    intro v u hvu hd
    obtain ⟨h1, h2⟩ := leaf_conn h.r h.con he hvu hd
    have hl := List.length_erase_of_mem he
    have hp : 0 < X.length := List.length_pos_of_mem he
    have hs := h.some' (List.length_pos_iff.1 hp)
    refine ⟨h.r.erase e, h1, fun hn => ?_, fun hn => ?_⟩
    · rcases h2 with ⟨_, _, h3⟩ | ⟨h3, _⟩
      · omega
      · exact absurd h3 hn
    · rcases h2 with ⟨h3, _⟩ | ⟨_, h3⟩
      · exact absurd hn h3
      · rw [hn] at hl
        simp only [List.length_nil] at hl
        omega
  rcases hd with hd | hd
  · exact key e.1 e.2 (.inl ⟨rfl, rfl⟩) hd
  · exact key e.2 e.1 (.inr ⟨rfl, rfl⟩) hd
/-- Some leaves are taken away, each by its turn. -/
theorem Exc.leaves {c : Int} : ∀ (R : List (Int × Int)) {X : List (Int × Int)}, Exc X c → R.Nodup → (∀ e, e ∈ R → e ∈ X ∧ (degE X e.1 = 1 ∨ degE X e.2 = 1)) → Exc (R.foldl List.erase X) c
  | [], _, h, _, _ => h
  | e :: R, X, h, hn, hR => by
    obtain ⟨h1, h2⟩ := hR e (by simp)
    have hn' := List.nodup_cons.1 hn
    refine Exc.leaves R (h.leaf h1 h2) hn'.2 fun x hx => ?_
    obtain ⟨x1, x2⟩ := hR x (by simp [hx])
    have hne : x ≠ e := fun q => hn'.1 (q ▸ hx)
    have hm : x ∈ X.erase e := (List.mem_erase_of_ne hne).2 x1
    refine ⟨hm, ?_⟩
    have low : ∀ v, degE X v = 1 → (v = x.1 ∨ v = x.2) → degE (X.erase e) v = 1 := by
      intro v hv hvx
      have a := degE_erase h1 v
      have b : 0 < degE (X.erase e) v := degE_pos.2 (vertsE_mem.2 ⟨x, hm, hvx⟩)
      omega
    exact x2.imp (fun q => low _ q (.inl rfl)) (fun q => low _ q (.inr rfl))
theorem foldl_erase_mem {R X : List (Int × Int)} (hX : X.Nodup) {x : Int × Int} : x ∈ R.foldl List.erase X ↔ x ∈ X ∧ x ∉ R := by
  induction R generalizing X with
  | nil => simp
  | cons e R ih =>
    rw [List.foldl_cons, ih (hX.erase e), hX.mem_erase_iff]
    simp only [List.mem_cons, not_or]
    constructor
    · rintro ⟨⟨a, b⟩, c⟩; exact ⟨b, a, c⟩
    · rintro ⟨b, a, c⟩; exact ⟨⟨a, b⟩, c⟩
theorem Exc.perm {X Y : List (Int × Int)} {c : Int} (h : Exc X c) (p : X.Perm Y) : Exc Y c := by
  have hv : ∀ v, v ∈ vertsE X ↔ v ∈ vertsE Y := by
    intro v
    rw [← degE_pos, ← degE_pos, degE_perm p]
  have hl : (vertsE X).length = (vertsE Y).length := Nat.le_antisymm (sub_len18 _ _ (vertsE_nodup _) fun x hx => (hv x).1 hx) (sub_len18 _ _ (vertsE_nodup _) fun x hx => (hv x).2 hx)
  have hc : ∀ {a b : Int}, LConn X a b → LConn Y a b := by
    intro a b hab
    induction hab with
    | refl => exact .refl _
    | step _ hs ih => exact ih.step (hs.imp (fun q => p.subset q) (fun q => p.subset q))
  refine ⟨⟨fun e he => h.r.lt e (p.symm.subset he), p.nodup_iff.1 h.r.nd⟩, fun a b ha hb => hc (h.con a b ((hv a).2 ha) ((hv b).2 hb)), fun hn => ?_, fun hn => ?_⟩
  · have := h.some' (fun q => hn (by rw [q] at p; exact p.symm.eq_nil))
    rw [p.length_eq, hl] at this
    exact this
  · exact h.none' (by rw [hn] at p; exact p.eq_nil)
theorem Exc.shave {X : List (Int × Int)} {c : Int} (h : Exc X c) : Exc (shave X) c := by
  have hR : Exc ((X.filter fun e => !keepE X e).foldl List.erase X) c := h.leaves _ (h.r.nd.filter _) fun e he => by
    obtain ⟨h1, h2⟩ := List.mem_filter.1 he
    refine ⟨h1, ?_⟩
    unfold keepE at h2
    simp only [ne_eq, Bool.not_eq_true', Bool.and_eq_false_imp, decide_eq_true_eq, decide_eq_false_iff_not, Classical.not_not] at h2
    by_cases q : degE X e.1 = 1
    · exact .inl q
    · exact .inr (h2 q)
  refine hR.perm ?_
  refine (List.perm_ext_iff_of_nodup hR.r.nd (h.r.nd.filter _)).2 fun x => ?_
  rw [foldl_erase_mem h.r.nd]
  simp only [List.mem_filter, not_and, Bool.not_eq_true', Bool.not_eq_false]
  constructor
  · rintro ⟨a, b⟩; exact ⟨a, b a⟩
  · rintro ⟨a, b⟩; exact ⟨a, fun _ => b⟩
theorem Exc.prune {X : List (Int × Int)} {c : Int} (h : Exc X c) : Exc (pruneE X) c := by
  have : ∀ n, Exc (pruneN n X) c := by
    intro n
    induction n with
    | zero => exact h
    | succ n ih => exact ih.shave
  exact this _
def sumV (f : Int → Nat) : List Int → Nat
  | [] => 0
  | v :: V => f v + sumV f V
theorem sumV_one {V : List Int} (hn : V.Nodup) {f : Int → Nat} {g : Int → Nat} {v : Int} (hv : v ∈ V) (hg : ∀ x, f x = g x + if x = v then 1 else 0) : sumV f V = sumV g V + 1 := by
  induction V with
  | nil => cases hv
  | cons a V ih =>
    have hn' := List.nodup_cons.1 hn
    show f a + sumV f V = g a + sumV g V + 1
    have hf := hg a
    rcases List.mem_cons.1 hv with rfl | hv
    · rw [if_pos rfl] at hf
      have : sumV f V = sumV g V := by
        have : ∀ W : List Int, v ∉ W → sumV f W = sumV g W := by
          intro W
          induction W with
          | nil => intro _; rfl
          | cons b W ihW =>
            intro hb
            show f b + sumV f W = g b + sumV g W
            have := hg b
            rw [if_neg (fun (q : b = v) => hb (by simp [q]))] at this
            rw [ihW (fun q => hb (by simp [q])), this]
            omega
        exact this V hn'.1
      omega
    · have := ih hn'.2 hv
      rw [if_neg (fun (q : a = v) => hn'.1 (q ▸ hv))] at hf
      omega
/-- A list, counted by its first numbers. -/
theorem count_first {V : List Int} (hn : V.Nodup) : ∀ {D : List (Int × Int)}, (∀ d, d ∈ D → d.1 ∈ V) → D.length = sumV (fun v => D.countP fun d => decide (d.1 = v)) V
  | [], _ => by
    have : ∀ W : List Int, sumV (fun v => ([] : List (Int × Int)).countP fun d => decide (d.1 = v)) W = 0 := by
      intro W
      induction W with
      | nil => rfl
      | cons b W ih =>
        show _ + sumV _ W = 0
        rw [ih]
        rfl
    rw [this]
    rfl
  | d :: D, h => by
    have ih := count_first hn (D := D) fun x hx => h x (by simp [hx])
    rw [sumV_one hn (g := fun v => D.countP fun d => decide (d.1 = v)) (h d (by simp)) fun x => by
      rw [List.countP_cons]
      by_cases q : d.1 = x
      · simp [q]
      · have q' : ¬ x = d.1 := fun e => q e.symm
        simp [q, q']]
    rw [List.length_cons, ih]
theorem sumV_le {V : List Int} {f g : Int → Nat} (h : ∀ v, v ∈ V → f v ≤ g v) : sumV f V ≤ sumV g V := by
  induction V with
  | nil => exact Nat.le_refl _
  | cons a V ih =>
    show f a + sumV f V ≤ g a + sumV g V
    have := h a (by simp)
    have := ih fun v hv => h v (by simp [hv])
    omega
theorem sumV_congr {V : List Int} {f g : Int → Nat} (h : ∀ v, v ∈ V → f v = g v) : sumV f V = sumV g V := Nat.le_antisymm (sumV_le fun v hv => Nat.le_of_eq (h v hv)) (sumV_le fun v hv => Nat.le_of_eq (h v hv).symm)
theorem sumV_lin (f : Int → Nat) (a b : Nat) : ∀ V : List Int, sumV (fun v => a * f v + b) V = a * sumV f V + b * V.length
  | [] => by simp [sumV]
  | v :: V => by
    show a * f v + b + sumV _ V = a * (f v + sumV f V) + b * (V.length + 1)
    rw [sumV_lin f a b V, Nat.mul_add, Nat.mul_add]
    omega
theorem darts_nodup18 {X : List (Int × Int)} (h : RightE X) : (dartsL X).Nodup := by
  unfold dartsL
  refine List.nodup_append.2 ⟨h.nd, ?_, ?_⟩
  · rw [List.nodup_iff_pairwise_ne, List.pairwise_map]
    refine h.nd.imp fun {a b} hab e => hab ?_
    have := congrArg revD e
    exact this
  · intro a ha b hb e
    obtain ⟨c, hc, rfl⟩ := List.mem_map.1 hb
    have h1 := h.lt a ha
    have h2 := h.lt c hc
    rw [e] at h1
    simp only [revD] at h1
    omega
theorem darts_isD {X : List (Int × Int)} (h : RightE X) {d : Int × Int} (hd : d ∈ dartsL X) : IsD X d := by
  unfold dartsL at hd
  rcases List.mem_append.1 hd with hd | hd
  · refine (nbE_mem h).2 ?_
    rw [flatE_lt (h.lt d hd)]
    exact hd
  · obtain ⟨c, hc, rfl⟩ := List.mem_map.1 hd
    refine (nbE_mem h).2 ?_
    show flatE c.2 c.1 ∈ X
    rw [flatE_comm, flatE_lt (h.lt c hc)]
    exact hc
theorem darts_deg {X : List (Int × Int)} (v : Int) : (dartsL X).countP (fun d => decide (d.1 = v)) = degE X v := by
  unfold dartsL degE
  rw [List.countP_append, List.countP_map]
  rfl
theorem darts_first {X : List (Int × Int)} {d : Int × Int} (hd : d ∈ dartsL X) : d.1 ∈ vertsE X := by
  unfold dartsL at hd
  rcases List.mem_append.1 hd with hd | hd
  · exact vertsE_mem.2 ⟨d, hd, .inl rfl⟩
  · obtain ⟨c, hc, rfl⟩ := List.mem_map.1 hd
    exact vertsE_mem.2 ⟨c, hc, .inr rfl⟩
/-- All ends, vertex by vertex. -/
theorem deg_sum {X : List (Int × Int)} : sumV (degE X) (vertsE X) = 2 * X.length := by
  have := count_first (vertsE_nodup X) (D := dartsL X) fun d hd => darts_first hd
  rw [sumV_congr (g := degE X) fun v _ => darts_deg v] at this
  rw [← this]
  simp [dartsL]
  omega
theorem starts_sum {X : List (Int × Int)} : ((dartsL X).filter fun d => decide (degE X d.1 ≠ 2)).length = sumV (fun v => if degE X v = 2 then 0 else degE X v) (vertsE X) := by
  have := count_first (vertsE_nodup X) (D := (dartsL X).filter fun d => decide (degE X d.1 ≠ 2)) fun d hd => darts_first (List.mem_filter.1 hd).1
  rw [this]
  refine sumV_congr fun v _ => ?_
  rw [List.countP_filter]
  by_cases h : degE X v = 2
  · rw [if_pos h]
    refine List.countP_eq_zero.2 fun d _ => ?_
    simp only [Bool.and_eq_true, decide_eq_true_eq, not_and]
    intro e
    rw [e]
    exact fun q => q h
  · rw [if_neg h, ← darts_deg (X := X) v]
    refine List.countP_congr fun d _ => ?_
    simp only [Bool.and_eq_true, decide_eq_true_eq]
    constructor
    · exact fun q => q.1
    · exact fun q => ⟨q, by rw [q]; exact h⟩
/-- A round is all that hangs together with it. -/
theorem round_all {X : List (Int × Int)} (h : RightE X) {d : Int × Int} {K : Nat} (w : Whole18 X d K) (h2 : degE X d.1 = 2) {u v : Int} (hc : LConn X u v) (hu : ∃ j, j ≤ K ∧ u = (dartE X d j).1) : ∃ j, j ≤ K ∧ v = (dartE X d j).1 := by
  induction hc with
  | refl => exact hu
  | step _ hs ih =>
    rename_i b c _
    obtain ⟨j, hj, hb⟩ := ih
    have hnb : c ∈ nbE X b := by
      rw [nbE_mem h]
      rcases hs with hs | hs
      · rw [flatE_lt (h.lt _ hs)]; exact hs
      · rw [flatE_comm, flatE_lt (h.lt _ hs)]; exact hs
    have hd2 := (w.deg h2 j hj).1
    have hclose := w.close h h2
    have hK2 : (dartE X d K).2 = d.1 := by
      have := congrArg Prod.fst hclose
      exact this
    -- the step in
    have inn : ∃ i, i ≤ K ∧ (dartE X d i).2 = b ∧ sucE X (dartE X d i) = dartE X d j := by
      cases j with
      | zero => exact ⟨K, Nat.le_refl _, by rw [hb, hK2]; rfl, hclose⟩
      | succ m => exact ⟨m, by omega, by rw [hb]; rfl, rfl⟩
    obtain ⟨i, hi, hib, his⟩ := inn
    have hin := nbE_symm h (w.tr.isDj h i hi)
    rw [hib] at hin
    have hs2 := (oth_spec h (by rw [hb]; exact hd2) hin).2.2.2 c hnb
    rcases hs2 with e | e
    · exact ⟨i, hi, e⟩
    · have : c = (dartE X d j).2 := by
        rw [e, ← his]
        unfold sucE
        rw [hib]
      by_cases hjK : j = K
      · subst hjK
        exact ⟨0, by omega, by rw [this, hK2]; rfl⟩
      · exact ⟨j + 1, by omega, by rw [this]; rfl⟩
/-- Few paths. -/
theorem few_paths {X : List (Int × Int)} {g : Int} (h : Exc X (2 * g - 1)) (hm : ∀ v, v ∈ vertsE X → 2 ≤ degE X v) (hg : 1 ≤ g) {O : List (List Int)} (hO : PFin18 X O) : 1 ≤ O.length ∧ (O.length : Int) ≤ 6 * g - 3 := by
  have hr := h.r
  have hne : X ≠ [] := fun q => by have := h.none' q; omega
  have hx := h.some' hne
  have h1 := deg_sum (X := X)
  have h2 := starts_sum (X := X)
  -- the sums
  have h3 : sumV (fun v => if degE X v = 2 then 0 else degE X v) (vertsE X) + 6 * (vertsE X).length ≤ 3 * sumV (degE X) (vertsE X) := by
    have : sumV (fun v => 1 * (if degE X v = 2 then 0 else degE X v) + 6) (vertsE X) ≤ sumV (fun v => 3 * degE X v + 0) (vertsE X) := sumV_le fun v hv => by
      have := hm v hv
      by_cases q : degE X v = 2
      · rw [if_pos q, q]; omega
      · rw [if_neg q]; omega
    rw [sumV_lin, sumV_lin] at this
    omega
  -- a vertex of degree 3 or more
  have big : ∃ v, v ∈ vertsE X ∧ degE X v ≠ 2 := by
    apply Classical.byContradiction
    intro hn
    have : sumV (degE X) (vertsE X) = sumV (fun v => 0 * degE X v + 2) (vertsE X) := sumV_congr fun v hv => by
      have : degE X v = 2 := Classical.byContradiction fun q => hn ⟨v, hv, q⟩
      rw [this]
    rw [sumV_lin] at this
    omega
  obtain ⟨v0, hv0, hd0⟩ := big
  have noround : ∀ {d : Int × Int} {K : Nat}, Path18 X d K → degE X d.1 ≠ 2 := by
    intro d K p hd
    have hdv : d.1 ∈ vertsE X := degE_pos.1 (by omega)
    obtain ⟨j, hj, e⟩ := round_all hr p.w hd (h.con d.1 v0 hdv hv0) ⟨0, by omega, rfl⟩
    exact hd0 (by rw [e]; exact (p.w.deg hd j hj).1)
  -- each path has two ends
  have pick : ∃ f : List Int → (Int × Int) × Nat, ∀ p, p ∈ O → Path18 X (f p).1 (f p).2 ∧ p = canonR (pathL X (f p).1 (f p).2) := by
    classical
    refine ⟨fun p => if hp : ∃ q : (Int × Int) × Nat, Path18 X q.1 q.2 ∧ p = canonR (pathL X q.1 q.2) then Classical.choose hp else ((0, 0), 0), fun p hp => ?_⟩
    obtain ⟨d, K, p1, p2⟩ := (hO.mem p).1 hp
    have hex : ∃ q : (Int × Int) × Nat, Path18 X q.1 q.2 ∧ p = canonR (pathL X q.1 q.2) := ⟨(d, K), p1, p2⟩
    simp only [dif_pos hex]
    exact Classical.choose_spec hex
  obtain ⟨f, hf⟩ := pick
  have hLn : (O.flatMap fun p => [(f p).1, revD (dartE X (f p).1 (f p).2)]).Nodup := by
    rw [List.nodup_iff_pairwise_ne, List.pairwise_flatMap]
    constructor
    · intro p hp
      obtain ⟨p1, -⟩ := hf p hp
      rw [← List.nodup_iff_pairwise_ne]
      simp only [List.nodup_cons, List.mem_cons, List.not_mem_nil, or_false, not_false_eq_true, List.nodup_nil, and_self, and_true]
      exact p1.w.tr.no_rev hr (i := 0) (by omega) (Nat.le_refl _)
    · refine List.Pairwise.imp_of_mem (fun {a b} ha hb hab => ?_) hO.nd
      intro x hx y hy e
      subst e
      obtain ⟨p1, e1⟩ := hf a ha
      obtain ⟨p2, e2⟩ := hf b hb
      -- x starts a, or a the other way round
      have turn : ∀ {c : List Int}, Path18 X (f c).1 (f c).2 → c = canonR (pathL X (f c).1 (f c).2) → x ∈ [(f c).1, revD (dartE X (f c).1 (f c).2)] → Path18 X x (f c).2 ∧ c = canonR (pathL X x (f c).2) := by
        intro c q1 q2 q3
        simp only [List.mem_cons, List.not_mem_nil, or_false] at q3
        rcases q3 with q3 | q3
        · rw [q3]; exact ⟨q1, q2⟩
        · rw [q3]; exact ⟨q1.rev hr, by rw [(q1.w.rev hr).2.2, canonR_rev]; exact q2⟩
      obtain ⟨t1, t2⟩ := turn p1 e1 hx
      obtain ⟨t3, t4⟩ := turn p2 e2 hy
      have := (path_one hr t1 t3 (i := 0) (j := 0) (by omega) (by omega) rfl).2
      exact hab (by rw [t2, t4, this])
  have hLs : ∀ x, x ∈ (O.flatMap fun p => [(f p).1, revD (dartE X (f p).1 (f p).2)]) → x ∈ (dartsL X).filter fun d => decide (degE X d.1 ≠ 2) := by
    intro x hx
    obtain ⟨p, hp, hxp⟩ := List.mem_flatMap.1 hx
    obtain ⟨p1, -⟩ := hf p hp
    simp only [List.mem_cons, List.not_mem_nil, or_false] at hxp
    rcases hxp with rfl | rfl
    · exact List.mem_filter.2 ⟨p1.w.tr.isD.mem hr, by simpa using noround p1⟩
    · exact List.mem_filter.2 ⟨(p1.rev hr).w.tr.isD.mem hr, by simpa using noround (p1.rev hr)⟩
  have hlen := sub_len18 _ _ hLn hLs
  have hll : (O.flatMap fun p => [(f p).1, revD (dartE X (f p).1 (f p).2)]).length = 2 * O.length := by
    have : ∀ Q : List (List Int), (Q.flatMap fun p => [(f p).1, revD (dartE X (f p).1 (f p).2)]).length = 2 * Q.length := by
      intro Q
      induction Q with
      | nil => rfl
      | cons a Q ih => rw [List.flatMap_cons, List.length_append, ih]; simp; omega
    exact this O
  constructor
  · obtain ⟨e, he⟩ := List.exists_mem_of_ne_nil _ hne
    obtain ⟨p, hp, _⟩ := hO.all e he
    exact List.length_pos_of_mem hp
  · omega
end Go.Proofs.YtkjamheoihlekaaGreat

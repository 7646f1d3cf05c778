/- Plain law: the links are the shortest way. -/
import Derived.Test.YtkjamheoihlekaaGreatBfsLaw
namespace Go.Proofs.YtkjamheoihlekaaGreat
set_option linter.unusedVariables false
set_option linter.unusedSimpArgs false
/-- How far triangles are, told in rounds: in the midst of round d, ahead of corner x. -/
def FarM (T : List Tr) (f d x : Nat) (φ : Nat → Int) : Prop := ∀ t, t < T.length → (φ t = (bfs T f).d t ∧ t ∈ (bfs T f).o ∧ ((bfs T f).d t ≤ d ∨ (bfs T f).d t = d + 1)) ∨ (φ t = -1 ∧ ¬ (t ∈ (bfs T f).o ∧ ((bfs T f).d t ≤ d ∨ ((bfs T f).d t = d + 1 ∧ ∃ y, y < x ∧ y / 3 ∈ (bfs T f).o ∧ (bfs T f).d (y / 3) = d ∧ ∃ o : Nat, opp T (y : Nat) = o ∧ o / 3 = t))))
theorem countP_one18 {r : Nat} : ∀ {L : List Nat}, L.Nodup → ∀ {p q : Nat → Bool}, r ∈ L → p r = false → (∀ x, x ∈ L → q x = (p x || decide (x = r))) → L.countP q = L.countP p + 1
  | a :: L, hn, p, q, hr, hp, h => by
    have hn' := List.nodup_cons.1 hn
    rw [List.countP_cons, List.countP_cons]
    have ha := h a (by simp)
    rcases List.mem_cons.1 hr with rfl | hr
    · have he : L.countP q = L.countP p := by
        refine List.countP_congr fun x hx => ?_
        have hne : ¬ x = r := fun e => hn'.1 (e ▸ hx)
        rw [h x (by simp [hx])]
        simp [hne]
      rw [he, ha, hp]
      simp
    · have hne : ¬ a = r := fun e => hn'.1 (e ▸ hr)
      rw [countP_one18 hn'.2 hr hp fun x hx => h x (by simp [hx]), ha]
      simp [hne]
      omega
section
variable {N : Int} {T : List Tr} (hs : Surf N T) {f : Nat} (hf : f < 3 * T.length)
include hs hf
theorem far_start : FarM T f 0 0 (fun t => if t = f / 3 then 0 else -1) := by
  have hI : BfI T f (bfs T f) := bfs_inv hs hf _
  intro t ht
  by_cases e : t = f / 3
  · left
    subst e
    exact ⟨by simp [hI.d0], hI.hdm, .inl (by rw [hI.d0]; omega)⟩
  · right
    refine ⟨by simp [e], ?_⟩
    rintro ⟨h1, h2 | ⟨-, y, hy, -⟩⟩
    · obtain ⟨c, -, -, -, -, -, h3⟩ := hI.lk t h1 e
      omega
    · omega
theorem far_set {d x o : Nat} {φ : Nat → Int} (h : FarM T f d x φ) (hx : x < 3 * T.length) (h1 : φ (x / 3) = d) (ho : opp T (x : Nat) = (o : Int)) (h2 : φ (o / 3) < 0) : FarM T f d (x + 1) (fun t => if t = o / 3 then ((d + 1 : Nat) : Int) else φ t) := by
  have hI : BfI T f (bfs T f) := bfs_inv hs hf _
  obtain ⟨o', ho', ol, hback, -, -⟩ := hs.opp_opp hx (by omega)
  obtain rfl : o' = o := by omega
  obtain ⟨q1, q2, -⟩ | ⟨q1, -⟩ := h (x / 3) (by omega)
  · have hd : (bfs T f).d (x / 3) = d := by omega
    have hc := bfs_closed hs hf hx q2 ho
    have hl := bfs_lip hs hf hx q2 ho
    have hnd : ¬ ((bfs T f).d (o' / 3) ≤ d) := by
      obtain ⟨p1, p2, -⟩ | ⟨p1, p2⟩ := h (o' / 3) (by omega)
      · omega
      · exact fun q => p2 ⟨hc, .inl q⟩
    intro t ht
    by_cases e : t = o' / 3
    · left
      subst e
      exact ⟨by simp; omega, hc, .inr (by omega)⟩
    · rcases h t ht with p | ⟨p1, p2⟩
      · left
        refine ⟨?_, p.2⟩
        simp only [e, if_false]
        exact p.1
      · right
        refine ⟨by simp only [e, if_false]; exact p1, ?_⟩
        rintro ⟨r1, r2 | ⟨r2, y, hy, r3, r4, w, r5, r6⟩⟩
        · exact p2 ⟨r1, .inl r2⟩
        · by_cases hyx : y = x
          · subst hyx
            obtain rfl : w = o' := by omega
            exact e r6.symm
          · exact p2 ⟨r1, .inr ⟨r2, y, by omega, r3, r4, w, r5, r6⟩⟩
  · omega
theorem far_skip {d x : Nat} {φ : Nat → Int} (h : FarM T f d x φ) (hx : x < 3 * T.length) (hn : ¬ (φ (x / 3) = d ∧ ∃ o : Nat, opp T (x : Nat) = (o : Int) ∧ φ (o / 3) < 0)) : FarM T f d (x + 1) φ := by
  have hI : BfI T f (bfs T f) := bfs_inv hs hf _
  intro t ht
  rcases h t ht with p | ⟨p1, p2⟩
  · exact .inl p
  · right
    refine ⟨p1, ?_⟩
    rintro ⟨r1, r2 | ⟨r2, y, hy, r3, r4, w, r5, r6⟩⟩
    · exact p2 ⟨r1, .inl r2⟩
    · by_cases hyx : y = x
      · subst hyx
        refine hn ⟨?_, w, r5, by rw [r6]; omega⟩
        obtain ⟨q1, -, -⟩ | ⟨q1, q2⟩ := h (y / 3) (by omega)
        · omega
        · exact absurd ⟨r3, .inl (by omega)⟩ q2
      · exact p2 ⟨r1, .inr ⟨r2, y, by omega, r3, r4, w, r5, r6⟩⟩
theorem far_next {d : Nat} {φ : Nat → Int} (h : FarM T f d (3 * T.length) φ) : FarM T f (d + 1) 0 φ := by
  have hI : BfI T f (bfs T f) := bfs_inv hs hf _
  intro t ht
  rcases h t ht with ⟨p1, p2, p3⟩ | ⟨p1, p2⟩
  · exact .inl ⟨p1, p2, .inl (by omega)⟩
  · right
    refine ⟨p1, ?_⟩
    rintro ⟨r1, r2 | ⟨r2, y, hy, -⟩⟩
    · by_cases hd : (bfs T f).d t ≤ d
      · exact p2 ⟨r1, .inl hd⟩
      · have hne : t ≠ f / 3 := by rintro rfl; rw [hI.d0] at hd; omega
        obtain ⟨c, h1, h2, h3, h4, h5, h6⟩ := hI.lk t r1 hne
        obtain ⟨o, o1, o2, o3, -, -⟩ := hs.opp_opp h2 h4
        rw [o1, Int.toNat_natCast] at h5 h6
        exact p2 ⟨r1, .inr ⟨by omega, o, o2, h5, by omega, c, o3, h3⟩⟩
    · omega
/-- In the end. -/
theorem far_end {φ : Nat → Int} (h : FarM T f T.length 0 φ) : ∀ t, t < T.length → (t ∈ (bfs T f).o ∧ φ t = (bfs T f).d t) ∨ (t ∉ (bfs T f).o ∧ φ t = -1) := by
  have hI : BfI T f (bfs T f) := bfs_inv hs hf _
  intro t ht
  rcases h t ht with ⟨p1, p2, -⟩ | ⟨p1, p2⟩
  · exact .inl ⟨p2, p1⟩
  · right
    refine ⟨fun hm => p2 ⟨hm, .inl ?_⟩, p1⟩
    have := hI.dl t hm
    have := hI.len
    omega
/-- A link, and how far. -/
theorem link_far {φ : Nat → Int} (h : FarM T f T.length 0 φ) {t : Nat} (ht : t < T.length) : ((bfs T f).l t = -1 ∧ φ t ≤ 0 ∧ (φ t = 0 ↔ t = f / 3)) ∨ ∃ c o : Nat, (bfs T f).l t = c ∧ c < 3 * T.length ∧ c / 3 = t ∧ opp T (c : Nat) = o ∧ o < 3 * T.length ∧ φ t = φ (o / 3) + 1 ∧ 0 < φ t := by
  have hI : BfI T f (bfs T f) := bfs_inv hs hf _
  have he := far_end hs hf h
  rcases he t ht with ⟨h1, h2⟩ | ⟨h1, h2⟩
  · by_cases hne : t = f / 3
    · left
      subst hne
      rw [hI.d0] at h2
      exact ⟨hI.rt, by omega, by omega⟩
    · right
      obtain ⟨c, e1, e2, e3, e4, e5, e6⟩ := hI.lk t h1 hne
      obtain ⟨o, o1, o2, o3, -, -⟩ := hs.opp_opp e2 e4
      rw [o1, Int.toNat_natCast] at e5 e6
      refine ⟨c, o, e1, e2, e3, o1, o2, ?_, by omega⟩
      rcases he (o / 3) (by omega) with ⟨g1, g2⟩ | ⟨g1, -⟩
      · omega
      · exact absurd e5 g1
  · left
    refine ⟨hI.no t h1, by omega, ?_⟩
    constructor
    · intro q; omega
    · rintro rfl; exact absurd hI.hdm h1
/-- As many links as triangles that are reached, less one. -/
theorem count_links {φ : Nat → Int} (h : FarM T f T.length 0 φ) : (List.range T.length).countP (fun i => decide (0 ≤ φ i)) = (List.range T.length).countP (fun i => decide (0 ≤ (bfs T f).l i)) + 1 := by
  have hI : BfI T f (bfs T f) := bfs_inv hs hf _
  refine countP_one18 List.nodup_range (r := f / 3) (by simp; omega) (by simp [hI.rt]) fun i hi => ?_
  have hi' : i < T.length := by simpa using hi
  rcases link_far hs hf h hi' with ⟨h1, h2, h3⟩ | ⟨c, o, h1, h2, h3, -, -, h4, h5⟩
  · rw [h1]
    by_cases e : i = f / 3
    · have := h3.2 e
      simp [e] at this ⊢
      omega
    · have : ¬ φ i = 0 := fun q => e (h3.1 q)
      simp [e]
      omega
  · have e : ¬ i = f / 3 := by
      rintro rfl
      rw [hI.rt] at h1
      omega
    simp [e]
    omega
end
end Go.Proofs.YtkjamheoihlekaaGreat

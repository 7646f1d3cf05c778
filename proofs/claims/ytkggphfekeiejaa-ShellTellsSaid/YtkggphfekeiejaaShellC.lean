/- The shells' contracts on a surface's table, all by one list of numbers. -/
import Derived.Test.YtkggphfekeiejaaSurfAdj
import Derived.Test.YtkggphfekeiejaaSplit
import Derived.Test.YtkggphfekeiejaaRefSplit
import Derived.Test.YtkggphfekeiejaaSame
namespace Go.Proofs.Ytkggphfekeiejaa
set_option linter.unusedVariables false
set_option linter.unusedSimpArgs false
open Go.RowKit
theorem shells_exist (A : Nat → Nat → Prop) (n : Nat) : ∃ L, IsShells A n L := by
  have hr : ∃ φ : Nat → Nat, Rep A n φ := by
    refine ⟨fun i => Classical.choose (least_of A i), fun i hi => ?_, fun i j hi hj c => ?_⟩
    · obtain ⟨h1, h2⟩ := Classical.choose_spec (least_of A i)
      exact ⟨h1 i h2, h2⟩
    · obtain ⟨h1, h2⟩ := Classical.choose_spec (least_of A i)
      obtain ⟨g1, g2⟩ := Classical.choose_spec (least_of A j)
      have q1 := h1 _ (h2.trans (c.trans g2.symm))
      have q2 := g1 _ (g2.trans (c.symm.trans h2.symm))
      show Classical.choose (least_of A i) = Classical.choose (least_of A j)
      omega
  obtain ⟨φ, hφ⟩ := hr
  have h : ∀ i, i ≤ n → ∃ c M, NInv φ i c M := by
    intro i
    induction i with
    | zero => exact fun _ => ⟨0, fun _ => 0, NInv.start _ _⟩
    | succ i ih =>
      intro hi
      obtain ⟨c, M, h⟩ := ih (by omega)
      by_cases e : φ i = i
      · exact ⟨_, _, h.fresh hφ (by omega) e⟩
      · exact ⟨_, _, (h.same hφ (by omega) e).2⟩
  obtain ⟨c, M, h⟩ := h n (Nat.le_refl _)
  exact ⟨M, h.done hφ⟩
/-- A part lies at an address. -/
def PartAt (w : World) (b o : Nat) (P : PartV) : Prop :=
  ∃ aoS cS aoV cV aoT cT, w.cell? ⟨b, o, none⟩ = some (.int .i64 P.N) ∧ w.cell? ⟨b, o + 1, none⟩ = some (.slice aoS P.S.length cS) ∧ w.cell? ⟨b, o + 2, none⟩ = some (.slice aoV P.V.length cV) ∧ w.cell? ⟨b, o + 3, none⟩ = some (.slice aoT P.T.length cT) ∧
    TrisAt w aoS P.S ∧ IntsAt w aoV P.V ∧ IntsAt w aoT P.T
theorem PartAt.mono {w w' : World} {b o : Nat} {P : PartV} (h : PartAt w b o P) (hb : Below w.heap.size w w') (hlt : b < w.heap.size) : PartAt w' b o P := by
  obtain ⟨aoS, cS, aoV, cV, aoT, cT, h0, h1, h2, h3, h4, h5, h6⟩ := h
  exact ⟨aoS, cS, aoV, cV, aoT, cT, (hb.cell (p := ⟨b, _, none⟩) hlt).trans h0, (hb.cell (p := ⟨b, _, none⟩) hlt).trans h1, (hb.cell (p := ⟨b, _, none⟩) hlt).trans h2, (hb.cell (p := ⟨b, _, none⟩) hlt).trans h3, h4.mono (Nat.le_refl _) hb, h5.mono (Nat.le_refl _) hb, h6.mono (Nat.le_refl _) hb⟩
/-- Parts lie one behind the other. -/
def PartsAt (w : World) (a : Option Addr) (P : Nat → PartV) (m : Nat) : Prop :=
  0 < m → ∃ b, a = some ⟨b, 0, none⟩ ∧ b < w.heap.size ∧ ∀ k, k < m → PartAt w b (k * 4) (P k)
theorem PartsAt.mono {w w' : World} {a : Option Addr} {P : Nat → PartV} {m : Nat} (h : PartsAt w a P m) (hb : Below w.heap.size w w') : PartsAt w' a P m := fun h0 => by
  obtain ⟨b, e, hlt, hk⟩ := h h0
  exact ⟨b, e, by have := hb.size; omega, fun k hk' => (hk k hk').mono hb hlt⟩
theorem PartsAt.congr {w : World} {a : Option Addr} {P Q : Nat → PartV} {m : Nat} (h : PartsAt w a P m) (e : ∀ k, k < m → P k = Q k) : PartsAt w a Q m := fun h0 => by
  obtain ⟨b, e', hlt, hk⟩ := h h0
  exact ⟨b, e', hlt, fun k hk' => by rw [← e k hk']; exact hk k hk'⟩
theorem partsAt_ok {w : World} {gp m : Nat} {f : Nat → Nat → Value} {P : Nat → PartV} {t : TypeId} (hr : RowIs w gp t (pc f m)) (h : ∀ k, k < m → PartOk w gp (f k) (P k)) : PartsAt w (some ⟨gp, 0, none⟩) P m := fun _ =>
  ⟨gp, rfl, hr.lt, fun k hk => by
    obtain ⟨aoS, cS, aoV, cV, aoT, cT, h0, h1, h2, h3, h4, h5, h6, -, -, -⟩ := h k hk
    exact ⟨aoS, cS, aoV, cV, aoT, cT, by rw [← h0]; exact hr.cell (pc_get f hk (c := 0) (by omega)), by rw [← h1]; exact hr.cell (pc_get f hk (c := 1) (by omega)), by rw [← h2]; exact hr.cell (pc_get f hk (c := 2) (by omega)),
      by rw [← h3]; exact hr.cell (pc_get f hk (c := 3) (by omega)), h4, h5, h6⟩⟩
theorem owns_intsAt {w : World} {base : Nat} {v : Value} {xs : List Int} (h : w.ownsRow base 3 1 v xs.length (xs.map (Value.int .i64))) : ∃ ao cap, v = .slice ao xs.length cap ∧ IntsAt w ao xs := by
  by_cases h0 : 0 < xs.length
  · obtain ⟨g, cap, rfl, hb, hlt, hc, hm, hcell, hfr⟩ := owns_block h h0
    refine ⟨_, cap, rfl, fun _ => ⟨g, 0, rfl, hlt, fun i hi => ?_⟩⟩
    rw [Nat.zero_add]
    refine hcell i _ ?_
    rw [List.getElem?_map, I!_get hi]
    rfl
  · obtain ⟨ao, cap, rfl⟩ := owns_slice h
    exact ⟨ao, cap, rfl, fun e => absurd (List.eq_nil_of_length_eq_zero (by omega)) e⟩
theorem partsAt_own {w : World} {base m : Nat} {v : Value} {f : Nat → Nat → Value} {P : Nat → PartV} {t : TypeId} (hr : w.ownsRow base t 4 v m (pc f m)) (h : ∀ k, k < m → PartOwn w base (f k) (P k)) : ∃ a c, v = .slice a m c ∧ PartsAt w a P m := by
  by_cases h0 : 0 < m
  · obtain ⟨g, cap, rfl, hb, hlt, hc, hm, hcell, hfr⟩ := owns_block hr h0
    refine ⟨_, _, rfl, fun _ => ⟨g, rfl, hlt, fun k hk => ?_⟩⟩
    obtain ⟨p0, p1, p2, p3⟩ := h k hk
    obtain ⟨aoS, cS, e1, h1⟩ := owns_tris p1
    obtain ⟨aoV, cV, e2, h2⟩ := owns_intsAt p2
    obtain ⟨aoT, cT, e3, h3⟩ := owns_intsAt p3
    exact ⟨aoS, cS, aoV, cV, aoT, cT, by rw [← p0]; exact hcell _ _ (pc_get f hk (c := 0) (by omega)), by rw [← e1]; exact hcell _ _ (pc_get f hk (c := 1) (by omega)), by rw [← e2]; exact hcell _ _ (pc_get f hk (c := 2) (by omega)),
      by rw [← e3]; exact hcell _ _ (pc_get f hk (c := 3) (by omega)), h1, h2, h3⟩
  · obtain ⟨ao, cap, rfl⟩ := owns_slice hr
    exact ⟨ao, cap, rfl, fun h => absurd h h0⟩
theorem partOf_same {T : List Tr} {L M : Nat → Int} {n k : Nat} (h : ∀ i, i < n → L i = M i) : partOf T L n k = partOf T M n k := by
  have : ofShell L n k = ofShell M n k := by
    unfold ofShell
    refine List.filter_congr fun i hi => ?_
    rw [h i (List.mem_range.1 hi)]
  unfold partOf
  rw [this]
section
variable {N : Int} {T : List Tr} {L : Nat → Int} {m : Nat}
theorem of_L (hs : Surf N T) (hL : IsShells (Adj T) T.length L) (w : World) (p : Nat) (h : Tab w p N T) :
    Calls Try.prog 16 #[.pointer (some ⟨p, 0, none⟩)] w fun e w' => ∃ g, e = .returned (.slice (some ⟨g, 0, none⟩) T.length T.length) ∧ w.heap.size ≤ g ∧ RowIs w' g 3 (iv L T.length) ∧ Below w.heap.size w w' :=
  (of_any w p N T h (fun i j _ _ h => hs.adj_symm h) (fun c h0 h1 => opp_lt c h0 h1)).mono fun e w' ⟨g, M, he, hg, hr, hM, hb⟩ => ⟨g, he, hg, by rw [iv_congr (hs.shells_one hL hM)]; exact hr, hb⟩
theorem count_L (hs : Surf N T) (hL : IsShells (Adj T) T.length L) (hm : (m : Int) = cnt L T.length) (w : World) (p : Nat) (h : Tab w p N T) :
    Calls Try.prog 18 #[.pointer (some ⟨p, 0, none⟩)] w fun e w' => e = .returned (.int .i64 (m : Int)) ∧ Below w.heap.size w w' :=
  (count_any w p N T h (fun i j _ _ h => hs.adj_symm h) (fun c h0 h1 => opp_lt c h0 h1)).mono fun e w' ⟨M, he, hM, hb⟩ => ⟨by rw [he, hm, cnt_congr _ (hs.shells_one hL hM)], hb⟩
theorem split_L (hs : Surf N T) (hL : IsShells (Adj T) T.length L) (hm : (m : Int) = cnt L T.length) (w : World) (p : Nat) (h : Tab w p N T) :
    Calls Try.prog 13 #[.pointer (some ⟨p, 0, none⟩)] w fun e w' => ∃ a c, e = .returned (.slice a m c) ∧ PartsAt w' a (partOf T L T.length) m ∧ Below w.heap.size w w' :=
  (split_any w p N T h (fun i j _ _ h => hs.adj_symm h) (fun c h0 h1 => opp_lt c h0 h1) (fun i j h => (hs.adj_nb h).1)).mono fun e w' ⟨M, hM, hb, hc⟩ => by
    have he := hs.shells_one hL hM
    rw [← cnt_congr _ he] at hc
    rcases hc with ⟨h0, rfl⟩ | ⟨gp, m', f, h1, h2, rfl, -, hr, hk⟩
    · obtain rfl : m = 0 := by omega
      exact ⟨none, 0, rfl, fun h => by omega, hb⟩
    · obtain rfl : m' = m := by omega
      exact ⟨_, _, rfl, (partsAt_ok hr hk).congr fun k _ => (partOf_same he).symm, hb⟩
theorem rof_L (hs : Surf N T) (hL : IsShells (Adj T) T.length L) (ao : Option Addr) (cap : Nat) (w : World) (hT : TrisAt w ao T) :
    Calls Try.prog 17 #[.agg #[.int .i64 N, .slice ao T.length cap]] w fun e w' => ∃ g, e = .returned (.slice (some ⟨g, 0, none⟩) T.length T.length) ∧ w.heap.size ≤ g ∧ RowIs w' g 3 (iv L T.length) ∧ Below w.heap.size w w' :=
  (rof_any N ao cap T w hT (by have := hs.t1; omega)).mono fun e w' ⟨g, M, he, hg, hr, hM, hb⟩ => ⟨g, he, hg, by rw [iv_congr (hs.shells_same hL hM)]; exact hr, hb⟩
theorem rsplit_L (hs : Surf N T) (hL : IsShells (Adj T) T.length L) (hm : (m : Int) = cnt L T.length) (ao : Option Addr) (cap : Nat) (w : World) (hT : TrisAt w ao T) :
    Calls Try.prog 14 #[.agg #[.int .i64 N, .slice ao T.length cap]] w fun e w' => ∃ a c, e = .returned (.slice a m c) ∧ PartsAt w' a (partOf T L T.length) m ∧ Below w.heap.size w w' := by
  obtain ⟨n, rfl⟩ := Int.eq_ofNat_of_zero_le hs.n0
  refine (rsplit_any n ao cap T w hT (by have := hs.t1; omega) (by have := hs.n1; omega) hs.vin).mono ?_
  rintro e w' ⟨M, v, f, m', rfl, hM, h1, ho, hk, hb⟩
  have he := hs.shells_same hL hM
  rw [← cnt_congr _ he] at h1
  obtain rfl : m' = m := by omega
  obtain ⟨a, c, rfl, hp⟩ := partsAt_own ho hk
  exact ⟨a, c, rfl, hp.congr fun k _ => (partOf_same he).symm, hb⟩
end
end Go.Proofs.Ytkggphfekeiejaa

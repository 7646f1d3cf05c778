/- Marking by pairs, round by round, with any relation. Plain. gypsumref09.Pinched: false just if all triangles at the vertex hang together there. -/
import Derived.Test.YtknioobpoieohaaGreatFanLaw
import Derived.Test.YtknioobpoieohaaGreatRefSmall
namespace Go.Proofs.YtknioobpoieohaaGreat
set_option linter.unusedVariables false
set_option linter.unusedSimpArgs false
open Go.RowKit
def ClS (S : Nat → Nat → Prop) (n : Nat) (β : Nat → Bool) (i k : Nat) : Prop :=
  ∀ i' k', i' < n → k' < n → (i' < i ∨ i' = i ∧ k' < k) → β i' = true → S i' k' → β k' = true
/-- In round r, ahead of the pair (i, k). -/
structure MInv (S : Nat → Nat → Prop) (n r i k : Nat) (β : Nat → Bool) : Prop where
  root : β 0 = true
  prog : ClS S n β n 0 ∨ (r + 1 ≤ nTrue β n ∧ ClS S n β i k) ∨ r + 2 ≤ nTrue β n
section
variable {S : Nat → Nat → Prop} {n r i k : Nat} {β : Nat → Bool}
theorem MInv.start (h : 0 < n) : MInv S n 0 0 0 (updB (fun _ => false) 0 true) :=
  ⟨by simp [updB], .inr (.inl ⟨by rw [nTrue_set h rfl]; omega, fun _ _ _ _ h => by omega⟩)⟩
theorem MInv.keep (h : MInv S n r i k β) (hno : β i = true → S i k → β k = true) : MInv S n r i (k + 1) β :=
  ⟨h.root, by
    rcases h.prog with p | ⟨p, q⟩ | p
    · exact .inl p
    · refine .inr (.inl ⟨p, fun i' k' hi hk hlt hb hs => ?_⟩)
      by_cases e : i' = i ∧ k' = k
      · obtain ⟨rfl, rfl⟩ := e
        exact hno hb hs
      · exact q i' k' hi hk (by omega) hb hs
    · exact .inr (.inr p)⟩
theorem MInv.mark (h : MInv S n r i k β) (hi : i < n) (hk : k < n) (hb : β i = true) (hn : β k = false) (hs : S i k) : MInv S n r i (k + 1) (updB β k true) :=
  ⟨by unfold updB; split <;> simp [h.root], by
    have hc := nTrue_set (β := β) hk hn
    rcases h.prog with p | ⟨p, _⟩ | p
    · have := p i k hi hk (.inl hi) hb hs
      rw [hn] at this
      cases this
    · exact .inr (.inr (by omega))
    · exact .inr (.inr (by omega))⟩
theorem MInv.row (h : MInv S n r i n β) : MInv S n r (i + 1) 0 β :=
  ⟨h.root, by
    rcases h.prog with p | ⟨p, q⟩ | p
    · exact .inl p
    · exact .inr (.inl ⟨p, fun i' k' hi hk hlt => q i' k' hi hk (by omega)⟩)
    · exact .inr (.inr p)⟩
theorem MInv.round (h : MInv S n r n 0 β) : MInv S n (r + 1) 0 0 β :=
  ⟨h.root, by
    rcases h.prog with p | ⟨_, q⟩ | p
    · exact .inl p
    · exact .inl q
    · exact .inr (.inl ⟨by omega, fun i' k' _ _ h => by omega⟩)⟩
theorem nTrue_top (β : Nat → Bool) (n : Nat) : nTrue β n ≤ n := by
  have := List.countP_le_length (p := β) (l := List.range n)
  simpa [nTrue] using this
theorem MInv.closed (h : MInv S n n 0 0 β) : ClS S n β n 0 := by
  have := nTrue_top β n
  rcases h.prog with p | ⟨p, _⟩ | p
  · exact p
  · omega
  · omega
end
/-- Round a vertex: two of its triangles with another vertex in common, by their places. -/
def PosS (T : List Tr) (v : Int) (I : List Nat) (p q : Nat) : Prop := ∃ j, j < 3 ∧ tg (T! T (I.getD p 0)) j ≠ v ∧ hasB (T! T (I.getD q 0)) (tg (T! T (I.getD p 0)) j) = true
theorem MInv.all {T : List Tr} {v : Int} {β : Nat → Bool} (hsym : ∀ i k, PAdj T v i k → PAdj T v k i) (h : MInv (PosS T v (atV T v T.length)) (atV T v T.length).length (atV T v T.length).length 0 0 β) (hu : Unpinched T v) : ∀ p, p < (atV T v T.length).length → β p = true := by
  intro p hp
  obtain ⟨I, hI⟩ : ∃ I, I = atV T v T.length := ⟨_, rfl⟩
  have mem : ∀ p, p < (atV T v T.length).length → (atV T v T.length).getD p 0 < T.length ∧ hasB (T! T ((atV T v T.length).getD p 0)) v = true := fun p hp => atV_get hp
  have hcl := h.closed
  have idx : ∀ x, x < T.length → hasB (T! T x) v = true → ∃ p, p < (atV T v T.length).length ∧ (atV T v T.length).getD p 0 = x := fun x hx hb => by
    obtain ⟨p, hp⟩ := List.mem_iff_getElem?.1 (atV_mem.2 ⟨hx, hb⟩)
    exact ⟨p, (List.getElem?_eq_some_iff.1 hp).1, by rw [List.getD_eq_getElem?_getD, hp]; rfl⟩
  have inj : ∀ p q, p < (atV T v T.length).length → q < (atV T v T.length).length → (atV T v T.length).getD p 0 = (atV T v T.length).getD q 0 → p = q := fun p q hp hq e => by
    rw [List.getD_eq_getElem?_getD, List.getD_eq_getElem?_getD, List.getElem?_eq_getElem hp, List.getElem?_eq_getElem hq] at e
    exact (List.getElem_inj (atV_nodup T v T.length)).1 (by simpa using e)
  have step : ∀ x y, PAdj T v x y → ∀ p q, p < (atV T v T.length).length → q < (atV T v T.length).length → (atV T v T.length).getD p 0 = x → (atV T v T.length).getD q 0 = y → β p = true → β q = true := fun x y ha p q hp hq ep eq hb => by
    obtain ⟨-, -, -, -, j, hj, h1, h2⟩ := ha
    exact hcl p q hp hq (.inl hp) hb ⟨j, hj, by rw [ep]; exact h1, by rw [ep, eq]; exact h2⟩
  have gen : ∀ x y, Conn (PAdj T v) x y → ∀ p, p < (atV T v T.length).length → (atV T v T.length).getD p 0 = x → β p = true → ∀ q, q < (atV T v T.length).length → (atV T v T.length).getD q 0 = y → β q = true := by
    intro x y c p hp ep hb
    induction c with
    | refl =>
      intro q hq e
      obtain rfl := inj p q hp hq (ep.trans e.symm)
      exact hb
    | @step y z _ h ih =>
      intro q hq e
      obtain ⟨r, hr, er⟩ := idx y h.1 h.2.2.1
      exact step y z h r q hr hq er e (ih r hr er)
    | @back y z _ h ih =>
      intro q hq e
      obtain ⟨r, hr, er⟩ := idx y h.2.1 h.2.2.2.1
      exact step y z (hsym _ _ h) r q hr hq er e (ih r hr er)
  have h0 : 0 < (atV T v T.length).length := by omega
  obtain ⟨a1, a2⟩ := mem 0 h0
  obtain ⟨b1, b2⟩ := mem p hp
  exact gen _ _ (hu _ _ a1 b1 a2 b2) 0 h0 rfl h.root p hp rfl
theorem padj_symm {T : List Tr} {v : Int} : ∀ i k, PAdj T v i k → PAdj T v k i := by
  rintro i k ⟨h1, h2, h3, h4, j, hj, hne, h5⟩
  obtain ⟨j', hj', e⟩ := hasB_iff.1 h5
  exact ⟨h2, h1, h4, h3, j', hj', by rw [e]; exact hne, by rw [e]; exact hasB_iff.2 ⟨j, hj, rfl⟩⟩
def PinchPost (r : Bool) (P : Prop) : Prop := r = false ↔ P
/-- Ahead of corner j of a pair. -/
def PIn (T : List Tr) (v : Int) (I : List Nat) (p q j : Nat) (β γ : Nat → Bool) : Prop :=
  (γ = β ∧ ∀ l, l < j → ¬ (tg (T! T (I.getD p 0)) l ≠ v ∧ hasB (T! T (I.getD q 0)) (tg (T! T (I.getD p 0)) l) = true)) ∨ (γ = updB β q true ∧ PosS T v I p q)
theorem PIn.start (T : List Tr) (v : Int) (I : List Nat) (p q : Nat) (β : Nat → Bool) : PIn T v I p q 0 β β := .inl ⟨rfl, fun l h => by omega⟩
theorem PIn.no {T : List Tr} {v : Int} {I : List Nat} {p q j : Nat} {β γ : Nat → Bool} (h : PIn T v I p q j β γ) (hno : ¬ (tg (T! T (I.getD p 0)) j ≠ v ∧ hasB (T! T (I.getD q 0)) (tg (T! T (I.getD p 0)) j) = true)) : PIn T v I p q (j + 1) β γ := by
  rcases h with ⟨e, h⟩ | h
  · refine .inl ⟨e, fun l hl => ?_⟩
    by_cases q : l = j
    · subst q; exact hno
    · exact h l (by omega)
  · exact .inr h
theorem PIn.yes {T : List Tr} {v : Int} {I : List Nat} {p q j : Nat} {β γ : Nat → Bool} (h : PIn T v I p q j β γ) (hj : j < 3) (h1 : tg (T! T (I.getD p 0)) j ≠ v) (h2 : hasB (T! T (I.getD q 0)) (tg (T! T (I.getD p 0)) j) = true) : PIn T v I p q (j + 1) β (updB γ q true) := by
  refine .inr ⟨?_, j, hj, h1, h2⟩
  rcases h with ⟨e, -⟩ | ⟨e, -⟩
  · rw [e]
  · rw [e]
    funext x
    unfold updB
    split <;> rfl
theorem PIn.stop {T : List Tr} {v : Int} {I : List Nat} {p q r : Nat} {β γ : Nat → Bool} (h : PIn T v I p q 3 β γ) (hm : MInv (PosS T v I) I.length r p q β) (hp : p < I.length) (hq : q < I.length) (hb : β p = true) (hn : β q = false) : MInv (PosS T v I) I.length r p (q + 1) γ := by
  rcases h with ⟨rfl, h⟩ | ⟨rfl, h⟩
  · exact hm.keep fun _ ⟨j, hj, h1, h2⟩ => absurd ⟨h1, h2⟩ (h j hj)
  · exact hm.mark hp hq hb hn h
/-- In the middle of the marking: the marks, and that what is marked is reached. -/
def PSt (T : List Tr) (v : Int) (I : List Nat) (W ws : World) (β : Nat → Bool) : Prop := RowIs ws W.heap.size 4 (bv β I.length) ∧ PInv T v I β ∧ Below W.heap.size W ws
theorem PSt.more {T : List Tr} {v : Int} {I : List Nat} {W ws wt : World} {β : Nat → Bool} (h : PSt T v I W ws β) (hb : Below ws.heap.size ws wt) : PSt T v I W wt β :=
  ⟨h.1.below hb h.1.lt, h.2.1, below_more h.2.2 hb h.2.2.size⟩
theorem len_iff_pos {n : Nat} (h : ¬ n = 0) : ((n : Int) == 0) = false := by simp; omega
set_option maxRecDepth 100000 in
set_option maxHeartbeats 2000000 in
theorem pinched_any (N : Int) (ao : Option Addr) (cap : Nat) (T : List Tr) (v : Int) (w : World) (hT : TrisAt w ao T) (hl : T.length ≤ 10000) :
    Calls Tryz.prog 96 #[.agg #[.int .i64 N, .slice ao T.length cap], .int .i64 v] w fun e w' => ∃ r, e = .returned (.bool r) ∧ PinchPost r (Unpinched T v) ∧ Below w.heap.size w w' := by
  obtain ⟨i0, hi, hz0, hz1, hz2⟩ := info_parts info49
  obtain ⟨len, hlen⟩ : ∃ n, n = T.length := ⟨_, rfl⟩
  rw [← hlen] at hl ⊢
  have HL := Lib.hid hlen
  have HT := Lib.hid (hT.mono (Nat.le_refl _) ((Below.refl _ _).alloc (Nat.le_refl _) (.cells #[.int .i64 N, .slice ao len cap] 24)))
  clear hlen hT
  go_enter Tryz.func96, Tryz.ntmps96
  go_wp2
  go_loopw [6, 5] (fun i u ws => ∃ (k : Nat), k ≤ len ∧ i = .int .i64 k ∧ ws.ownsRow (w.heap.size + 1) 65 3 u (atV T v k).length (tcells ((atV T v k).map (T! T))) ∧
      Below (w.heap.size + 1) (w.alloc (.cells #[.int .i64 N, .slice ao len cap] 24)) ws) (fun i _ _ => len - (intOf i).toNat)
  case atStart => exact ⟨0, by omega, rfl, by exact World.ownsRow_nil _ _ _ _, Below.refl _ _⟩
  case round =>
    obtain ⟨k, hk, rfl, hown, hb⟩ := hrel
    obtain ⟨hc0, hc1, hbw, hsz⟩ := box_soup hb
    have hle := atV_le T v k
    have HW := Lib.hid hown
    have HB := Lib.hid hb
    have HBw := Lib.hid hbw
    clear hbw
    by_cases hlt : k < len
    · obtain ⟨b, off, x, y, z, rfl, ht, g0, g1, g2, hbs, hbs'⟩ := HT.out.get (by simp) HB.out (i := k) (by have := HL.out; omega)
      clear hown hb hbs
      have hct := fun w => has_tri x y z v w
      cases hh : hasB (x, y, z) v
      · rw [hh] at hct
        have HC := Lib.hid hct
        have hE := atV_succ_no (T := T) (v := v) (k := k) (by rw [ht.out]; exact hh)
        have HE := Lib.hid hE
        clear hct hh hE
        go_wp2_with fail
        refine (HC.out _).mono ?_
        rintro e w2 ⟨rfl, hb2⟩
        have HB2 := Lib.hid (below_more HB.out hb2 (by omega))
        have HW2 := Lib.hid (owns_below HW.out hb2)
        clear hb2
        go_wp2
        go_roundw
        case rel => exact ⟨k + 1, by omega, by go_num, by rw [HE.out]; exact HW2.out, HB2.out⟩
        case measure => simp [intOf]; omega
      · rw [hh] at hct
        have HC := Lib.hid hct
        have hE := atV_succ_yes (T := T) (v := v) (k := k) (by rw [ht.out]; exact hh)
        have HE := Lib.hid hE
        clear hct hh hE
        go_wp2_with fail
        refine (HC.out _).mono ?_
        rintro e w2 ⟨rfl, hb2⟩
        have HB2 := Lib.hid (below_more HB.out hb2 (by omega))
        have HW2 := Lib.hid (owns_below HW.out hb2)
        have hs2 := hb2.size
        obtain ⟨hca, hcb⟩ := bcell hb2
        clear hb2
        go_wp2_with (at_builtin; refine wpList_append_new _ rfl _ _ 22 rfl (w.heap.size + 1) 65 i0 _ 3 24 (by kernel_rfl) hi hz0 hz1 hz2 rfl (by decide) _ _ _ rfl HW2.out _ _ _ rfl (by first | rfl | simp) rfl ?_ ?_ ?_ ?_ ?_)
        · exact ⟨rfl, rfl, rfl⟩
        · unfold maxLen; omega
        · omega
        · omega
        · intro v' w3 hown3 hbel hgr
          have HW3 := Lib.hid hown3
          have HB3 := Lib.hid (hbel (w.heap.size + 1) _ (Nat.le_refl _) HB2.out)
          clear hown3 hbel hgr hca hcb
          go_wp2
          go_roundw
          case rel => exact ⟨k + 1, by omega, by go_num, by
            rw [HE.out, List.map_append, List.map_singleton, tcells_snoc, ht.out, List.length_append]
            exact HW3.out, HB3.out⟩
          case measure => simp [intOf]; omega
    · obtain rfl : len = k := by omega
      obtain ⟨W1, rfl⟩ : ∃ W1 : World, W1 = wr := ⟨_, rfl⟩
      obtain ⟨io, icap, rfl, hIT⟩ := owns_tris (L := (atV T v len).map (T! T)) (by simpa using hown)
      rw [List.length_map] at *
      have HI := Lib.hid hIT
      have HmT := Lib.hid (show len = T.length from HL.out)
      clear hown hb hIT HW
      obtain ⟨I, hI⟩ : ∃ I, I = atV T v len := ⟨_, rfl⟩
      rw [← hI] at hle HI ⊢
      have HII := Lib.hid hI
      clear hI
      by_cases hm0 : I.length = 0
      · have HE := Lib.hid (show Unpinched T v from PInv.empty (by rw [← HmT.out, ← HII.out]; exact hm0))
        rw [hm0]
        clear HI hm0
        go_wp2
        go_ret
        exact ⟨false, rfl, ⟨fun _ => HE.out, fun _ => rfl⟩, HBw.out⟩
      · have hm1 := len_iff_pos hm0
        have hmp : 0 < I.length := by omega
        clear hi hz0 hz1 hz2 i0
        obtain ⟨i0, hi, hz0, hz1, hz2⟩ := info_parts info4
        go_wp2_with (at_make; refine wpList_make_full _ rfl _ _ _ rfl W1.heap.size 4 i0 (.bool false) 1 (by kernel_rfl) hi hz0 hz1 _ _ _ _ I.length rfl rfl rfl rfl (by rw [hz2]; omega) (by unfold maxLen; omega) (Nat.le_refl _) ?_)
        intro w2 hown2 hgr2
        rw [madeCells_bv] at hown2
        have hrow := RowIs.of_owns hown2
        have hb2 : Below W1.heap.size W1 w2 := (Below.refl _ _).grown hgr2 (Nat.le_refl _) (by simp)
        have hc0' := hrow.cell (bv_get (fun _ => false) hmp)
        have hf0' := hrow.free 0
        have hr2 := hrow.set 0 (.bool true)
        rw [bv_set] at hr2
        have HS := Lib.hid (show PSt T v I W1 (w2.setCell ⟨W1.heap.size, 0, none⟩ (.bool true)) (updB (fun _ => false) 0 true) from ⟨hr2, PInv.start _ _ _, hb2.setCell (Nat.le_refl _) _⟩)
        clear hown2 hgr2 hrow hb2 hr2 hc0 hc1
        go_wp2
        clear hc0' hf0'
        go_loopw [45] (fun i ws => ∃ (r : Nat) (β : Nat → Bool), r ≤ I.length ∧ i = .int .i64 r ∧ PSt T v I W1 ws β ∧ MInv (PosS T v I) I.length r 0 0 β) (fun i _ => I.length - (intOf i).toNat)
        case atStart => exact ⟨0, _, by omega, rfl, HS.out, MInv.start hmp⟩
        case round =>
          clear HS
          obtain ⟨r, β, hr, rfl, hst, hmi⟩ := hrel
          have HS := Lib.hid hst
          have HMI := Lib.hid hmi
          clear hst hmi
          by_cases hrm : r < I.length
          · go_wp2
            go_loopw [8] (fun i ws => ∃ (p : Nat) (β : Nat → Bool), p ≤ I.length ∧ i = .int .i64 p ∧ PSt T v I W1 ws β ∧ MInv (PosS T v I) I.length r p 0 β) (fun i _ => I.length - (intOf i).toNat)
            case atStart => exact ⟨0, β, by omega, rfl, HS.out, HMI.out⟩
            case round =>
              clear HS HMI
              obtain ⟨p, β, hp, rfl, hst, hmi⟩ := hrel
              have HS := Lib.hid hst
              have HMI := Lib.hid hmi
              clear hst hmi
              by_cases hpm : p < I.length
              · go_wp2
                go_loopw [9] (fun i ws => ∃ (q : Nat) (β : Nat → Bool), q ≤ I.length ∧ i = .int .i64 q ∧ PSt T v I W1 ws β ∧ MInv (PosS T v I) I.length r p q β) (fun i _ => I.length - (intOf i).toNat)
                case atStart => exact ⟨0, β, by omega, rfl, HS.out, HMI.out⟩
                case round =>
                  clear HS HMI
                  obtain ⟨q, β, hq, rfl, hst, hmi⟩ := hrel
                  have HMI := Lib.hid hmi
                  clear hmi
                  by_cases hqm : q < I.length
                  · have hcp := hst.1.cell (bv_get β hpm)
                    have hcq := hst.1.cell (bv_get β hqm)
                    have HS := Lib.hid hst
                    clear hst
                    obtain ⟨x, hx⟩ : ∃ x, Hid (β p = x) := ⟨_, rfl⟩
                    obtain ⟨y, hy⟩ : ∃ y, Hid (β q = y) := ⟨_, rfl⟩
                    rw [hx.out] at hcp
                    rw [hy.out] at hcq
                    cases x
                    · go_wp2
                      go_roundw
                      case rel => exact ⟨q + 1, β, by omega, by go_num, HS.out, HMI.out.keep fun h => by rw [hx.out] at h; cases h⟩
                      case measure => simp [intOf]; omega
                    · cases y
                      · obtain ⟨b, off, hE1, hbI⟩ : ∃ b off, io = some ⟨b, off, none⟩ ∧ b < W1.heap.size := by
                          obtain ⟨b, off, e, -, hb⟩ := HI.out.at (i := 0) (j := 0) (by simpa using hmp) (by omega)
                          exact ⟨b, off, e, hb⟩
                        cases hE1
                        go_wp2
                        clear hcp hcq
                        go_loopw [10] (fun i xs => ∃ (j : Nat) (γ : Nat → Bool), j ≤ 3 ∧ i = .int .i64 j ∧ PSt T v I W1 xs γ ∧ γ p = true ∧ PIn T v I p q j β γ) (fun i _ => 3 - (intOf i).toNat)
                        case atStart => exact ⟨0, β, by omega, rfl, HS.out, hx.out, PIn.start _ _ _ _ _ _⟩
                        case round =>
                          clear HS
                          obtain ⟨j, γ, hj, rfl, hst, hγ, hpin⟩ := hrel
                          have HG := Lib.hid hγ
                          have HP := Lib.hid hpin
                          clear hγ hpin
                          by_cases hj3 : j < 3
                          · obtain ⟨b', off', hE, hcell, -⟩ := HI.out.at (i := p) (j := j) (by simpa using hpm) hj3
                            cases hE
                            obtain ⟨b', off', a1, a2, a3, hE, ht, g0, g1, g2, -, -⟩ := HI.out.get (Nat.le_refl _) hst.2.2 (i := q) (by simpa using hqm)
                            cases hE
                            obtain ⟨u, hu⟩ : ∃ u, Hid (tg (T! (I.map (T! T)) p) j = u) := ⟨_, rfl⟩
                            rw [hu.out] at hcell
                            have hcx := (hst.2.2.cell (p := ⟨b, off + p * 3 + j, none⟩) hbI).trans hcell
                            have hfz := hst.1.free q
                            have hcq := hst.1.cell (bv_get γ hqm)
                            have HS := Lib.hid hst
                            clear hst hcell
                            have HUE := Lib.hid (show tg (T! T (I.getD p 0)) j = u from by have := hu.out; rwa [T!_map I T p hpm] at this)
                            have HTE := Lib.hid (show T! T (I.getD q 0) = (a1, a2, a3) from by have := ht.out; rwa [T!_map I T q hqm] at this)
                            cases huv : u == v
                            · have hne : (u != v) = true := by simp [bne, huv]
                              have hct := fun w => has_tri a1 a2 a3 u w
                              cases hh : hasB (a1, a2, a3) u
                              · rw [hh] at hct
                                have HC := Lib.hid hct
                                have HP2 := Lib.hid (HP.out.no (by rw [HUE.out, HTE.out, hh]; simp))
                                clear hct hh hcq hfz
                                go_wp2_with fail
                                refine (HC.out _).mono ?_
                                rintro e w3 ⟨rfl, hb3⟩
                                have HS3 := Lib.hid (HS.out.more hb3)
                                clear hb3
                                go_wp2
                                go_roundw
                                case rel => exact ⟨j + 1, γ, by omega, by go_num, HS3.out, HG.out, HP2.out⟩
                                case measure => simp [intOf]; omega
                              · have HM := Lib.hid (show PInv T v I (updB γ q true) from by
                                  have h1 := HS.out.2.1
                                  have e1 := hu.out
                                  rw [T!_map I T p hpm] at e1
                                  have e2 := ht.out
                                  rw [T!_map I T q hqm] at e2
                                  have hnv : ¬ u = v := by simpa using huv
                                  have := HII.out
                                  subst this
                                  exact h1.mark (by have := HmT.out; omega) hpm hqm HG.out hj3 (by rw [e1]; exact hnv) (by rw [e1, e2]; exact hh))
                                have HP2 := Lib.hid (HP.out.yes hj3 (by rw [HUE.out]; simpa using huv) (by rw [HUE.out, HTE.out]; exact hh))
                                rw [hh] at hct
                                have HC := Lib.hid hct
                                clear hct hh
                                go_wp2_with fail
                                refine (HC.out _).mono ?_
                                rintro e w3 ⟨rfl, hb3⟩
                                have HS3 := Lib.hid (HS.out.more hb3)
                                have hcq3 := HS3.out.1.cell (bv_get γ hqm)
                                have hfz3 := HS3.out.1.free q
                                have hr4 := HS3.out.1.set q (.bool true)
                                rw [bv_set] at hr4
                                have HS4 := Lib.hid (show PSt T v I W1 (w3.setCell ⟨W1.heap.size, q, none⟩ (.bool true)) (updB γ q true) from ⟨hr4, HM.out, HS3.out.2.2.setCell (Nat.le_refl _) _⟩)
                                have HG4 := Lib.hid (show updB γ q true p = true from by unfold updB; split <;> simp [HG.out])
                                clear hb3 hcq hfz hr4 g0 g1 g2 hcx
                                generalize γ q = gq at *
                                go_wp2
                                go_roundw
                                case rel => exact ⟨j + 1, updB γ q true, by omega, by go_num, HS4.out, HG4.out, HP2.out⟩
                                case measure => simp [intOf]; omega
                            · have hne : (u != v) = false := by simp [bne, huv]
                              have HP2 := Lib.hid (HP.out.no (by rw [HUE.out]; intro h; exact h.1 (by simpa using huv)))
                              clear hcq hfz g0 g1 g2
                              go_wp2
                              go_roundw
                              case rel => exact ⟨j + 1, γ, by omega, by go_num, HS.out, HG.out, HP2.out⟩
                              case measure => simp [intOf]; omega
                          · have HS := Lib.hid hst
                            have HM9 := Lib.hid (show MInv (PosS T v I) I.length r p (q + 1) γ from by
                              obtain rfl : j = 3 := by omega
                              exact HP.out.stop HMI.out hpm hqm hx.out hy.out)
                            clear hst
                            go_wp2
                            go_roundw
                            case rel => exact ⟨q + 1, γ, by omega, by go_num, HS.out, HM9.out⟩
                            case measure => simp [intOf]; omega
                      · go_wp2
                        go_roundw
                        case rel => exact ⟨q + 1, β, by omega, by go_num, HS.out, HMI.out.keep fun _ _ => hy.out⟩
                        case measure => simp [intOf]; omega
                  · have HS := Lib.hid hst
                    have HM9 := Lib.hid (show MInv (PosS T v I) I.length r (p + 1) 0 β from by
                      obtain rfl : q = I.length := by omega
                      exact HMI.out.row)
                    clear hst
                    go_wp2
                    go_roundw
                    case rel => exact ⟨p + 1, β, by omega, by go_num, HS.out, HM9.out⟩
                    case measure => simp [intOf]; omega
              · have HM9 := Lib.hid (show MInv (PosS T v I) I.length (r + 1) 0 0 β from by
                  obtain rfl : p = I.length := by omega
                  exact HMI.out.round)
                go_wp2
                go_roundw
                case rel => exact ⟨r + 1, β, by omega, by go_num, HS.out, HM9.out⟩
                case measure => simp [intOf]; omega
          · have HALL := Lib.hid (show Unpinched T v → ∀ p, p < I.length → β p = true from by
              obtain rfl : r = I.length := by omega
              have h1 := HMI.out
              rw [HII.out, HmT.out] at h1 ⊢
              exact fun hu => h1.all padj_symm hu)
            go_wp2
            go_loopw [12] (fun i xs => ∃ (p : Nat), p ≤ I.length ∧ i = .int .i64 p ∧ PSt T v I W1 xs β ∧ ∀ l, l < p → β l = true) (fun i _ => I.length - (intOf i).toNat)
            case atStart => exact ⟨0, by omega, rfl, HS.out, fun l h => by omega⟩
            case round =>
              clear HS
              obtain ⟨p, hp, rfl, hst, hall⟩ := hrel
              by_cases hpm : p < I.length
              · have hcp := hst.1.cell (bv_get β hpm)
                have HS := Lib.hid hst
                have HA := Lib.hid hall
                clear hst hall
                obtain ⟨x, hx⟩ : ∃ x, Hid (β p = x) := ⟨_, rfl⟩
                rw [hx.out] at hcp
                cases x
                · go_wp2
                  go_ret
                  exact ⟨true, rfl, ⟨(fun h => by cases h), fun hu => by have := HALL.out hu p hpm; rw [hx.out] at this; cases this⟩, below_more HBw.out HS.out.2.2 HBw.out.size⟩
                · go_wp2
                  go_roundw
                  case rel => exact ⟨p + 1, by omega, by go_num, HS.out, fun l hl => by
                    by_cases e : l = p
                    · subst e; exact hx.out
                    · exact HA.out l (by omega)⟩
                  case measure => simp [intOf]; omega
              · have HE := Lib.hid (show Unpinched T v from by
                  have h1 := hst.2.1
                  rw [HII.out, HmT.out] at h1
                  exact h1.stop (fun l hl => hall l (by rw [← HmT.out, ← HII.out] at hl; omega)))
                have HS := Lib.hid hst
                clear hst hall
                go_wp2
                go_ret
                exact ⟨false, rfl, ⟨fun _ => HE.out, fun _ => rfl⟩, below_more HBw.out HS.out.2.2 HBw.out.size⟩
end Go.Proofs.YtknioobpoieohaaGreat

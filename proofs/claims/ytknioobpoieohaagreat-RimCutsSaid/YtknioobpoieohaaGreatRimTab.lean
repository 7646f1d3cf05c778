/- rim.table: of a surface: its table, if the bays fit. -/
import Derived.Test.YtknioobpoieohaaGreatIntsDef
import Derived.Test.YtknioobpoieohaaGreatCornerNew
import Derived.Test.YtknioobpoieohaaGreatShelf
namespace Go.Proofs.YtknioobpoieohaaGreat
set_option linter.unusedVariables false
set_option linter.unusedSimpArgs false
open Go.RowKit Go.Lib
/-- The bays of so many triangles. -/
def BaysOK (n : Nat) (bays : List Int) : Prop := bays.length = n ∧ ∀ b ∈ bays, 0 ≤ b ∧ b < 256
def badBay (b : Int) : Bool := decide (b < 0) || decide (256 ≤ b)
theorem bays_any {bays : List Int} : bays.any badBay = false ↔ ∀ b ∈ bays, 0 ≤ b ∧ b < 256 := by
  rw [List.any_eq_false]
  constructor
  · intro h b hb
    have := h b hb
    simp [badBay] at this
    omega
  · intro h b hb
    have := h b hb
    simp [badBay]
    omega
set_option maxHeartbeats 400000 in
theorem badbay_any (b : Int) (W : World) : Calls Tryz.prog 65 #[.int .i64 b] W fun e w' => e = .returned (.bool (badBay b)) ∧ ∃ q, w' = W.drewN q := by
  obtain ⟨r, hr⟩ : ∃ r, r = badBay b := ⟨_, rfl⟩
  rw [← hr]
  unfold badBay at hr
  cases h1 : decide (b < 0) <;> cases h2 : decide (256 ≤ b) <;> simp only [h1, h2, Bool.or_false, Bool.or_true] at hr <;> subst hr
  all_goals
    have h3 : decide (b ≥ 256) = _ := h2
    go_enter Tryz.func65, Tryz.ntmps65
    go_wp2
    go_ret
    exact ⟨rfl, 0, rfl⟩
theorem contains_bad (bo : Option Addr) (cap : Nat) (bays : List Int) (w : World) (hB : IntsAt w bo bays) (hl : bays.length ≤ 100000) :
    Calls Tryz.prog 64 #[.slice bo bays.length cap, .func (.func 65) #[] #[]] w fun e w' => e = .returned (.bool (bays.any badBay)) ∧ Below w.heap.size w w' := by
  by_cases h0 : bays = []
  · subst h0
    exact (AnyE.slices_ContainsFunc_empty Tryz.laysContainsF bo cap _ w).mono fun e w' ⟨h1, h2⟩ => ⟨h1, by rw [h2]; exact Below.refl _ _⟩
  · obtain ⟨b, off, rfl, hlt, hc⟩ := hB h0
    have h := AnyE.slices_ContainsFunc Tryz.laysContainsF (Value.int .i64) badBay 65 #[] (enters_of Tryz.func65 (by kernel_rfl) rfl) b off bays.length cap bays w (fun W x _ => badbay_any x W) (Nat.le_refl _) (by omega) (fun j hj => by
      rw [hc j hj]
      unfold I!
      simp [List.getD_eq_getElem?_getD, hj])
    change Calls Tryz.prog 64 _ _ _ at h
    refine h.mono fun e w' ⟨h1, q, h2⟩ => ⟨by rw [h1, List.take_length], ?_⟩
    rw [h2]
    exact ⟨rfl, rfl, rfl, Nat.le_refl _, fun _ _ => rfl⟩
def TabPost (N : Int) (T : List Tr) (bays : List Int) (w : World) (e : Ending) (w' : World) : Prop :=
  ((BaysOK T.length bays ∧ ∃ p, e = .returned (.tuple #[.pointer (some ⟨p, 0, none⟩), .int .i64 0]) ∧ w.heap.size ≤ p ∧ Tab w' p N T) ∨ (¬ BaysOK T.length bays ∧ e = .returned (.tuple #[.pointer none, .int .i64 1]))) ∧ Below w.heap.size w w'
set_option maxRecDepth 100000 in
set_option maxHeartbeats 1000000 in
theorem table_ok (N : Int) (ao : Option Addr) (cap : Nat) (T : List Tr) (bo : Option Addr) (bcap : Nat) (bays : List Int) (w : World) (hT : TrisAt w ao T) (hB : IntsAt w bo bays) (hs : Surf N T) (hl : bays.length ≤ 100000) :
    Calls Tryz.prog 32 #[.agg #[.int .i64 N, .slice ao T.length cap], .slice bo bays.length bcap] w (TabPost N T bays w) := by
  obtain ⟨W0, hW0⟩ : ∃ W0, W0 = w.alloc (.cells #[.int .i64 N, .slice ao T.length cap] 24) := ⟨_, rfl⟩
  have hb0 : Below w.heap.size w W0 := by rw [hW0]; exact (Below.refl _ _).alloc (Nat.le_refl _) _
  have hr0 : RowIs W0 w.heap.size 24 [.int .i64 N, .slice ao T.length cap] := by rw [hW0]; exact RowIs.made w 24 [.int .i64 N, .slice ao T.length cap]
  have HC := Lib.hid (new_ok N ao cap T W0 (hT.mono (Nat.le_refl _) hb0) hs)
  have HBY := Lib.hid (hB.mono (Nat.le_refl _) hb0)
  have HCF := Lib.hid (fun (W : World) (h : IntsAt W bo bays) => contains_bad bo bcap bays W h hl)
  obtain ⟨len, hlen⟩ : ∃ n, n = T.length := ⟨_, rfl⟩
  obtain ⟨bl, hbl⟩ : ∃ n, n = bays.length := ⟨_, rfl⟩
  have hw1 : w.heap.size < W0.heap.size := hr0.lt
  have HR0 := Lib.hid hr0
  have HB0 := Lib.hid hb0
  have HT := Lib.hid (show len ≤ 10000 from by rw [hlen]; have := hs.t1; omega)
  rw [← hlen] at hW0 HC HR0 ⊢
  rw [← hbl] at HCF hl ⊢
  have HL := Lib.hid hlen
  have HBL := Lib.hid hbl
  have HW0 := Lib.hid hW0
  clear hT hB hb0 hr0 hW0 hlen hbl
  go_enter Tryz.func32, Tryz.ntmps32
  go_upto_region 1 with fail
  rw [← HW0.out]
  have c0 := HR0.out.cell (i := 0) rfl
  have c1 := HR0.out.cell (i := 1) rfl
  go_wp2_with fail
  refine HC.out.mono ?_
  rintro e w1 ⟨p, rfl, hp, htab, hb1⟩
  have HB1 := Lib.hid (below_more HB0.out hb1 HB0.out.size)
  have HR1 := Lib.hid (HR0.out.below hb1 HR0.out.lt)
  have HBY1 := Lib.hid (HBY.out.mono (Nat.le_refl _) hb1)
  have HTB := Lib.hid htab
  have HP := Lib.hid (show w.heap.size ≤ p from by omega)
  have hsz := hb1.size
  clear htab hb1 hp c0 c1
  obtain ⟨W2, hW2⟩ : ∃ W2, W2 = w1.alloc (.cells #[.int .i64 0, .int .i64 0, .int .i64 0] 87) := ⟨_, rfl⟩
  have hb2 : Below w1.heap.size w1 W2 := by rw [hW2]; exact (Below.refl _ _).alloc (Nat.le_refl _) _
  have HB2 := Lib.hid (below_more HB1.out hb2 (by omega))
  have hr2 := HR1.out.below hb2 HR1.out.lt
  have c1 := hr2.cell (i := 1) rfl
  have HTB2 := Lib.hid (HTB.out.mono (Nat.le_refl _) hb2)
  have HBY2 := Lib.hid (HBY1.out.mono (Nat.le_refl _) hb2)
  have HW2 := Lib.hid hW2
  clear hb2 hr2 hW2
  go_upto_region 4 with fail
  rw [← HW2.out]
  by_cases hne : bl = len
  · have hd : ((bl : Int) != (len : Int)) = false := by simp; omega
    have hd2 : (bl != len) = false := by simpa using hne
    have HC3 := Lib.hid (HCF.out W2 HBY2.out)
    cases hany : bays.any badBay
    · rw [hany] at HC3
      have HK := Lib.hid (show BaysOK T.length bays from ⟨by rw [← HBL.out, ← HL.out]; exact hne, bays_any.1 hany⟩)
      subst hne
      clear hany
      go_wp2_with fail
      refine HC3.out.mono ?_
      rintro e w3 ⟨rfl, hb3⟩
      have HF := Lib.hid (show TabPost N T bays w (.returned (.tuple #[.pointer (some ⟨p, 0, none⟩), .int .i64 0])) w3 from ⟨.inl ⟨HK.out, p, rfl, HP.out, HTB2.out.mono (Nat.le_refl _) hb3⟩, below_more HB2.out hb3 HB2.out.size⟩)
      clear hb3
      go_wp2
      exact bodyPost_ret (v := .tuple #[.pointer (some ⟨p, 0, none⟩), .int .i64 0]) (by simp [results, Tryz.results32, go_sem]) rfl HF.out
    · rw [hany] at HC3
      have HK := Lib.hid (show ¬ BaysOK T.length bays from fun h => by rw [bays_any.2 h.2] at hany; cases hany)
      subst hne
      clear hany
      go_wp2_with fail
      refine HC3.out.mono ?_
      rintro e w3 ⟨rfl, hb3⟩
      have HF := Lib.hid (show TabPost N T bays w (.returned (.tuple #[.pointer none, .int .i64 1])) w3 from ⟨.inr ⟨HK.out, rfl⟩, below_more HB2.out hb3 HB2.out.size⟩)
      clear hb3
      go_wp2
      exact bodyPost_ret (v := .tuple #[.pointer none, .int .i64 1]) (by simp [results, Tryz.results32, go_sem]) rfl HF.out
  · have hd : ((bl : Int) != (len : Int)) = true := by simp; omega
    have hd2 : (bl != len) = true := by simpa using hne
    have HK := Lib.hid (show ¬ BaysOK T.length bays from fun h => hne (by rw [HBL.out, HL.out]; exact h.1))
    have HF := Lib.hid (show TabPost N T bays w (.returned (.tuple #[.pointer none, .int .i64 1])) W2 from ⟨.inr ⟨HK.out, rfl⟩, HB2.out⟩)
    clear hne
    go_wp2
    exact bodyPost_ret (v := .tuple #[.pointer none, .int .i64 1]) (by simp [results, Tryz.results32, go_sem]) rfl HF.out
end Go.Proofs.YtknioobpoieohaaGreat

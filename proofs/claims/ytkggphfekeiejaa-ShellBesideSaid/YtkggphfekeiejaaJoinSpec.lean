/- What parts come to when put together, in plain words; rows of rows in memory. shell.right, shell.each, shell.twice. shell.twice. -/
import Derived.Test.YtkggphfekeiejaaPartSpec
import Derived.Test.YtkggphfekeiejaaCertPinch
import Derived.Test.YtkggphfekeiejaaCert1
namespace Go.Proofs.Ytkggphfekeiejaa
set_option linter.unusedVariables false
set_option linter.unusedSimpArgs false
open Go.RowKit
/-- Rows one behind the other, up to place i of row k. -/
def pre (X : Nat → List Int) (k i : Nat) : List Int := gather X k ++ (X k).take i
theorem pre_zero (X : Nat → List Int) (k : Nat) : pre X k 0 = gather X k := by simp [pre]
theorem pre_succ (X : Nat → List Int) {k i : Nat} (h : i < (X k).length) : pre X k (i + 1) = pre X k i ++ [I! (X k) i] := by
  unfold pre
  rw [List.take_add_one, I!_get h, List.append_assoc]
  rfl
theorem pre_full (X : Nat → List Int) (k : Nat) : pre X k (X k).length = gather X (k + 1) := by simp [pre, gather_succ]
theorem gather_mem {X : Nat → List Int} {m : Nat} {x : Int} : x ∈ gather X m ↔ ∃ k, k < m ∧ x ∈ X k := by simp [gather]
theorem gather_sub {X : Nat → List Int} {a b : Nat} (h : a ≤ b) : (gather X a).Sublist (gather X b) := by
  induction b with
  | zero => obtain rfl : a = 0 := by omega
            exact List.Sublist.refl _
  | succ b ih =>
    by_cases e : a = b + 1
    · subst e; exact List.Sublist.refl _
    · rw [gather_succ]; exact (ih (by omega)).trans (List.sublist_append_left _ _)
theorem pre_sub {X : Nat → List Int} {k i m : Nat} (h : k < m) : (pre X k i).Sublist (gather X m) := by
  refine List.Sublist.trans ?_ (gather_sub (show k + 1 ≤ m from h))
  rw [gather_succ]
  exact List.Sublist.append (List.Sublist.refl _) (List.take_sublist _ _)
theorem mem_I {xs : List Int} {x : Int} : x ∈ xs ↔ ∃ i, i < xs.length ∧ I! xs i = x := by
  constructor
  · intro h
    obtain ⟨i, hi, e⟩ := List.getElem_of_mem h
    exact ⟨i, hi, by simp [I!, List.getD_eq_getElem?_getD, List.getElem?_eq_getElem hi, e]⟩
  · rintro ⟨i, hi, e⟩
    have := I!_get hi
    rw [e] at this
    exact List.mem_of_getElem? this
/-- A part has as many numbers as it should. -/
def RightP (N : Int) (S : List Tr) (lV lT : Nat) : Prop := S.length = lT ∧ N = (lV : Int) ∧ ∀ i, i < S.length → ∀ j, j < 3 → 0 ≤ tg (T! S i) j ∧ tg (T! S i) j < N
/-- All of them in bounds. -/
def InR (X : Nat → List Int) (m : Nat) (n : Int) : Prop := ∀ x, x ∈ gather X m → 0 ≤ x ∧ x < n
/-- One part's triangles, laid by its numbers. -/
def mapped (P : PartV) (i : Nat) : Tr := (I! P.V (T! P.S i).1.toNat, I! P.V (T! P.S i).2.1.toNat, I! P.V (T! P.S i).2.2.toNat)
def updT (f : Nat → Tr) (x : Nat) (t : Tr) : Nat → Tr := fun y => if y = x then t else f y
def jpart (P : PartV) (f : Nat → Tr) : Nat → (Nat → Tr)
  | 0 => f
  | i + 1 => updT (jpart P f i) (I! P.T i).toNat (mapped P i)
def jall (P : Nat → PartV) : Nat → (Nat → Tr)
  | 0 => fun _ => (0, 0, 0)
  | k + 1 => jpart (P k) (jall P k) (P k).T.length
def allT (P : Nat → PartV) (m : Nat) : List Int := gather (fun k => (P k).T) m
def allV (P : Nat → PartV) (m : Nat) : List Int := gather (fun k => (P k).V) m
def RightAll (P : Nat → PartV) (m : Nat) : Prop := ∀ k, k < m → RightP (P k).N (P k).S (P k).V.length (P k).T.length
def InAll (P : Nat → PartV) (m : Nat) : Prop := InR (fun k => (P k).T) m ((allT P m).length : Nat) ∧ InR (fun k => (P k).V) m ((allV P m).length : Nat)
def OnceAll (P : Nat → PartV) (m : Nat) : Prop := (allT P m).Nodup ∧ (allV P m).Nodup
open Classical in
/-- The error's number. -/
noncomputable def jcode (P : Nat → PartV) (m : Nat) : Int := if RightAll P m then if InAll P m then if OnceAll P m then 0 else 9 else 2 else 1
/-- What comes of them. -/
def JRes (P : Nat → PartV) (m : Nat) (N : Int) (T : List Tr) : Prop := N = ((allV P m).length : Nat) ∧ T = (List.range (allT P m).length).map (jall P m)
/-- A truth, and what it tells. -/
def BoolSays (e : Ending) (P : Prop) : Prop := ∃ r, e = .returned (.bool r) ∧ (r = true ↔ P)
theorem boolSays_true {P : Prop} (h : P) : BoolSays (.returned (.bool true)) P := ⟨true, rfl, fun _ => h, fun _ => rfl⟩
theorem boolSays_false {P : Prop} (h : ¬ P) : BoolSays (.returned (.bool false)) P := ⟨false, rfl, fun e => by simp at e, fun e => absurd e h⟩
/-- An error's number. -/
def ErrSays (e : Ending) (P : Prop) (c : Int) : Prop := ∃ r, e = .returned (.int .i64 r) ∧ (P ∧ r = 0 ∨ ¬ P ∧ r = c)
theorem errSays_ok {P : Prop} {c : Int} (h : P) : ErrSays (.returned (.int .i64 0)) P c := ⟨0, rfl, .inl ⟨h, rfl⟩⟩
theorem errSays_no {P : Prop} {c : Int} (h : ¬ P) : ErrSays (.returned (.int .i64 c)) P c := ⟨c, rfl, .inr ⟨h, rfl⟩⟩
/-- Rows lie in a row. -/
def RowsAt (w : World) (ao : Option Addr) (X : Nat → List Int) (m : Nat) : Prop :=
  0 < m → ∃ b, ao = some ⟨b, 0, none⟩ ∧ b < w.heap.size ∧ ∀ k, k < m → ∃ aoX cX, w.cell? ⟨b, k, none⟩ = some (.slice aoX (X k).length cX) ∧ IntsAt w aoX (X k)
theorem RowsAt.mono {w w' : World} {ao : Option Addr} {X : Nat → List Int} {m : Nat} (h : RowsAt w ao X m) (hb : Below w.heap.size w w') : RowsAt w' ao X m := fun h0 => by
  obtain ⟨b, e, hlt, hk⟩ := h h0
  refine ⟨b, e, by have := hb.size; omega, fun k hk' => ?_⟩
  obtain ⟨aoX, cX, h1, h2⟩ := hk k hk'
  exact ⟨aoX, cX, (hb.cell (p := ⟨b, _, none⟩) hlt).trans h1, h2.mono (Nat.le_refl _) hb⟩
set_option maxRecDepth 100000 in
set_option maxHeartbeats 1500000 in
theorem right_any (N : Int) (S : List Tr) (lV lT : Nat) (aoS aoV aoT : Option Addr) (cS cV cT : Nat) (w : World) (hl : S.length ≤ 100000) (hS : TrisAt w aoS S) :
    Calls Try.prog 43 #[.agg #[.int .i64 N, .slice aoS S.length cS, .slice aoV lV cV, .slice aoT lT cT]] w fun e w' => BoolSays e (RightP N S lV lT) ∧ Below w.heap.size w w' := by
  obtain ⟨n, hn⟩ : ∃ n, n = S.length := ⟨_, rfl⟩
  rw [← hn] at hl ⊢
  have HB0 := Lib.hid (show Below w.heap.size w (w.alloc (.cells #[.int .i64 N, .slice aoS n cS, .slice aoV lV cV, .slice aoT lT cT] 40)) from (Below.refl _ _).alloc (Nat.le_refl _) _)
  have HX := Lib.hid (RowIs.made w 40 [.int .i64 N, .slice aoS n cS, .slice aoV lV cV, .slice aoT lT cT])
  have HS := Lib.hid (hS.mono (Nat.le_refl _) HB0.out)
  have HN := Lib.hid hn
  have hxl := HX.out.lt
  clear hS hn
  by_cases h1 : n = lT
  case neg =>
    have hb1 : (n != lT) = true := by simp [h1]
    have hb2 : (n == lT) = false := by simp [h1]
    clear h1
    go_enter Try.func43, Try.ntmps43
    go_wp2
    exact bodyPost_ret (v := .bool false) (by simp [results, Try.results43, go_sem]) rfl ⟨boolSays_false fun h => by simp at hb1; exact absurd (HN.out.trans h.1) hb1, HB0.out⟩
  case pos =>
  subst h1
  by_cases h2 : N = (lV : Int)
  case neg =>
    have hb1 : (N != (lV : Int)) = true := by simp [h2]
    have hb2 : (N == (lV : Int)) = false := by simp [h2]
    clear h2
    go_enter Try.func43, Try.ntmps43
    go_wp2
    exact bodyPost_ret (v := .bool false) (by simp [results, Try.results43, go_sem]) rfl ⟨boolSays_false fun h => by simp at hb1; exact absurd h.2.1 hb1, HB0.out⟩
  case pos =>
  subst h2
  go_enter Try.func43, Try.ntmps43
  go_wp2
  obtain ⟨W0, hW0⟩ : ∃ W0, W0 = w.alloc (.cells #[.int .i64 (lV : Int), .slice aoS n cS, .slice aoV lV cV, .slice aoT n cT] 40) := ⟨_, rfl⟩
  rw [← hW0] at HB0 HX HS hxl ⊢
  clear hW0
  go_loopw [28] (fun i ws => ∃ k : Nat, k ≤ n ∧ i = .int .i64 k ∧ (∀ i, i < k → ∀ j, j < 3 → 0 ≤ tg (T! S i) j ∧ tg (T! S i) j < (lV : Int)) ∧ Below W0.heap.size W0 ws) (fun i _ => n - (intOf i).toNat)
  case atStart => exact ⟨0, by omega, rfl, fun i h => by omega, Below.refl _ _⟩
  case round =>
    obtain ⟨k, hk, rfl, hall, hb⟩ := hrel
    obtain ⟨W1, rfl⟩ : ∃ W1 : World, W1 = wr := ⟨_, rfl⟩
    have HA := Lib.hid hall
    have HB := Lib.hid hb
    clear hall
    by_cases hlt : k < n
    · obtain ⟨b, off, x, y, z, rfl, ht, g0, g1, g2, -, -⟩ := HS.out.get (Nat.le_refl _) hb (i := k) (by have := HN.out; omega)
      have HT := Lib.hid ht.out
      clear ht hb
      go_wp2
      obtain ⟨W2, hW2⟩ : ∃ W2, W2 = W1.alloc (.cells #[.int .i64 x, .int .i64 y, .int .i64 z] 49) := ⟨_, rfl⟩
      have HB2 := Lib.hid (show Below W0.heap.size W0 W2 from by rw [hW2]; exact HB.out.alloc HB.out.size _)
      have HX2 := Lib.hid (HX.out.after HB2.out)
      rw [← hW2]
      clear hW2 g0 g1 g2
      go_loopw [33] (fun i ws => ∃ j : Nat, j ≤ 3 ∧ i = .int .i64 j ∧ (∀ l, l < j → 0 ≤ tg (x, y, z) l ∧ tg (x, y, z) l < (lV : Int)) ∧ ws = W2) (fun i _ => 3 - (intOf i).toNat)
      case atStart => exact ⟨0, by omega, rfl, fun l h => by omega, rfl⟩
      case round =>
        obtain ⟨j, hj, rfl, hdone, rfl⟩ := hrel
        obtain ⟨W2, rfl⟩ : ∃ W2 : World, W2 = wr := ⟨_, rfl⟩
        have HD := Lib.hid hdone
        clear hdone
        by_cases hj3 : j < 3
        · have hix := index_tri x y z j hj3
          have c0 := HX2.out.cell (i := 0) rfl
          obtain ⟨v, hv⟩ : ∃ v, v = tg (x, y, z) j := ⟨_, rfl⟩
          rw [← hv] at hix
          by_cases q0 : v < 0
          · have hd : decide (v < 0) = true := by simpa using q0
            go_wp2
            refine bodyPost_ret (v := .bool false) (by simp [results, Try.results43, go_sem]) rfl ⟨boolSays_false fun h => ?_, HB0.out.trans (HB2.out.mono HB0.out.size)⟩
            have := (h.2.2 k (by have := HN.out; omega) j hj3).1
            rw [HT.out, ← hv] at this
            omega
          · have hd : decide (v < 0) = false := by simpa using q0
            by_cases q1 : v ≥ (lV : Int)
            · have hd1 : decide (v ≥ (lV : Int)) = true := by simpa using q1
              go_wp2
              refine bodyPost_ret (v := .bool false) (by simp [results, Try.results43, go_sem]) rfl ⟨boolSays_false fun h => ?_, HB0.out.trans (HB2.out.mono HB0.out.size)⟩
              have := (h.2.2 k (by have := HN.out; omega) j hj3).2
              rw [HT.out, ← hv] at this
              omega
            · have hd1 : decide (v ≥ (lV : Int)) = false := by simpa using q1
              have HD' := Lib.hid (show ∀ l, l < j + 1 → 0 ≤ tg (x, y, z) l ∧ tg (x, y, z) l < (lV : Int) from fun l hl => by
                by_cases e : l = j
                · subst e; rw [← hv]; omega
                · exact HD.out l (by omega))
              clear hv q0 q1
              go_wp2
              go_roundw
              case rel => exact ⟨j + 1, by omega, by go_num, HD'.out, by trivial⟩
              case measure => simp [intOf]; omega
        · obtain rfl : j = 3 := by omega
          have HA' := Lib.hid (show ∀ i, i < k + 1 → ∀ j, j < 3 → 0 ≤ tg (T! S i) j ∧ tg (T! S i) j < (lV : Int) from fun i hi j hj => by
            by_cases e : i = k
            · subst e; rw [HT.out]; exact HD.out j hj
            · exact HA.out i (by omega) j hj)
          go_wp2
          go_roundw
          case rel => exact ⟨k + 1, by omega, by go_num, HA'.out, HB2.out⟩
          case measure => simp [intOf]; omega
    · obtain rfl : k = n := by omega
      clear hb
      go_wp2
      exact bodyPost_ret (v := .bool true) (by simp [results, Try.results43, go_sem]) rfl ⟨boolSays_true ⟨HN.out.symm, rfl, fun i hi j hj => HA.out i (by have := HN.out; omega) j hj⟩, HB0.out.trans (HB.out.mono HB0.out.size)⟩
set_option maxRecDepth 100000 in
set_option maxHeartbeats 1500000 in
theorem each_any (n : Int) (X : Nat → List Int) (m cap : Nat) (ao : Option Addr) (w : World) (hm : m ≤ 100000) (hl : ∀ k, k < m → (X k).length ≤ 100000) (hX : RowsAt w ao X m) :
    Calls Try.prog 44 #[.int .i64 n, .slice ao m cap] w fun e w' => ErrSays e (InR X m n) 2 ∧ Below w.heap.size w w' := by
  have HX := Lib.hid hX
  have HL := Lib.hid hl
  clear hX hl
  go_enter Try.func44, Try.ntmps44
  go_wp2
  go_loopw [11] (fun i ws => ∃ k : Nat, k ≤ m ∧ i = .int .i64 k ∧ (∀ x, x ∈ gather X k → 0 ≤ x ∧ x < n) ∧ ws = w) (fun i _ => m - (intOf i).toNat)
  case atStart => exact ⟨0, by omega, rfl, fun x h => by simp [gather] at h, rfl⟩
  case round =>
    obtain ⟨k, hk, rfl, hall, rfl⟩ := hrel
    obtain ⟨w, rfl⟩ : ∃ w : World, w = wr := ⟨_, rfl⟩
    have HA := Lib.hid hall
    clear hall
    by_cases hlt : k < m
    · obtain ⟨b, rfl, hbl, hrows⟩ := HX.out (by omega)
      obtain ⟨aoX, cX, c0, hxs⟩ := hrows k hlt
      have HI := Lib.hid hxs
      have hlen := HL.out k hlt
      obtain ⟨l, hle⟩ : ∃ l, l = (X k).length := ⟨_, rfl⟩
      rw [← hle] at c0 hlen
      have HLE := Lib.hid hle
      clear hxs hrows hle
      go_wp2
      clear c0
      go_loopw [17] (fun i ws => ∃ q : Nat, q ≤ l ∧ i = .int .i64 q ∧ (∀ x, x ∈ (X k).take q → 0 ≤ x ∧ x < n) ∧ ws = w) (fun i _ => l - (intOf i).toNat)
      case atStart => exact ⟨0, by omega, rfl, fun x h => by simp at h, rfl⟩
      case round =>
        obtain ⟨q, hq, rfl, hdone, rfl⟩ := hrel
        obtain ⟨w, rfl⟩ : ∃ w : World, w = wr := ⟨_, rfl⟩
        have HD := Lib.hid hdone
        clear hdone
        by_cases hql : q < l
        · obtain ⟨xb, xo, v, rfl, hv, g0, -, -⟩ := HI.out.get (Nat.le_refl _) (Below.refl _ _) (i := q) (by have := HLE.out; omega)
          have HV := Lib.hid hv.out
          have HM := Lib.hid (show v ∈ gather X m from gather_mem.2 ⟨k, hlt, mem_I.2 ⟨q, by have := HLE.out; omega, hv.out⟩⟩)
          clear hv
          by_cases q0 : v < 0
          · have hd : decide (v < 0) = true := by simpa using q0
            have HF := Lib.hid (show ¬ InR X m n from fun h => by have := (h v HM.out).1; omega)
            go_wp2
            exact bodyPost_ret (v := .int .i64 2) (by simp [results, Try.results44, go_sem]) rfl ⟨errSays_no HF.out, Below.refl _ _⟩
          · have hd : decide (v < 0) = false := by simpa using q0
            by_cases q1 : v ≥ n
            · have hd1 : decide (v ≥ n) = true := by simpa using q1
              have HF := Lib.hid (show ¬ InR X m n from fun h => by have := (h v HM.out).2; omega)
              go_wp2
              exact bodyPost_ret (v := .int .i64 2) (by simp [results, Try.results44, go_sem]) rfl ⟨errSays_no HF.out, Below.refl _ _⟩
            · have hd1 : decide (v ≥ n) = false := by simpa using q1
              have HD' := Lib.hid (show ∀ x, x ∈ (X k).take (q + 1) → 0 ≤ x ∧ x < n from fun x hx => by
                rw [List.take_add_one, I!_get (by have := HLE.out; omega), HV.out] at hx
                rcases List.mem_append.1 hx with h | h
                · exact HD.out x h
                · simp at h; subst h; omega)
              clear q0 q1
              go_wp2
              go_roundw
              case rel => exact ⟨q + 1, by omega, by go_num, HD'.out, by trivial⟩
              case measure => simp [intOf]; omega
        · obtain rfl : q = l := by omega
          have HA' := Lib.hid (show ∀ x, x ∈ gather X (k + 1) → 0 ≤ x ∧ x < n from fun x hx => by
            rw [gather_succ] at hx
            rcases List.mem_append.1 hx with h | h
            · exact HA.out x h
            · exact HD.out x (by rw [HLE.out, List.take_length]; exact h))
          go_wp2
          go_roundw
          case rel => exact ⟨k + 1, by omega, by go_num, HA'.out, by trivial⟩
          case measure => simp [intOf]; omega
    · obtain rfl : k = m := by omega
      go_wp2
      exact bodyPost_ret (v := .int .i64 0) (by simp [results, Try.results44, go_sem]) rfl ⟨errSays_ok HA.out, Below.refl _ _⟩
/-- Marked is what was seen, each once. -/
def Marks (β : Nat → Bool) (L : List Int) : Prop := (∀ x : Nat, β x = true ↔ (x : Int) ∈ L) ∧ L.Nodup
theorem Marks.start : Marks (fun _ => false) [] := ⟨fun x => by simp, List.nodup_nil⟩
theorem Marks.step {β : Nat → Bool} {L : List Int} (h : Marks β L) {x : Nat} (hx : β x = false) : Marks (updB β x true) (L ++ [(x : Int)]) := by
  obtain ⟨h1, h2⟩ := h
  refine ⟨fun y => ?_, ?_⟩
  · unfold updB
    by_cases e : y = x
    · subst e; simp
    · rw [if_neg e, h1 y]
      simp; omega
  · have hn : (x : Int) ∉ L := fun hm => by have := (h1 x).2 hm; rw [hx] at this; cases this
    rw [List.nodup_append]
    exact ⟨h2, by simp, fun a ha b hb => by simp at hb; subst hb; exact fun e => hn (e ▸ ha)⟩
theorem Marks.no {β : Nat → Bool} {L : List Int} (h : Marks β L) {x : Nat} (hx : β x = true) : ¬ (L ++ [(x : Int)]).Nodup := by
  intro hn
  rw [List.nodup_append] at hn
  exact hn.2.2 _ ((h.1 x).1 hx) (x : Int) (by simp) rfl
set_option maxRecDepth 100000 in
set_option maxHeartbeats 1500000 in
theorem twice_any (n : Nat) (X : Nat → List Int) (m cap : Nat) (ao : Option Addr) (w : World) (hn : n ≤ 100000) (hm : m ≤ 100000) (hl : ∀ k, k < m → (X k).length ≤ 100000) (hX : RowsAt w ao X m) (hr : InR X m (n : Int)) :
    Calls Try.prog 45 #[.int .i64 (n : Int), .slice ao m cap] w fun e w' => BoolSays e (¬ (gather X m).Nodup) ∧ Below w.heap.size w w' := by
  obtain ⟨i0, hi, hz0, hz1, hz2⟩ := info_parts info4
  have HX := Lib.hid hX
  have HL := Lib.hid hl
  have HI := Lib.hid hr
  clear hX hl hr
  go_enter Try.func45, Try.ntmps45
  go_wp2_with (at_make; refine wpList_make_full _ rfl _ _ _ rfl w.heap.size 4 i0 (.bool false) 1 (by kernel_rfl) hi hz0 hz1 _ _ _ _ n rfl rfl rfl rfl (by rw [hz2]; omega) (by unfold maxLen; omega) (Nat.le_refl _) ?_)
  intro w1 hown hgr
  rw [madeCells_bv] at hown
  have hrow := RowIs.of_owns hown
  have HB1 := Lib.hid (show Below w.heap.size w w1 from (Below.refl _ _).grown hgr (Nat.le_refl _) (by simp))
  have HR := Lib.hid hrow
  clear hown hgr hrow hi hz0 hz1 hz2
  go_wp2
  go_loopw [14] (fun i ws => ∃ (k : Nat) (β : Nat → Bool), k ≤ m ∧ i = .int .i64 k ∧ RowIs ws w.heap.size 4 (bv β n) ∧ Marks β (gather X k) ∧ Below w.heap.size w ws) (fun i _ => m - (intOf i).toNat)
  case atStart => exact ⟨0, _, by omega, rfl, HR.out, Marks.start, HB1.out⟩
  case round =>
    clear HR HB1
    obtain ⟨k, β, hk, rfl, hrow, hmk, hb⟩ := hrel
    obtain ⟨W1, rfl⟩ : ∃ W1 : World, W1 = wr := ⟨_, rfl⟩
    have HR := Lib.hid hrow
    have HB := Lib.hid hb
    have HM := Lib.hid hmk
    clear hrow hmk
    by_cases hlt : k < m
    · obtain ⟨b, rfl, hbl, hrows⟩ := HX.out (by omega)
      obtain ⟨aoX, cX, c0, hxs⟩ := hrows k hlt
      replace c0 := (hb.cell (p := ⟨b, k, none⟩) hbl).trans c0
      have HXS := Lib.hid hxs
      have hlen := HL.out k hlt
      obtain ⟨l, hle⟩ : ∃ l, l = (X k).length := ⟨_, rfl⟩
      rw [← hle] at c0 hlen
      have HLE := Lib.hid hle
      clear hxs hrows hle hb
      go_wp2
      clear c0
      go_loopw [20] (fun i ws => ∃ (q : Nat) (β : Nat → Bool), q ≤ l ∧ i = .int .i64 q ∧ RowIs ws w.heap.size 4 (bv β n) ∧ Marks β (pre X k q) ∧ Below w.heap.size w ws) (fun i _ => l - (intOf i).toNat)
      case atStart => exact ⟨0, _, by omega, rfl, HR.out, by rw [pre_zero]; exact HM.out, HB.out⟩
      case round =>
        clear HR HB HM β
        obtain ⟨q, β, hq, rfl, hrow, hmk, hb⟩ := hrel
        obtain ⟨W2, rfl⟩ : ∃ W2 : World, W2 = wr := ⟨_, rfl⟩
        have HB := Lib.hid hb
        have HM := Lib.hid hmk
        clear hmk
        by_cases hql : q < l
        · obtain ⟨xb, xo, v, rfl, hv, g0, -, -⟩ := HXS.out.get (Nat.le_refl _) hb (i := q) (by have := HLE.out; omega)
          have hin := HI.out v (gather_mem.2 ⟨k, hlt, mem_I.2 ⟨q, by have := HLE.out; omega, hv.out⟩⟩)
          obtain ⟨x, rfl⟩ := Int.eq_ofNat_of_zero_le hin.1
          have hxn : x < n := by omega
          have HP := Lib.hid (show pre X k (q + 1) = pre X k q ++ [(x : Int)] from by rw [pre_succ X (by have := HLE.out; omega), hv.out])
          have c0 := hrow.cell (bv_get β hxn)
          have f0 := hrow.free x
          have HR2 := Lib.hid (show RowIs (W2.setCell ⟨w.heap.size, x, none⟩ (.bool true)) w.heap.size 4 (bv (updB β x true) n) from by rw [← bv_set]; exact hrow.set x (.bool true))
          have HB2 := Lib.hid (hb.setCell (p := ⟨w.heap.size, x, none⟩) (Nat.le_refl _) (.bool true))
          clear hv hin hrow hb
          cases hbx : β x
          · have HM2 := Lib.hid (show Marks (updB β x true) (pre X k (q + 1)) from by rw [HP.out]; exact HM.out.step hbx)
            rw [hbx] at c0
            clear hbx
            go_wp2
            go_roundw
            case rel => exact ⟨q + 1, _, by omega, by go_num, HR2.out, HM2.out, HB2.out⟩
            case measure => simp [intOf]; omega
          · have HF := Lib.hid (show ¬ (gather X m).Nodup from fun h => HM.out.no hbx (by rw [← HP.out]; exact h.sublist (pre_sub hlt)))
            rw [hbx] at c0
            clear hbx
            go_wp2
            exact bodyPost_ret (v := .bool true) (by simp [results, Try.results45, go_sem]) rfl ⟨boolSays_true HF.out, HB.out⟩
        · obtain rfl : q = l := by omega
          have HR2 := Lib.hid hrow
          have HM2 := Lib.hid (show Marks β (gather X (k + 1)) from by rw [← pre_full, ← HLE.out]; exact HM.out)
          clear hrow hb
          go_wp2
          go_roundw
          case rel => exact ⟨k + 1, _, by omega, by go_num, HR2.out, HM2.out, HB.out⟩
          case measure => simp [intOf]; omega
    · obtain rfl : k = m := by omega
      clear hb
      go_wp2
      exact bodyPost_ret (v := .bool false) (by simp [results, Try.results45, go_sem]) rfl ⟨boolSays_false fun h => h HM.out.2, HB.out⟩
end Go.Proofs.Ytkggphfekeiejaa

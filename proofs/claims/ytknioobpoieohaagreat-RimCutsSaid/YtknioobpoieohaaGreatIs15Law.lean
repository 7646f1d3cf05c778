/- Plain laws: what gypsumref15.Is looks at, and surfaces. gypsumref15.Has, beside. -/
import Derived.Test.YtknioobpoieohaaGreatFanLaw
import Derived.Test.YtknioobpoieohaaGreatCertKeys
import Derived.Test.YtknioobpoieohaaGreatCornerNew
import Derived.Deep.RegionHeld3
namespace Go.Proofs.YtknioobpoieohaaGreat
set_option linter.unusedVariables false
set_option linter.unusedSimpArgs false
open Go.RowKit
def dirB (t u : Tr) (x y : Nat) : Bool := tg t x == tg u y && tg t ((x + 1) % 3) == tg u ((y + 1) % 3)
/-- A corner's vertex is in, and isn't the next one's. -/
def vxOK (N : Int) (t : Tr) (k : Nat) : Prop := 0 ≤ tg t k ∧ tg t k < N ∧ tg t k ≠ tg t ((k + 1) % 3)
/-- Two triangles have no directed edge in common, and not all vertices. -/
def twoOK (t u : Tr) : Prop := (∀ x y, x < 3 → y < 3 → dirB t u x y = false) ∧ cntH t u 3 ≠ 3
theorem dir_tw {t u : Tr} : twB u t = true ↔ ∃ x y, x < 3 ∧ y < 3 ∧ dirB t u x y = true := by
  rw [twB_iff]
  constructor
  · rintro ⟨p, hp, h⟩
    obtain ⟨q, hq, e1, e2⟩ := edgeB_iff.1 h
    exact ⟨q, p, hq, hp, by simp [dirB, e1, e2]⟩
  · rintro ⟨x, y, hx, hy, h⟩
    simp only [dirB, Bool.and_eq_true, beq_iff_eq] at h
    exact ⟨y, hy, edgeB_iff.2 ⟨x, hx, h.1, h.2⟩⟩
theorem cnt3 (t u : Tr) : cntH t u 3 = 3 ↔ mirB t u = true := by
  unfold mirB
  simp only [cntH, tg]
  cases hasB u t.1 <;> cases hasB u t.2.1 <;> cases hasB u t.2.2 <;> simp
theorem mir_iff {t u : Tr} : mirB t u = true ↔ ∀ j, j < 3 → hasB u (tg t j) = true := by
  unfold mirB
  simp only [Bool.and_eq_true]
  constructor
  · rintro ⟨⟨a, b⟩, c⟩ j hj
    match j, hj with
    | 0, _ => exact a
    | 1, _ => exact b
    | 2, _ => exact c
  · intro h
    exact ⟨⟨h 0 (by omega), h 1 (by omega)⟩, h 2 (by omega)⟩
theorem mir_symm {t u : Tr} (ht : loopB t = false) (h : mirB t u = true) : mirB u t = true := by
  have h' := mir_iff.1 h
  obtain ⟨a, ha, ea⟩ := hasB_iff.1 (h' 0 (by omega))
  obtain ⟨b, hb, eb⟩ := hasB_iff.1 (h' 1 (by omega))
  obtain ⟨c, hc, ec⟩ := hasB_iff.1 (h' 2 (by omega))
  have hab : a ≠ b := fun e => by subst e; have := tg_inj ht (i := 0) (j := 1) (by omega) (by omega) (ea.symm.trans eb); omega
  have hbc : b ≠ c := fun e => by subst e; have := tg_inj ht (i := 1) (j := 2) (by omega) (by omega) (eb.symm.trans ec); omega
  have hac : a ≠ c := fun e => by subst e; have := tg_inj ht (i := 0) (j := 2) (by omega) (by omega) (ea.symm.trans ec); omega
  refine mir_iff.2 fun j hj => ?_
  rcases (show j = a ∨ j = b ∨ j = c by omega) with rfl | rfl | rfl
  · exact hasB_iff.2 ⟨0, by omega, ea.symm⟩
  · exact hasB_iff.2 ⟨1, by omega, eb.symm⟩
  · exact hasB_iff.2 ⟨2, by omega, ec.symm⟩
theorem loop_iff {N : Int} {t : Tr} (h : ∀ k, k < 3 → vxOK N t k) : loopB t = false := by
  have h0 := (h 0 (by omega)).2.2
  have h1 := (h 1 (by omega)).2.2
  have h2 := (h 2 (by omega)).2.2
  simp only [tg] at h0 h1 h2
  simp [loopB, h0, h1]
  exact h2
theorem Surf.vx {N : Int} {T : List Tr} (hs : Surf N T) {i k : Nat} (hi : i < T.length) (hk : k < 3) : vxOK N (T! T i) k :=
  ⟨(hs.vin i hi k).1, (hs.vin i hi k).2, fun e => by
    have := tg_inj (hs.noloop i hi) hk (j := (k + 1) % 3) (by omega) e
    omega⟩
theorem Surf.two {N : Int} {T : List Tr} (hs : Surf N T) {i k : Nat} (hi : i < T.length) (hk : k < i) : twoOK (T! T i) (T! T k) := by
  refine ⟨fun x y hx hy => ?_, fun h => ?_⟩
  · have := hs.tw i k hi hk
    cases q : dirB (T! T i) (T! T k) x y
    · rfl
    · rw [dir_tw.2 ⟨x, y, hx, hy, q⟩] at this
      cases this
  · have := hs.mir i k hi hk
    rw [mir_symm (hs.noloop i hi) ((cnt3 _ _).1 h)] at this
    cases this
theorem Surf.fan {N : Int} {T : List Tr} (hs : Surf N T) {v : Int} (h0 : 0 ≤ v) (h1 : v < N) : 0 < (atV T v T.length).length ∧ ∀ i k, i < T.length → k < T.length → hasB (T! T i) v = true → hasB (T! T k) v = true → Conn (BAdj T v) i k := by
  obtain ⟨i, hi, hb⟩ := hs.used v h0 h1
  exact ⟨List.length_pos_of_mem (atV_mem.2 ⟨hi, hb⟩), (unpinched_iff hs.noloop).2 (hs.pin v h0 h1)⟩
/-- What the reference looks at is what makes a surface. -/
theorem Surf.of_is {N : Int} {T : List Tr} (n0 : 0 ≤ N) (n1 : N ≤ 4096) (t1 : T.length ≤ 8192) (hv : ∀ i k, i < T.length → k < 3 → vxOK N (T! T i) k) (h2 : ∀ i k, i < T.length → k < i → twoOK (T! T i) (T! T k))
    (hf : ∀ v : Nat, (v : Int) < N → 0 < (atV T v T.length).length ∧ ∀ i k, i < T.length → k < T.length → hasB (T! T i) v = true → hasB (T! T k) v = true → Conn (BAdj T v) i k) : Surf N T := by
  have nl : ∀ i, i < T.length → loopB (T! T i) = false := fun i hi => loop_iff fun k hk => hv i k hi hk
  refine ⟨n0, n1, t1, VIn.of_three fun i hi j hj => ⟨(hv i j hi hj).1, (hv i j hi hj).2.1⟩, nl, fun b a hb hab => ?_, fun b a hb hab => ?_, fun v v0 v1 => ?_, fun v v0 v1 => ?_⟩
  · cases q : twB (T! T a) (T! T b)
    · rfl
    · obtain ⟨x, y, hx, hy, e⟩ := dir_tw.1 q
      rw [(h2 b a hb hab).1 x y hx hy] at e
      cases e
  · cases q : mirB (T! T a) (T! T b)
    · rfl
    · exact absurd ((cnt3 _ _).2 (mir_symm (nl a (by omega)) q)) (h2 b a hb hab).2
  · obtain ⟨n, rfl⟩ := Int.eq_ofNat_of_zero_le v0
    obtain ⟨i, hi⟩ := List.exists_mem_of_length_pos (hf n v1).1
    obtain ⟨a, b⟩ := atV_mem.1 hi
    exact ⟨i, a, b⟩
  · obtain ⟨n, rfl⟩ := Int.eq_ofNat_of_zero_le v0
    exact (unpinched_iff nl).1 (hf n v1).2
def tcc (t : Tr) : List Value := [.int .i64 t.1, .int .i64 t.2.1, .int .i64 t.2.2]
theorem tcc_get (t : Tr) {j : Nat} (hj : j < 3) : (tcc t)[j]? = some (.int .i64 (tg t j)) := by
  match j, hj with
  | 0, _ => rfl
  | 1, _ => rfl
  | 2, _ => rfl
set_option maxHeartbeats 400000 in
theorem has15 (x y z v : Int) (w : World) :
    Calls Tryz.prog 43 #[.agg #[.int .i64 x, .int .i64 y, .int .i64 z], .int .i64 v] w fun e w' => e = .returned (.bool (hasB (x, y, z) v)) ∧ Below w.heap.size w w' := by
  obtain ⟨r, hr⟩ : ∃ r, r = hasB (x, y, z) v := ⟨_, rfl⟩
  rw [← hr]
  unfold hasB at hr
  simp only at hr
  cases h1 : x == v <;> cases h2 : y == v <;> cases h3 : z == v <;> simp only [h1, h2, h3, Bool.or_false, Bool.or_true] at hr <;> subst hr
  all_goals
    go_enter Tryz.func43, Tryz.ntmps43
    go_wp2
    go_ret
    exact ⟨rfl, (Below.refl _ _).alloc (Nat.le_refl _) _⟩
set_option maxRecDepth 100000 in
set_option maxHeartbeats 1000000 in
theorem bes15 (t u : Tr) (w : World) :
    Calls Tryz.prog 73 #[.agg #[.int .i64 t.1, .int .i64 t.2.1, .int .i64 t.2.2], .agg #[.int .i64 u.1, .int .i64 u.2.1, .int .i64 u.2.2]] w fun e w' => e = .returned (.bool (besB t u)) ∧ Below w.heap.size w w' := by
  obtain ⟨r, hr⟩ : ∃ r, r = besB t u := ⟨_, rfl⟩
  rw [← hr]
  have HR := Lib.hid hr
  have H1 := Lib.hid ((RowIs.made w 65 (tcc t)).alloc (.cells #[.int .i64 u.1, .int .i64 u.2.1, .int .i64 u.2.2] 65))
  have H2 := Lib.hid (show RowIs ((w.alloc (.cells #[.int .i64 t.1, .int .i64 t.2.1, .int .i64 t.2.2] 65)).alloc (.cells #[.int .i64 u.1, .int .i64 u.2.1, .int .i64 u.2.2] 65)) (w.heap.size + 1) 65 (tcc u) from RowIs.made' _ _ (tcc u) _ (by simp))
  have HC := Lib.hid (fun (v : Int) (W : World) => has15 u.1 u.2.1 u.2.2 v W)
  clear hr
  go_enter Tryz.func73, Tryz.ntmps73
  go_wp2
  go_loopw [6, 5] (fun v n ws => ∃ i : Nat, i ≤ 3 ∧ v = .int .i64 i ∧ n = .int .i64 (cntH t u i : Nat) ∧ RowIs ws w.heap.size 65 (tcc t) ∧ RowIs ws (w.heap.size + 1) 65 (tcc u) ∧ Below w.heap.size w ws) (fun v _ _ => 3 - (intOf v).toNat)
  case atStart => exact ⟨0, by omega, rfl, rfl, H1.out, H2.out, ((Below.refl _ _).alloc (Nat.le_refl _) _).alloc (by simp) _⟩
  case round =>
    clear H1 H2
    obtain ⟨i, hi, rfl, rfl, h1, h2, hb⟩ := hrel
    obtain ⟨W1, rfl⟩ : ∃ W1 : World, W1 = wr := ⟨_, rfl⟩
    have hle := cntH_le t u i
    by_cases hi3 : i < 3
    · have HK := Lib.hid (show ∀ w', Hid (Below W1.heap.size W1 w') → w'.cell? ⟨w.heap.size, i, none⟩ = some (.int .i64 (tg t i)) ∧ w'.cell? ⟨w.heap.size + 1, 0, none⟩ = some (.int .i64 u.1) ∧ w'.cell? ⟨w.heap.size + 1, 1, none⟩ = some (.int .i64 u.2.1) ∧ w'.cell? ⟨w.heap.size + 1, 2, none⟩ = some (.int .i64 u.2.2) from fun w' hb' =>
        ⟨(h1.below hb'.out h1.lt).cell (tcc_get t hi3), (h2.below hb'.out h2.lt).cell rfl, (h2.below hb'.out h2.lt).cell rfl, (h2.below hb'.out h2.lt).cell rfl⟩)
      have HF := Lib.hid (show ∀ w', Below W1.heap.size W1 w' → RowIs w' w.heap.size 65 (tcc t) ∧ RowIs w' (w.heap.size + 1) 65 (tcc u) ∧ Below w.heap.size w w' from fun w' hb' => ⟨h1.below hb' h1.lt, h2.below hb' h2.lt, below_more hb hb' hb.size⟩)
      have HD := Lib.hid (show Below W1.heap.size W1 W1.drew from ⟨rfl, rfl, rfl, Nat.le_refl _, fun _ _ => rfl⟩)
      have hcs : cntH t u (i + 1) = cntH t u i + if hasB u (tg t i) then 1 else 0 := rfl
      obtain ⟨x, hx⟩ : ∃ x, Hid (tg t i = x) := ⟨_, rfl⟩
      obtain ⟨a, b, c⟩ := u
      obtain ⟨m, hm⟩ : ∃ m, m = cntH t (a, b, c) i := ⟨_, rfl⟩
      obtain ⟨m', hm'⟩ : ∃ m, m = cntH t (a, b, c) (i + 1) := ⟨_, rfl⟩
      rw [← hm, ← hm', hx.out] at hcs
      rw [← hm] at hle
      rw [hx.out] at HK
      rw [← hm]
      have HM := Lib.hid hm'
      simp only at HK HC HF
      cases hh : hasB (a, b, c) x
      · have HCC := Lib.hid (show ∀ w', Hid (Below W1.heap.size W1 w') → Calls Tryz.prog 43 #[.agg #[.int .i64 a, .int .i64 b, .int .i64 c], .int .i64 x] w' fun e w'' => e = .returned (.bool false) ∧ Hid (Below W1.heap.size W1 w'') from fun w' hb' => by
          have := HC.out x w'
          rw [hh] at this
          exact this.mono fun e w'' ⟨q1, q2⟩ => ⟨q1, below_more hb'.out q2 hb'.out.size⟩)
        rw [hh] at hcs
        have e2 : m' = m := by simpa using hcs
        subst e2
        clear hh hcs h1 h2 hb HC hm hm'
        go_upto_region 5 with fail
        go_region_held3 (fun w' => w'.cell? ⟨w.heap.size, i, none⟩ = some (.int .i64 x) ∧ w'.cell? ⟨w.heap.size + 1, 0, none⟩ = some (.int .i64 a) ∧ w'.cell? ⟨w.heap.size + 1, 1, none⟩ = some (.int .i64 b) ∧ w'.cell? ⟨w.heap.size + 1, 2, none⟩ = some (.int .i64 c)) (exact HK.out _ (by assumption))
          (first | (go_at_call 43; (with_reducible refine (HCC.out _ (by assumption)).mono ?_); rintro e wA ⟨rfl, hhA⟩))
        all_goals
          go_wp2
          go_roundw
          case rel => exact ⟨i + 1, by omega, by go_num, by rw [← HM.out], HF.out _ hhA.out⟩
          case measure => simp [intOf]; omega
      · have HCC := Lib.hid (show ∀ w', Hid (Below W1.heap.size W1 w') → Calls Tryz.prog 43 #[.agg #[.int .i64 a, .int .i64 b, .int .i64 c], .int .i64 x] w' fun e w'' => e = .returned (.bool true) ∧ Hid (Below W1.heap.size W1 w'') from fun w' hb' => by
          have := HC.out x w'
          rw [hh] at this
          exact this.mono fun e w'' ⟨q1, q2⟩ => ⟨q1, below_more hb'.out q2 hb'.out.size⟩)
        rw [hh] at hcs
        have e2 : m' = m + 1 := by simpa using hcs
        have E2 := Lib.hid e2
        clear hh hcs h1 h2 hb HC hm hm' e2
        go_upto_region 5 with fail
        go_region_held3 (fun w' => w'.cell? ⟨w.heap.size, i, none⟩ = some (.int .i64 x) ∧ w'.cell? ⟨w.heap.size + 1, 0, none⟩ = some (.int .i64 a) ∧ w'.cell? ⟨w.heap.size + 1, 1, none⟩ = some (.int .i64 b) ∧ w'.cell? ⟨w.heap.size + 1, 2, none⟩ = some (.int .i64 c)) (exact HK.out _ (by assumption))
          (first | (go_at_call 43; (with_reducible refine (HCC.out _ (by assumption)).mono ?_); rintro e wA ⟨rfl, hhA⟩))
        all_goals
          go_wp2
          go_roundw
          case rel => exact ⟨i + 1, by omega, by go_num, by rw [← HM.out, E2.out]; go_num, HF.out _ hhA.out⟩
          case measure => simp [intOf]; omega
    · obtain rfl : i = 3 := by omega
      have HF := Lib.hid (show r = decide (2 ≤ cntH t u 3) from HR.out)
      obtain ⟨m, hm⟩ : ∃ m, m = cntH t u 3 := ⟨_, rfl⟩
      rw [← hm] at hle HF ⊢
      have HB := Lib.hid hb
      clear h1 h2 hb hm
      by_cases h2 : 2 ≤ m
      · have hd : decide (((m : Nat) : Int) ≥ 2) = true := by simp; omega
        have hd2 : decide (m ≥ 2) = true := by simp; omega
        have HG := Lib.hid (show r = true from by rw [HF.out]; simp [h2])
        go_wp2
        exact bodyPost_ret (v := .bool true) (by simp [results, Tryz.results73, go_sem]) rfl ⟨by rw [HG.out], HB.out⟩
      · have hd : decide (((m : Nat) : Int) ≥ 2) = false := by simp; omega
        have hd2 : decide (m ≥ 2) = false := by simp; omega
        have HG := Lib.hid (show r = false from by rw [HF.out]; simp [h2])
        go_wp2
        exact bodyPost_ret (v := .bool false) (by simp [results, Tryz.results73, go_sem]) rfl ⟨by rw [HG.out], HB.out⟩
end Go.Proofs.YtknioobpoieohaaGreat

/- Values of vertices make no seam; values of triangles make each triangle a chart. Plain. gypsumlaw32.ChartSmooth: the walk. -/
import Derived.Test.YtfbpjlfimmjieaaGreatSeamA
import Derived.Test.YtfbpjlfimmjieaaGreatSurf32
import Derived.Test.YtfbpjlfimmjieaaGreatQuad32
import Derived.Test.YtfbpjlfimmjieaaGreatOfW32
namespace Go.Proofs.YtfbpjlfimmjieaaGreat
set_option linter.unusedVariables false
set_option linter.unusedSimpArgs false
open Go.RowKit
section
variable {n : Nat} {T : List Tr}
/-- The value of a vertex. -/
def vA (T : List Tr) (l : List Int) (c : Nat) : Int := if l = [] then 0 else I! l ((vt T (c : Int)).toNat % l.length)
def smA (T : List Tr) (l : List Int) (k : Nat) : List Int := (List.range k).map fun c => vA T l c
def smB (k : Nat) : List Int := (List.range k).map fun (c : Nat) => ((c / 3 : Nat) : Int)
theorem smA_length (T : List Tr) (l : List Int) (k : Nat) : (smA T l k).length = k := by simp [smA]
theorem smB_length (k : Nat) : (smB k).length = k := by simp [smB]
theorem smA_succ (T : List Tr) (l : List Int) (k : Nat) : smA T l (k + 1) = smA T l k ++ [vA T l k] := by simp [smA, List.range_succ]
theorem smB_succ (k : Nat) : smB (k + 1) = smB k ++ [((k / 3 : Nat) : Int)] := by simp [smB, List.range_succ]
theorem smA_get {l : List Int} {k c : Nat} (h : c < k) : I! (smA T l k) c = vA T l c := by simp [smA, I!, List.getD_eq_getElem?_getD, h]
theorem smB_get {k c : Nat} (h : c < k) : I! (smB k) c = ((c / 3 : Nat) : Int) := by simp [smB, I!, List.getD_eq_getElem?_getD, h]
theorem vA_vt {l : List Int} {c d : Nat} (h : vt T (c : Int) = vt T (d : Int)) : vA T l c = vA T l d := by unfold vA; rw [h]
theorem smooth_open (hs : Surf n T) (l : List Int) {c o : Nat} (hc : c < 3 * T.length) (h : opp T (c : Int) = (o : Int)) : OpenK T (smA T l (3 * T.length)) c o := by
  obtain ⟨o', e, hol, hoc, h1, h2⟩ := hs.opp_opp hc (by omega)
  obtain rfl : o' = o := by omega
  refine ⟨h, ?_, ?_⟩
  · rw [smA_get (nxn_lt hc), smA_get (pvn_lt hol)]; exact (vA_vt h2).symm
  · rw [smA_get (pvn_lt hc), smA_get (nxn_lt hol)]; exact (vA_vt h1).symm
theorem smooth_adj (hs : Surf n T) (l : List Int) {i j : Nat} (hi : i < T.length) (h : Adj T i j) : KAdj T (smA T l (3 * T.length)) i j := by
  obtain ⟨k, hk, h0, hj⟩ := h
  have e : (3 * (i : Int) + k) = ((3 * i + k : Nat) : Int) := by omega
  rw [e] at h0 hj
  obtain ⟨o, ho⟩ := Int.eq_ofNat_of_zero_le h0
  rw [ho, Int.toNat_natCast] at hj
  have hc : 3 * i + k < 3 * T.length := by omega
  have hop := smooth_open hs l hc ho
  exact ⟨3 * i + k, o, hc, (hop.symm hs hc).1, hop, by omega, hj.symm⟩
theorem kadj_adj {K : List Int} {i j : Nat} (h : KAdj T K i j) : Adj T i j := by
  obtain ⟨c, o, hc, ho, hop, rfl, rfl⟩ := h
  refine ⟨c % 3, by omega, ?_, ?_⟩
  · rw [show (3 * ((c / 3 : Nat) : Int) + ((c % 3 : Nat) : Int)) = (c : Int) by omega, hop.1]; omega
  · rw [show (3 * ((c / 3 : Nat) : Int) + ((c % 3 : Nat) : Int)) = (c : Int) by omega, hop.1]; omega
theorem Conn.lift {A B : Nat → Nat → Prop} (h : ∀ i j, A i j → B i j) {i j : Nat} (c : Conn A i j) : Conn B i j := by
  induction c with
  | refl => exact .refl _
  | step _ s ih => exact .step ih (h _ _ s)
  | back _ s ih => exact .back ih (h _ _ s)
/-- Charts of such values are shells. -/
theorem smooth_shells (hs : Surf n T) (l : List Int) {M : Nat → Int} (hM : IsShells (KAdj T (smA T l (3 * T.length))) T.length M) : IsShells (Adj T) T.length M :=
  ⟨hM.nonneg, fun i j hi hj h => hM.clo i j hi hj (smooth_adj hs l hi h), fun i j hi hj h => (hM.con i j hi hj h).lift fun _ _ => kadj_adj, hM.rg⟩
theorem smooth_parts (hs : Surf n T) (l : List Int) {c : Nat} (hc : c < 3 * T.length) : partsB T (smA T l (3 * T.length)) c = false := by
  unfold partsB
  by_cases h : 0 ≤ opp T (c : Int)
  · obtain ⟨o, ho⟩ := Int.eq_ofNat_of_zero_le h
    have hop := smooth_open hs l hc ho
    rw [ho, Int.toNat_natCast, hop.2.1, hop.2.2]
    simp
  · simp [h]
theorem smooth_seams (hs : Surf n T) (l : List Int) : seamE T (smA T l (3 * T.length)) (3 * T.length) = [] := by
  rw [List.eq_nil_iff_forall_not_mem]
  intro e he
  obtain ⟨c, hc, -, hp, -⟩ := seamE_mem.1 he
  rw [smooth_parts hs l hc] at hp
  cases hp
theorem each_eq (hs : Surf n T) {i j : Nat} (h : KAdj T (smB (3 * T.length)) i j) : i = j := by
  obtain ⟨c, o, hc, ho, hop, rfl, rfl⟩ := h
  have h1 := hop.2.1
  rw [smB_get (nxn_lt hc), smB_get (pvn_lt ho), nxn_div, pvn_div] at h1
  omega
theorem each_conn (hs : Surf n T) {i j : Nat} (h : Conn (KAdj T (smB (3 * T.length))) i j) : i = j := by
  induction h with
  | refl => rfl
  | step _ s ih => exact ih.trans (each_eq hs s)
  | back _ s ih => exact ih.trans (each_eq hs s).symm
/-- Each triangle is a chart. -/
theorem each_num (hs : Surf n T) {M : Nat → Int} (hM : IsShells (KAdj T (smB (3 * T.length))) T.length M) : ∀ i, i < T.length → M i = (i : Int) := by
  intro i
  induction i using Nat.strongRecOn with
  | _ i ih =>
    intro hi
    have h0 := hM.nonneg i hi
    have h1 := hM.le i hi
    by_cases e : M i = (i : Int)
    · exact e
    · obtain ⟨m, hm⟩ := Int.eq_ofNat_of_zero_le h0
      have := ih m (by omega) (by omega)
      have := each_conn hs (hM.con m i (by omega) hi (by rw [this, hm]))
      omega
theorem cnt_id : ∀ m, cnt (fun i => (i : Int)) m = (m : Int)
  | 0 => rfl
  | m + 1 => by
    show max (cnt (fun i => (i : Int)) m) ((m : Int) + 1) = _
    rw [cnt_id m]
    omega
theorem each_cnt (hs : Surf n T) {M : Nat → Int} (hM : IsShells (KAdj T (smB (3 * T.length))) T.length M) : cnt M T.length = (T.length : Int) := by
  rw [cnt_congr T.length (each_num hs hM), cnt_id]
theorem each_disc (hs : Surf n T) (hl : T.length ≤ 1000) {M : Nat → Int} (hM : IsShells (KAdj T (smB (3 * T.length))) T.length M) {k : Nat} {b : Bool} (hk : k < T.length) (h : DiscAt T (smB (3 * T.length)) M k b) : b = true := by
  refine lone_at hs hl hM h ?_
  have e : sel (mL M T.length) (k : Int) T.length = [k] := by
    unfold sel
    have : (List.range T.length).filter (fun t => decide (I! (mL M T.length) t = (k : Int))) = (List.range T.length).filter (fun t => decide (t = k)) := List.filter_congr fun t ht => by
      have ht := List.mem_range.1 ht
      rw [mL_get ht, each_num hs hM t ht]
      simp
      omega
    rw [this]
    generalize T.length = m at hk
    induction m with
    | zero => omega
    | succ m ih =>
      rw [List.range_succ, List.filter_append]
      by_cases e : k = m
      · subst e
        rw [List.filter_eq_nil_iff.2 (fun t ht => by have := List.mem_range.1 ht; simp; omega)]
        simp
      · rw [ih (by omega)]
        simp [Ne.symm e]
  rw [e]
  rfl
end
structure SmSt (W X : World) (T : List Tr) (l : List Int) (k : Nat) (va vb : Value) : Prop where
  rows : Rows W.heap.size X [⟨3, 1, va, k, ic (smA T l k)⟩, ⟨3, 1, vb, k, ic (smB k)⟩]
  bel : Below W.heap.size W X
set_option maxRecDepth 100000 in
set_option maxHeartbeats 16000000 in
theorem chartsmooth_any (N : Int) (ao : Option Addr) (cap : Nat) (T : List Tr) (lo : Option Addr) (lc : Nat) (l : List Int) (w : World) (hT : TrisAt w ao T) (hTl : T.length ≤ 9223372036854775807) (hL : IntsAt w lo l) (hLl : l.length ≤ 9223372036854775807) :
    Calls Tryz.prog 8 #[.agg #[.int .i64 N, .slice ao T.length cap], .slice lo l.length lc] w fun e w' => e = .returned (.bool true) ∧ Below w.heap.size w w' := by
  obtain ⟨i0, hi0, hz0, hz1, hz2⟩ := info_parts info3
  obtain ⟨W0, hW0⟩ : ∃ W0, W0 = w.alloc (.cells #[.int .i64 N, .slice ao T.length cap] 24) := ⟨_, rfl⟩
  have hb0 : Below w.heap.size w W0 := by rw [hW0]; exact (Below.refl _ _).alloc (Nat.le_refl _) _
  have hr0 : RowIs W0 w.heap.size 24 [.int .i64 N, .slice ao T.length cap] := by rw [hW0]; exact RowIs.made w 24 [.int .i64 N, .slice ao T.length cap]
  have HT := Lib.hid (hT.mono (Nat.le_refl _) hb0)
  have HL0 := Lib.hid (hL.mono (Nat.le_refl _) hb0)
  have HIS := Lib.hid (fun (X : World) (h : TrisAt X ao T) (hl : T.length ≤ 10000) => is15 N ao cap T X h hl)
  have HTY := Lib.hid (fun (X : World) (h : TrisAt X ao T) (n : Nat) (hn : N = n) (hs : Surf n T) (hl : T.length ≤ 40) => (show N = (n : Int) from hn) ▸ table12 n ao cap T X h hs hl)
  have HVX := Lib.hid (show ∀ (X : World) (p c : Nat), Tab X p N T → c < 3 * T.length → Calls Tryz.prog 27 #[.pointer (some ⟨p, 0, none⟩), .int .i64 (c : Int)] X fun e w' => e = .returned (.int .i64 (vt T (c : Int))) ∧ X = w' from fun X p c h hc => vertex_any c X p N T h.len h.s (by omega) (by omega))
  have HVB := Lib.hid (show Surf N T → ∀ c : Nat, c < 3 * T.length → 0 ≤ vt T (c : Int) from fun hs c hc => (hs.vin.vt (by omega) (by omega)).1)
  have HAN := Lib.hid (show ∀ k : Nat, l = [] → vA T l k = 0 from fun k h => by unfold vA; rw [if_pos h])
  have HAY := Lib.hid (show ∀ k : Nat, l ≠ [] → vA T l k = I! l ((vt T (k : Int)).toNat % l.length) from fun k h => by unfold vA; rw [if_neg h])
  have HOF := Lib.hid (show ∀ (X : World) (p : Nat) (K : List Int) (m : Nat) (ko : Option Addr) (kc : Nat), m = K.length → Tab X p N T → Surf N T → m = 3 * T.length → IntsAt X ko K → Calls Tryz.prog 13 #[.pointer (some ⟨p, 0, none⟩), .slice ko m kc] X (fun e w' => OfP X T K e w') from fun X p K m ko kc hm h hs hn hk => by
    subst hm
    exact (cof_ok p N T ko kc K X h hs hn hk).mono fun _ _ h => h)
  have HDI := Lib.hid (show ∀ (X : World) (n : Nat) (hn : N = n) (K : List Int) (m : Nat) (ko : Option Addr) (kc : Nat), m = K.length → TrisAt X ao T → Surf N T → m = 3 * T.length → T.length ≤ 1000 → IntsAt X ko K → Calls Tryz.prog 23 #[.agg #[.int .i64 N, .slice ao T.length cap], .slice ko m kc] X (fun e w' => DiscsP T K X e w') from fun X n hn K m ko kc hm h hs hkl hl hk => by
    subst hm hn
    exact (cdiscs_ok n ao cap T ko kc K X h hs hk hkl hl).mono fun _ _ h => h)
  have HEB := Lib.hid (show ∀ (X : World) (p : Nat) (K : List Int) (m : Nat) (ko : Option Addr) (kc : Nat), m = K.length → Tab X p N T → m = 3 * T.length → IntsAt X ko K → ¬ Told K → Calls Tryz.prog 30 #[.pointer (some ⟨p, 0, none⟩), .slice ko m kc] X fun e w' => e = .returned (.tuple #[.slice none 0 0, .int .i64 2]) ∧ Below X.heap.size X w' from fun X p K m ko kc hm h hn hk ht => by
    subst hm
    exact sedges_bad p N T ko kc K X h hk hn ht)
  have HEO := Lib.hid (show ∀ (X : World) (n : Nat) (hn : N = n) (p : Nat) (m : Nat) (ko : Option Addr) (kc : Nat), m = 3 * T.length → Tab X p N T → Surf N T → IntsAt X ko (smA T l (3 * T.length)) → Told (smA T l (3 * T.length)) → Calls Tryz.prog 30 #[.pointer (some ⟨p, 0, none⟩), .slice ko m kc] X fun e w' => ∃ eo ec, e = .returned (.tuple #[.slice eo 0 ec, .int .i64 0]) ∧ Below X.heap.size X w' from fun X n hn p m ko kc hm h hs hk ht => by
    subst hm hn
    have := sedges_ok p n T ko kc (smA T l (3 * T.length)) X h hs hk (smA_length _ _ _) ht
    rw [smA_length, smooth_seams hs l] at this
    exact this.mono fun e w' ⟨a, c, h1, _, h3⟩ => ⟨a, c, h1, h3⟩)
  have HTO := Lib.hid (show ∀ (X : World) (K : List Int) (m : Nat) (ko : Option Addr) (kc : Nat), m = K.length → IntsAt X ko K → m ≤ 100000 → Calls Tryz.prog 31 #[.slice ko m kc] X (BoolPost (Told K) X) from fun X K m ko kc hm hk hl => by
    subst hm
    exact told32 ko kc K X hk hl)
  have HSO := Lib.hid (show ∀ (X : World) (n : Nat) (hn : N = n) (p : Nat) (M : Nat → Int), Tab X p N T → Surf N T → IsShells (KAdj T (smA T l (3 * T.length))) T.length M → Calls Tryz.prog 32 #[.pointer (some ⟨p, 0, none⟩)] X fun e w' => ∃ g, e = .returned (.slice (some ⟨g, 0, none⟩) T.length T.length) ∧ X.heap.size ≤ g ∧ RowIs w' g 3 (iv M T.length) ∧ Below X.heap.size X w' from fun X n hn p M h hs hM => by
    subst hn
    exact of_L hs (smooth_shells hs l hM) X p h)
  have HEA := Lib.hid (show ∀ (n : Nat) (hn : N = n) (M : Nat → Int), Surf N T → T.length ≤ 1000 → IsShells (KAdj T (smB (3 * T.length))) T.length M → (∀ i, i < T.length → M i = (i : Int)) ∧ cnt M T.length = (T.length : Int) ∧ ∀ k b, k < T.length → DiscAt T (smB (3 * T.length)) M k b → b = true from fun n hn M hs hl hM => by
    subst hn
    exact ⟨each_num hs hM, each_cnt hs hM, fun k b hk h => each_disc hs hl hM hk h⟩)
  obtain ⟨len, hlen⟩ : ∃ q, q = T.length := ⟨_, rfl⟩
  obtain ⟨ll, hlle⟩ : ∃ q, q = l.length := ⟨_, rfl⟩
  obtain ⟨l3, hl3⟩ : ∃ q, q = 3 * len := ⟨_, rfl⟩
  simp only [OfP, DiscsP, ← hlen, ← hlle] at HIS HTY HVX HVB HAY HOF HDI HEB HEO HSO HEA hW0 hr0 hTl hLl
  simp only [← hl3] at HVX HVB HOF HDI HEB HEO HSO HEA
  rw [← hlen, ← hlle]
  have HL := Lib.hid hlen
  have HLL := Lib.hid hlle
  have HL3 := Lib.hid hl3
  have HR0 := Lib.hid hr0
  have HB0 := Lib.hid hb0
  have HW0 := Lib.hid hW0
  clear hT hL hb0 hr0 hW0 hlen hlle hl3
  go_enter Tryz.func8, Tryz.ntmps8
  go_upto_region 1 with fail
  rw [← HW0.out]
  go_wp2_with fail
  refine (awake32 _).mono ?_
  rintro e w1 ⟨rfl, hb1⟩
  have HB1 := Lib.hid (below_more HB0.out hb1 HB0.out.size)
  have HR1 := Lib.hid (HR0.out.after hb1)
  have HT1 := Lib.hid (HT.out.mono (Nat.le_refl _) hb1)
  have HL1 := Lib.hid (HL0.out.mono (Nat.le_refl _) hb1)
  have c0 := HR1.out.cell (i := 0) rfl
  have c1 := HR1.out.cell (i := 1) rfl
  clear hb1
  by_cases h30 : len ≤ 30
  case neg =>
    have d0 : decide ((len : Int) > 30) = true := by simp; omega
    have d1 : decide ((30 : Int) < (len : Int)) = true := by simp; omega
    clear h30
    go_wp2
    exact bodyPost_ret (v := .bool true) (by simp [results, Tryz.results8, go_sem]) rfl ⟨rfl, HB1.out⟩
  case pos =>
  have d0 : decide ((len : Int) > 30) = false := by simp; omega
  have d1 : decide ((30 : Int) < (len : Int)) = false := by simp; omega
  have HI1 := Lib.hid (HIS.out w1 HT1.out (by omega))
  go_wp2_with fail
  refine HI1.out.mono ?_
  rintro e w2 ⟨r, rfl, hr, hb2⟩
  have HB2 := Lib.hid (below_more HB1.out hb2 HB1.out.size)
  cases r
  case false =>
    clear hr hb2
    go_wp2
    exact bodyPost_ret (v := .bool true) (by simp [results, Tryz.results8, go_sem]) rfl ⟨rfl, HB2.out⟩
  case true =>
  have hs := hr.1 rfl
  have hl3b : l3 ≤ 90 := by have := HL3.out; omega
  have h3i : (3 : Int) * (len : Int) = (l3 : Int) := by have := HL3.out; omega
  have HR2 := Lib.hid (HR1.out.after hb2)
  have HT2 := Lib.hid (HT1.out.mono (Nat.le_refl _) hb2)
  have HL2 := Lib.hid (HL1.out.mono (Nat.le_refl _) hb2)
  have c0 := HR2.out.cell (i := 0) rfl
  have c1 := HR2.out.cell (i := 1) rfl
  obtain ⟨n, hn⟩ : ∃ n : Nat, N = n := ⟨N.toNat, by have := hs.n0; omega⟩
  have HS := Lib.hid hs
  have HNN := Lib.hid hn
  have HTX := Lib.hid (HTY.out w2 HT2.out n hn (hn ▸ hs) (by omega))
  clear hr hb2 hs hn d0 d1
  go_wp2_with fail
  refine HTX.out.mono ?_
  rintro e w3 ⟨p, rfl, -, htab, hb3⟩
  have htab : Tab w3 p N T := by first | exact htab | (rw [HNN.out]; exact htab)
  obtain ⟨W, rfl⟩ : ∃ x : World, x = w3 := ⟨_, rfl⟩
  have HB3 := Lib.hid (below_more HB2.out hb3 HB2.out.size)
  have HR3 := Lib.hid (HR2.out.after hb3)
  have HT3 := Lib.hid (HT2.out.mono (Nat.le_refl _) hb3)
  have HLW := Lib.hid (HL2.out.mono (Nat.le_refl _) hb3)
  have HTAB := Lib.hid htab
  have HST := Lib.hid (show SmSt W W T l 0 (.slice none 0 0) (.slice none 0 0) from ⟨⟨by
    intro r hr
    simp only [List.mem_cons, List.not_mem_nil, or_false] at hr
    rcases hr with rfl | rfl <;> exact World.ownsRow_nil _ _ _ _, by simp [Apart.nil]⟩, Below.refl _ _⟩)
  clear hb3 htab
  go_wp2
  go_loopw [8, 6, 7] (fun c u v ws => ∃ (k : Nat) (a1 b1 : Option Addr) (c1 c2 : Nat), k ≤ l3 ∧ c = .int .i64 k ∧ u = .slice a1 k c1 ∧ v = .slice b1 k c2 ∧ SmSt W ws T l k (.slice a1 k c1) (.slice b1 k c2)) (fun c _ _ _ => l3 - (intOf c).toNat)
  case atStart => exact ⟨0, none, none, 0, 0, by omega, rfl, rfl, rfl, HST.out⟩
  case round =>
    clear HST
    obtain ⟨k, a1, b1, ca, cb, hk, rfl, rfl, rfl, hst⟩ := hrel
    obtain ⟨X, rfl⟩ : ∃ X : World, X = wr := ⟨_, rfl⟩
    have HST := Lib.hid hst
    have hb := hst.bel
    have hrX := HR3.out.after hb
    have c0 := hrX.cell (i := 0) rfl
    have c1 := hrX.cell (i := 1) rfl
    have e3 : IntKind.i64.wrap (l3 : Int) = (l3 : Int) := IntWalk.i64_in _ (by omega)
    by_cases hkb : k < l3
    case pos =>
      obtain ⟨a, ha⟩ : ∃ a, a = vA T l k := ⟨_, rfl⟩
      obtain ⟨v, hv⟩ := Int.eq_ofNat_of_zero_le (HVB.out HS.out k hkb)
      have hvx := HVX.out X p k (HTAB.out.mono (Nat.le_refl _) hb) hkb
      rw [hv] at hvx
      have HVC := Lib.hid hvx
      have HKB := Lib.hid hkb
      have hlX := HLW.out.mono (Nat.le_refl _) hb
      clear hvx hst
      obtain ⟨gl, hgl⟩ : ∃ g, decide (0 < ll) = g := ⟨_, rfl⟩
      have hgl2 : decide ((ll : Int) > 0) = gl := by rw [← hgl]; simp
      have hgl3 : decide ((0 : Int) < (ll : Int)) = gl := by rw [← hgl]; simp
      have HGL := Lib.hid hgl
      go_upto_if 42 with fail
      clear hgl hgl2 hgl3
      go_cut [9] (fun s wc => s = .int .i64 a ∧ Hid (X = wc))
      case first =>
        by_cases h0 : ll = 0
        · obtain rfl : gl = false := by rw [← HGL.out]; simp; omega
          have hl0 : l = [] := List.length_eq_zero_iff.1 (by rw [← HLL.out]; exact h0)
          have HA := Lib.hid (show a = 0 by rw [ha, HAN.out k hl0])
          clear h0 hl0 hrX hb hlX
          go_wp2
          go_meet
          exact ⟨by rw [HA.out], Lib.hid rfl⟩
        · obtain rfl : gl = true := by rw [← HGL.out]; simp; omega
          have hln : l ≠ [] := fun e => h0 (by rw [HLL.out, e]; rfl)
          obtain ⟨r, hr⟩ : ∃ r, r = v % ll := ⟨_, rfl⟩
          have hrl : r < ll := by rw [hr]; exact Nat.mod_lt _ (by omega)
          obtain ⟨lb, loff, rfl, hlb, hlc⟩ := hlX hln
          have lr := hlc r (by rw [← HLL.out]; exact hrl)
          have hav : I! l r = a := by rw [ha, HAY.out k hln, hv, Int.toNat_natCast, hr]
          rw [hav] at lr
          have m1 : (v : Int) % (ll : Int) = (r : Int) := by rw [hr]; first | exact (Int.natCast_emod v ll).symm | simp
          have m2 : (v : Int).tmod (ll : Int) = (r : Int) := by rw [hr]; exact Int.ofNat_tmod _ _ |>.symm
          have b0 : (0 : Int) ≤ (r : Int) ∧ (r : Int) < (ll : Int) := by omega
          have d2 : ((ll : Int) == 0) = false := by simp; omega
          have d3 : (ll == 0) = false := by simpa using h0
          have d4 : ¬ ((ll : Int) = 0) := by omega
          clear hln hr hlc hav hrX hb hv ha
          go_wp2_with fail
          refine HVC.out.mono ?_
          rintro e w' ⟨rfl, rfl⟩
          go_wp2
          go_meet
          exact ⟨rfl, Lib.hid rfl⟩
      case rest =>
        obtain ⟨rfl, HWC⟩ := hcut
        obtain rfl : X = wc := HWC.out
        obtain ⟨k3, hk3⟩ : ∃ q, q = k / 3 := ⟨_, rfl⟩
        have hdk : (k : Int) / 3 = (k3 : Int) := by omega
        have HSA := Lib.hid (show ic (smA T l (k + 1)) = ic (smA T l k) ++ [.int .i64 a] from by rw [smA_succ, ← ha]; simp [ic])
        have HSB := Lib.hid (show ic (smB (k + 1)) = ic (smB k) ++ [.int .i64 (k3 : Int)] from by rw [smB_succ, ← hk3]; simp [ic])
        have HX := Lib.hid (owns_below (HST.out.rows.own ⟨3, 1, .slice a1 k ca, k, ic (smA T l k)⟩ (by simp)) ((Below.refl _ _).alloc (Nat.le_refl _) (.cells #[.int .i64 a] 3)))
        have HQ1 := Lib.hid (show k + 1 ≤ maxLen by unfold maxLen; omega)
        have HQ2 := Lib.hid (show (k + 1) * 8 ≤ 140737488355328 by omega)
        have HQ3 := Lib.hid (show W.heap.size ≤ (X.alloc (.cells #[.int .i64 a] 3)).heap.size from by have := hb.size; simp; omega)
        have HQB := Lib.hid hb.size
        have HBX := Lib.hid hb
        clear ha hv hk3 hlX hrX hb c0 c1
        go_wp2_with (at_builtin; refine wpList_append_lies _ rfl _ _ 25 rfl W.heap.size 3 i0 (.int .i64 0) 1 8 (by kernel_rfl) hi0 hz0 hz1 hz2 rfl (by decide) _ _ _ rfl HX.out ⟨X.heap.size, 0, none⟩ 1 1 [.int .i64 a] rfl rfl (World.news_of_block (heap_alloc_new X _)) (by intro u hu; simp at hu; subst hu; rfl) (by decide) HQ1.out HQ2.out HQ3.out _ rfl ?_)
        intro g2 cap2 X2 hown2 hgr2 hat2 hlt2
        have HR2 := Lib.hid (show Rows W.heap.size X2 [⟨3, 1, .slice (some ⟨g2, 0, none⟩) (k + 1) cap2, k + 1, ic (smA T l (k + 1))⟩, ⟨3, 1, .slice b1 k cb, k, ic (smB k)⟩] from by
          have := (HST.out.rows.alloc (.cells #[.int .i64 a] 3)).push 0 _ rfl hown2 hgr2 (by
            rcases hat2 with e | e
            · exact .inl e
            · exact .inr (by rw [e]; simp))
          rw [HSA.out]
          exact this)
        have HB2' := Lib.hid (show Below W.heap.size W X2 from (HBX.out.alloc HQB.out (.cells #[.int .i64 a] 3)).grown hgr2 (by have := HQB.out; simp; omega) (fun q hq => (HX.out.lt q hq).1))
        have HX2 := Lib.hid (owns_below (HR2.out.own ⟨3, 1, .slice b1 k cb, k, ic (smB k)⟩ (by simp)) ((Below.refl _ _).alloc (Nat.le_refl _) (.cells #[.int .i64 (k3 : Int)] 3)))
        have HQ4 := Lib.hid (show W.heap.size ≤ (X2.alloc (.cells #[.int .i64 (k3 : Int)] 3)).heap.size from by have := HB2'.out.size; simp; omega)
        clear hown2 hgr2 hat2 hlt2
        go_wp2_with (at_builtin; refine wpList_append_lies _ rfl _ _ 25 rfl W.heap.size 3 i0 (.int .i64 0) 1 8 (by kernel_rfl) hi0 hz0 hz1 hz2 rfl (by decide) _ _ _ rfl HX2.out ⟨X2.heap.size, 0, none⟩ 1 1 [.int .i64 (k3 : Int)] rfl rfl (World.news_of_block (heap_alloc_new X2 _)) (by intro u hu; simp at hu; subst hu; rfl) (by decide) HQ1.out HQ2.out HQ4.out _ rfl ?_)
        intro g3 cap3 X3 hown3 hgr3 hat3 hlt3
        have HST3 := Lib.hid (show SmSt W X3 T l (k + 1) (.slice (some ⟨g2, 0, none⟩) (k + 1) cap2) (.slice (some ⟨g3, 0, none⟩) (k + 1) cap3) from ⟨by
          have := (HR2.out.alloc (.cells #[.int .i64 (k3 : Int)] 3)).push 1 _ rfl hown3 hgr3 (by
            rcases hat3 with e | e
            · exact .inl e
            · exact .inr (by rw [e]; simp))
          rw [HSB.out]
          exact this, (HB2'.out.alloc HB2'.out.size (.cells #[.int .i64 (k3 : Int)] 3)).grown hgr3 (by have := HB2'.out.size; simp; omega) (fun q hq => (HX2.out.lt q hq).1)⟩)
        clear hown3 hgr3 hat3 hlt3
        go_wp2
        go_roundw
        case rel => exact ⟨k + 1, _, _, cap2, cap3, by have := HKB.out; omega, by go_num, rfl, rfl, HST3.out⟩
        case measure => simp [intOf]; have := HKB.out; omega
    case neg =>
      obtain rfl : k = l3 := by omega
      obtain ⟨a1', ca', hva, hA⟩ := owns_ic (hst.rows.own ⟨3, 1, .slice a1 k ca, k, ic (smA T l k)⟩ (by simp)) (smA_length _ _ _).symm
      obtain ⟨b1', cb', hvb, hB⟩ := owns_ic (hst.rows.own ⟨3, 1, .slice b1 k cb, k, ic (smB k)⟩ (by simp)) (smB_length _).symm
      simp only [Value.slice.injEq, true_and] at hva hvb
      obtain ⟨rfl, rfl⟩ := hva
      obtain ⟨rfl, rfl⟩ := hvb
      have HA := Lib.hid hA
      have HB := Lib.hid hB
      have HBX := Lib.hid (below_more HB3.out hb HB3.out.size)
      have htX := HTAB.out.mono (Nat.le_refl _) hb
      have HTX' := Lib.hid htX
      have HTT := Lib.hid (HT3.out.mono (Nat.le_refl _) hb)
      have HRX := Lib.hid hrX
      have HO1 := Lib.hid (HOF.out X p (smA T l k) k a1 ca (smA_length _ _ _).symm htX HS.out rfl hA)
      clear hst hb hA hB htX hrX hk hkb
      go_wp2_with fail
      refine HO1.out.mono ?_
      rintro e w4 ⟨g1, M1, rfl, -, hr1, hm1, hb4⟩
      have HB4 := Lib.hid (below_more HBX.out hb4 HBX.out.size)
      have HR4 := Lib.hid (HRX.out.after hb4)
      have HTT4 := Lib.hid (HTT.out.mono (Nat.le_refl _) hb4)
      have HTAB4 := Lib.hid (HTX'.out.mono (Nat.le_refl _) hb4)
      have HA4 := Lib.hid (HA.out.mono (Nat.le_refl _) hb4)
      have hB4 := HB.out.mono (Nat.le_refl _) hb4
      have HBb4 := Lib.hid hB4
      have HM1 := Lib.hid hm1
      have HRM1 := Lib.hid hr1
      have HO2 := Lib.hid (HOF.out w4 p (smB k) k b1 cb (smB_length _).symm HTAB4.out HS.out rfl hB4)
      clear hb4 hr1 hm1 hB4
      go_wp2_with fail
      refine HO2.out.mono ?_
      rintro e w5 ⟨g2, M2, rfl, -, hr2, hm2, hb5⟩
      have HB5 := Lib.hid (below_more HB4.out hb5 HB4.out.size)
      have HR5 := Lib.hid (HR4.out.after hb5)
      have HTT5 := Lib.hid (HTT4.out.mono (Nat.le_refl _) hb5)
      have HTAB5 := Lib.hid (HTAB4.out.mono (Nat.le_refl _) hb5)
      have HA5 := Lib.hid (HA4.out.mono (Nat.le_refl _) hb5)
      have HRM15 := Lib.hid (HRM1.out.after hb5)
      have HRM2 := Lib.hid hr2
      obtain ⟨q1, q2, q3⟩ := HEA.out n HNN.out M2 HS.out (by omega) hm2
      have HM2 := Lib.hid hm2
      have HQ := Lib.hid (show (∀ i, i < len → M2 i = (i : Int)) ∧ cnt M2 len = (len : Int) ∧ ∀ k' b, k' < len → DiscAt T (smB k) M2 k' b → b = true from ⟨q1, q2, q3⟩)
      have HDX := Lib.hid (HDI.out w5 n HNN.out (smB k) k b1 cb (smB_length _).symm HTT5.out HS.out rfl (by omega) (HBb4.out.mono (Nat.le_refl _) hb5))
      have c0 := HR5.out.cell (i := 0) rfl
      have c1 := HR5.out.cell (i := 1) rfl
      clear hb5 hr2 hm2 q1 q2 q3
      go_wp2_with fail
      refine HDX.out.mono ?_
      rintro e w6 ⟨M3, D, da, dc, hm3, hD, rfl, hbo, hdi, hb6⟩
      have HB6 := Lib.hid (below_more HB5.out hb6 HB5.out.size)
      have HR6 := Lib.hid (HR5.out.after hb6)
      have HTAB6 := Lib.hid (HTAB5.out.mono (Nat.le_refl _) hb6)
      have HA6 := Lib.hid (HA5.out.mono (Nat.le_refl _) hb6)
      have HRM16 := Lib.hid (HRM15.out.after hb6)
      have HRM26 := Lib.hid (HRM2.out.after hb6)
      obtain ⟨q1, q2, q3⟩ := HEA.out n HNN.out M3 HS.out (by omega) hm3
      have hDl : D.length = len := by rw [q2] at hD; omega
      have HDD := Lib.hid (show ∀ i, i < len → D.getD i false = true from fun i hi => q3 i _ hi (hdi i (by omega)))
      have HBO := Lib.hid hbo
      have HDL := Lib.hid hDl
      rw [hDl]
      clear hb6 hm3 hD hbo hdi q1 q2 q3 hDl c0 c1
      by_cases hto : Told (smA T l k)
      case pos =>
        have HX := Lib.hid (HEO.out w6 n HNN.out p k a1 ca rfl HTAB6.out HS.out HA6.out hto)
        clear hto
        go_wp2_with fail
        refine HX.out.mono ?_
        rintro e w7 ⟨eo, ec, rfl, hb7⟩
        have HB7 := Lib.hid (below_more HB6.out hb7 HB6.out.size)
        have HR7 := Lib.hid (HR6.out.after hb7)
        have HTAB7 := Lib.hid (HTAB6.out.mono (Nat.le_refl _) hb7)
        have HRM17 := Lib.hid (HRM16.out.after hb7)
        have HRM27 := Lib.hid (HRM26.out.after hb7)
        have HBO7 := Lib.hid (HBO.out.mono (Nat.le_refl _) hb7)
        obtain ⟨W8, rfl⟩ : ∃ x : World, x = w7 := ⟨_, rfl⟩
        have HB8 := HB7
        have HR8 := HR7
        have HTAB8 := HTAB7
        have HRM18 := HRM17
        have HRM28 := HRM27
        have HBO8 := HBO7
        clear hb7
        have HSX := Lib.hid (HSO.out W8 n HNN.out p M1 HTAB8.out HS.out HM1.out)
        go_wp2_with fail
        refine HSX.out.mono ?_
        rintro e w9 ⟨g9, rfl, -, hr9, hb9⟩
        have HB9 := Lib.hid (below_more HB8.out hb9 HB8.out.size)
        have HR9 := Lib.hid (HR8.out.after hb9)
        have HRM29 := Lib.hid (HRM28.out.after hb9)
        have HBO9 := Lib.hid (HBO8.out.mono (Nat.le_refl _) hb9)
        have HI9 := Lib.hid (same_iv g1 g9 len M1 M1 w9 (by omega) (HRM18.out.after hb9) hr9 (fun _ _ => rfl))
        clear hb9 hr9
        go_wp2_with fail
        refine HI9.out.mono ?_
        rintro e w10 ⟨rfl, hb10⟩
        have HB10 := Lib.hid (below_more HB9.out hb10 HB9.out.size)
        have hr10 := HR9.out.after hb10
        have HRM210 := Lib.hid (HRM29.out.after hb10)
        have HBO10 := Lib.hid (HBO9.out.mono (Nat.le_refl _) hb10)
        have c0 := hr10.cell (i := 0) rfl
        have c1 := hr10.cell (i := 1) rfl
        obtain ⟨V, rfl⟩ : ∃ x : World, x = w10 := ⟨_, rfl⟩
        clear hb10 hr10
        go_wp2
        clear c0 c1
        go_loopw [18] (fun c ws => ∃ i : Nat, i ≤ len ∧ c = .int .i64 i ∧ Hid (V = ws)) (fun c _ => len - (intOf c).toNat)
        case atStart => exact ⟨0, by omega, rfl, Lib.hid rfl⟩
        case round =>
          obtain ⟨i, hi, rfl, HV⟩ := hrel
          obtain rfl : V = wr := HV.out
          by_cases hib : i < len
          · have hM := HQ.out.1 i hib
            have cM := HRM210.out.cell (iv_get M2 hib)
            rw [hM] at cM
            obtain ⟨db, doff, rfl, hdl, hdc⟩ := HBO10.out (by intro e; have := HDL.out; rw [e] at this; simp at this; omega)
            have hd := hdc i (by have := HDL.out; omega)
            rw [HDD.out i hib] at hd
            clear hM hdl hdc
            go_wp2
            go_roundw
            case rel => exact ⟨i + 1, by omega, by go_num, Lib.hid (by first | rfl | trivial)⟩
            case measure => simp [intOf]; omega
          · obtain rfl : i = len := by omega
            go_wp2
            exact bodyPost_ret (v := .bool true) (by simp [results, Tryz.results8, go_sem]) rfl ⟨rfl, HB10.out⟩
      case neg =>
        have HX := Lib.hid (HEB.out w6 p (smA T l k) k a1 ca (smA_length _ _ _).symm HTAB6.out rfl HA6.out hto)
        have HTN := Lib.hid hto
        clear hto
        go_wp2_with fail
        refine HX.out.mono ?_
        rintro e w7 ⟨rfl, hb7⟩
        have HB7 := Lib.hid (below_more HB6.out hb7 HB6.out.size)
        have HR7 := Lib.hid (HR6.out.after hb7)
        have HTAB7 := Lib.hid (HTAB6.out.mono (Nat.le_refl _) hb7)
        have HRM17 := Lib.hid (HRM16.out.after hb7)
        have HRM27 := Lib.hid (HRM26.out.after hb7)
        have HBO7 := Lib.hid (HBO.out.mono (Nat.le_refl _) hb7)
        have HTX7 := Lib.hid (HTO.out w7 (smA T l k) k a1 ca (smA_length _ _ _).symm (HA6.out.mono (Nat.le_refl _) hb7) (by omega))
        clear hb7
        go_wp2_with fail
        refine HTX7.out.mono ?_
        rintro e w8 ⟨r, rfl, hr, hb8⟩
        obtain rfl : r = false := by
          cases r
          · rfl
          · exact absurd (hr.1 rfl) HTN.out
        obtain ⟨W8, rfl⟩ : ∃ x : World, x = w8 := ⟨_, rfl⟩
        have HB8 := Lib.hid (below_more HB7.out hb8 HB7.out.size)
        have HR8 := Lib.hid (HR7.out.after hb8)
        have HTAB8 := Lib.hid (HTAB7.out.mono (Nat.le_refl _) hb8)
        have HRM18 := Lib.hid (HRM17.out.after hb8)
        have HRM28 := Lib.hid (HRM27.out.after hb8)
        have HBO8 := Lib.hid (HBO7.out.mono (Nat.le_refl _) hb8)
        clear hr hb8
        have HSX := Lib.hid (HSO.out W8 n HNN.out p M1 HTAB8.out HS.out HM1.out)
        go_wp2_with fail
        refine HSX.out.mono ?_
        rintro e w9 ⟨g9, rfl, -, hr9, hb9⟩
        have HB9 := Lib.hid (below_more HB8.out hb9 HB8.out.size)
        have HR9 := Lib.hid (HR8.out.after hb9)
        have HRM29 := Lib.hid (HRM28.out.after hb9)
        have HBO9 := Lib.hid (HBO8.out.mono (Nat.le_refl _) hb9)
        have HI9 := Lib.hid (same_iv g1 g9 len M1 M1 w9 (by omega) (HRM18.out.after hb9) hr9 (fun _ _ => rfl))
        clear hb9 hr9
        go_wp2_with fail
        refine HI9.out.mono ?_
        rintro e w10 ⟨rfl, hb10⟩
        have HB10 := Lib.hid (below_more HB9.out hb10 HB9.out.size)
        have hr10 := HR9.out.after hb10
        have HRM210 := Lib.hid (HRM29.out.after hb10)
        have HBO10 := Lib.hid (HBO9.out.mono (Nat.le_refl _) hb10)
        have c0 := hr10.cell (i := 0) rfl
        have c1 := hr10.cell (i := 1) rfl
        obtain ⟨V, rfl⟩ : ∃ x : World, x = w10 := ⟨_, rfl⟩
        clear hb10 hr10
        go_wp2
        clear c0 c1
        go_loopw [18] (fun c ws => ∃ i : Nat, i ≤ len ∧ c = .int .i64 i ∧ Hid (V = ws)) (fun c _ => len - (intOf c).toNat)
        case atStart => exact ⟨0, by omega, rfl, Lib.hid rfl⟩
        case round =>
          obtain ⟨i, hi, rfl, HV⟩ := hrel
          obtain rfl : V = wr := HV.out
          by_cases hib : i < len
          · have hM := HQ.out.1 i hib
            have cM := HRM210.out.cell (iv_get M2 hib)
            rw [hM] at cM
            obtain ⟨db, doff, rfl, hdl, hdc⟩ := HBO10.out (by intro e; have := HDL.out; rw [e] at this; simp at this; omega)
            have hd := hdc i (by have := HDL.out; omega)
            rw [HDD.out i hib] at hd
            clear hM hdl hdc
            go_wp2
            go_roundw
            case rel => exact ⟨i + 1, by omega, by go_num, Lib.hid (by first | rfl | trivial)⟩
            case measure => simp [intOf]; omega
          · obtain rfl : i = len := by omega
            go_wp2
            exact bodyPost_ret (v := .bool true) (by simp [results, Tryz.results8, go_sem]) rfl ⟨rfl, HB10.out⟩
end Go.Proofs.YtfbpjlfimmjieaaGreat

/- Plain laws: the search round a vertex. certify.together: true just of a vertex whose triangles all hang together. -/
import Derived.Test.YtkjamheoihlekaaGreatQueue
import Derived.Test.YtkjamheoihlekaaGreatSurfDef
import Derived.Test.YtkjamheoihlekaaGreatMapLaw
namespace Go.Proofs.YtkjamheoihlekaaGreat
set_option linter.unusedVariables false
set_option linter.unusedSimpArgs false
open Go.RowKit
open Go.RowKit Go.Maps
theorem hasB_iff {t : Tr} {x : Int} : hasB t x = true ↔ ∃ j, j < 3 ∧ tg t j = x := by
  unfold hasB
  simp only [Bool.or_eq_true, beq_iff_eq]
  constructor
  · rintro ((h | h) | h)
    · exact ⟨0, by omega, h⟩
    · exact ⟨1, by omega, h⟩
    · exact ⟨2, by omega, h⟩
  · rintro ⟨j, hj, h⟩
    match j, hj with
    | 0, _ => exact .inl (.inl h)
    | 1, _ => exact .inl (.inr h)
    | 2, _ => exact .inr h
/-- The lists of triangles at the ends, as far as they are laid. -/
structure EInv (T : List Tr) (v : Int) (I : List Nat) (p j : Nat) (E : Int → List Nat) : Prop where
  sound : ∀ x i, i ∈ E x → i ∈ I ∧ hasB (T! T i) x = true
  full : ∀ q l, q < I.length → l < 3 → (q < p ∨ q = p ∧ l < j) → tg (T! T (I.getD q 0)) l ≠ v → I.getD q 0 ∈ E (tg (T! T (I.getD q 0)) l)
  len : ∀ x, (E x).length ≤ 3 * p + j
theorem EInv.start (T : List Tr) (v : Int) (I : List Nat) : EInv T v I 0 0 (fun _ => []) := ⟨by simp, fun q l _ _ h => by omega, by simp⟩
theorem EInv.skip {T : List Tr} {v : Int} {I : List Nat} {p j : Nat} {E : Int → List Nat} (h : EInv T v I p j E) (hv : tg (T! T (I.getD p 0)) j = v) : EInv T v I p (j + 1) E :=
  ⟨h.sound, fun q l hq hl hlt hne => by
    by_cases e : q = p ∧ l = j
    · obtain ⟨rfl, rfl⟩ := e; exact absurd hv hne
    · exact h.full q l hq hl (by omega) hne, fun x => by have := h.len x; omega⟩
theorem EInv.push {T : List Tr} {v : Int} {I : List Nat} {p j : Nat} {E : Int → List Nat} (h : EInv T v I p j E) (hp : p < I.length) (hj : j < 3) :
    EInv T v I p (j + 1) (fun x => if x = tg (T! T (I.getD p 0)) j then E (tg (T! T (I.getD p 0)) j) ++ [I.getD p 0] else E x) :=
  ⟨fun x i hi => by
    have hm : I.getD p 0 ∈ I := by
      rw [List.getD_eq_getElem?_getD, List.getElem?_eq_getElem hp]; exact List.getElem_mem hp
    split at hi
    · rename_i ex
      simp only [List.mem_append, List.mem_singleton] at hi
      rcases hi with hi | rfl
      · rw [ex]; exact h.sound _ i hi
      · exact ⟨hm, hasB_iff.2 ⟨j, hj, ex.symm⟩⟩
    · exact h.sound x i hi, fun q l hq hl hlt hne => by
    by_cases e : q = p ∧ l = j
    · obtain ⟨rfl, rfl⟩ := e
      rw [if_pos rfl]; simp
    · have := h.full q l hq hl (by omega) hne
      split
      · rename_i e'
        rw [e'] at this
        exact List.mem_append_left _ this
      · exact this, fun x => by
    have h1 := h.len (tg (T! T (I.getD p 0)) j)
    have h2 := h.len x
    split
    · rw [List.length_append, List.length_singleton]; omega
    · omega⟩
theorem EInv.next {T : List Tr} {v : Int} {I : List Nat} {p : Nat} {E : Int → List Nat} (h : EInv T v I p 3 E) : EInv T v I (p + 1) 0 E :=
  ⟨h.sound, fun q l hq hl hlt hne => h.full q l hq hl (by omega) hne, fun x => by have := h.len x; omega⟩
/-- What has been reached. -/
structure TInv (T : List Tr) (v : Int) (I : List Nat) (E : Int → List Nat) (k : Nat) (W : List Nat) : Prop where
  nodup : W.Nodup
  sub : ∀ x, x ∈ W → x ∈ I
  root : I.getD 0 0 ∈ W
  conn : ∀ x, x ∈ W → Conn (PAdj T v) (I.getD 0 0) x
  done : ∀ d x : Nat, d < k → W[d]? = some x → ∀ l, l < 3 → tg (T! T x) l ≠ v → ∀ y, y ∈ E (tg (T! T x) l) → y ∈ W
theorem nodup_sub_length {A : List Nat} : ∀ {B : List Nat}, A.Nodup → (∀ x, x ∈ A → x ∈ B) → A.length ≤ B.length := by
  induction A with
  | nil => simp
  | cons a A ih =>
    intro B hn hs
    obtain ⟨h1, h2⟩ := List.nodup_cons.1 hn
    have hb := hs a (by simp)
    have := ih (B := B.erase a) h2 (fun x hx => by
      have hxa : x ≠ a := fun e => h1 (e ▸ hx)
      exact (List.mem_erase_of_ne hxa).2 (hs x (by simp [hx])))
    rw [List.length_erase_of_mem hb] at this
    have := List.length_pos_of_mem hb
    simp; omega
theorem TInv.len {T : List Tr} {v : Int} {I : List Nat} {E : Int → List Nat} {k : Nat} {W : List Nat} (h : TInv T v I E k W) : W.length ≤ I.length := nodup_sub_length h.nodup h.sub
theorem TInv.start {T : List Tr} {v : Int} {I : List Nat} {E : Int → List Nat} (h0 : 0 < I.length) : TInv T v I E 0 [I.getD 0 0] := by
  refine ⟨by simp, fun x hx => ?_, by simp, fun x hx => ?_, fun d x h => by omega⟩
  · simp at hx; subst hx
    rw [List.getElem?_eq_getElem h0]
    exact List.getElem_mem h0
  · rw [List.mem_singleton] at hx
    rw [hx]
    exact .refl _
theorem TInv.push {T : List Tr} {v : Int} {I : List Nat} {E : Int → List Nat} {k : Nat} {W : List Nat} (h : TInv T v I E k W) (hk : k ≤ W.length) {y : Nat} (hy : y ∈ I) (hn : y ∉ W) (hc : Conn (PAdj T v) (I.getD 0 0) y) : TInv T v I E k (W ++ [y]) := by
  refine ⟨List.nodup_append.2 ⟨h.nodup, by simp, fun a ha b hb => ?_⟩, fun x hx => ?_, List.mem_append_left _ h.root, fun x hx => ?_, fun d x hd hx l hl hne z hz => ?_⟩
  · simp at hb; subst hb
    exact fun e => hn (e ▸ ha)
  · simp only [List.mem_append, List.mem_singleton] at hx
    rcases hx with hx | rfl
    · exact h.sub x hx
    · exact hy
  · simp only [List.mem_append, List.mem_singleton] at hx
    rcases hx with hx | rfl
    · exact h.conn x hx
    · exact hc
  · rw [List.getElem?_append_left (by omega)] at hx
    have := h.done d x hd hx l hl hne z hz
    simp [this]
theorem TInv.pop {T : List Tr} {v : Int} {I : List Nat} {E : Int → List Nat} {k : Nat} {W : List Nat} (h : TInv T v I E k W) {x : Nat} (hx : W[k]? = some x) (hall : ∀ l, l < 3 → tg (T! T x) l ≠ v → ∀ y, y ∈ E (tg (T! T x) l) → y ∈ W) : TInv T v I E (k + 1) W :=
  ⟨h.nodup, h.sub, h.root, h.conn, fun d z hd hz => by
    by_cases e : d = k
    · subst e
      obtain rfl := Option.some.inj (hx.symm.trans hz)
      exact hall
    · exact h.done d z (by omega) hz⟩
/-- All has been looked at: all has been reached. -/
theorem TInv.stop {T : List Tr} {v : Int} {E : Int → List Nat} {W : List Nat} (h : TInv T v (atV T v T.length) E W.length W) (he : EInv T v (atV T v T.length) (atV T v T.length).length 0 E) (hu : Unpinched T v) (h0 : 0 < (atV T v T.length).length) :
    W.length = (atV T v T.length).length := by
  have closed : ∀ i k, PAdj T v i k → i ∈ W → k ∈ W := by
    rintro i k ⟨-, hkl, hi, hk, j, hj, hne, hh⟩ hiW
    obtain ⟨d, hd⟩ := List.mem_iff_getElem?.1 hiW
    obtain ⟨q, hq⟩ := List.mem_iff_getElem?.1 (atV_mem.2 ⟨hkl, hk⟩)
    have hql := (List.getElem?_eq_some_iff.1 hq).1
    have hqk : (atV T v T.length).getD q 0 = k := by rw [List.getD_eq_getElem?_getD, hq]; rfl
    obtain ⟨l, hl, hle⟩ := hasB_iff.1 hh
    have := he.full q l hql hl (.inl hql) (by rw [hqk, hle]; exact hne)
    rw [hqk, hle] at this
    exact h.done d i (List.getElem?_eq_some_iff.1 hd).1 hd j hj hne k this
  have symm : ∀ {i k}, PAdj T v i k → PAdj T v k i := by
    rintro i k ⟨a, b, hi, hk, j, hj, hne, hh⟩
    obtain ⟨l, hl, hle⟩ := hasB_iff.1 hh
    exact ⟨b, a, hk, hi, l, hl, by rw [hle]; exact hne, by rw [hle]; exact hasB_iff.2 ⟨j, hj, rfl⟩⟩
  have walk : ∀ {i k}, Conn (PAdj T v) i k → i ∈ W → k ∈ W := by
    intro i k c hi
    induction c with
    | refl => exact hi
    | step _ s ih => exact closed _ _ s ih
    | back _ s ih => exact closed _ _ (symm s) ih
  have root := atV_mem.1 (h.sub _ h.root)
  refine Nat.le_antisymm h.len (nodup_sub_length (List.Nodup.sublist List.filter_sublist List.nodup_range) fun x hx => ?_)
  have hx' := atV_mem.1 hx
  exact walk (hu _ x root.1 hx'.1 root.2 hx'.2) h.root
/-- All has been reached: all hang together. -/
theorem TInv.back {T : List Tr} {v : Int} {E : Int → List Nat} {k : Nat} {W : List Nat} (h : TInv T v (atV T v T.length) E k W) (hl : W.length = (atV T v T.length).length) : Unpinched T v := by
  have all : ∀ x, x ∈ atV T v T.length → x ∈ W := fun x hx => by
    by_cases hW : x ∈ W
    · exact hW
    · have := nodup_sub_length (A := x :: W) (B := atV T v T.length) (List.nodup_cons.2 ⟨hW, h.nodup⟩) (fun y hy => by
        rcases List.mem_cons.1 hy with rfl | hy
        · exact hx
        · exact h.sub y hy)
      simp at this
      omega
  intro i k hi hk h1 h2
  exact (h.conn i (all i (atV_mem.2 ⟨hi, h1⟩))).symm.trans (h.conn k (all k (atV_mem.2 ⟨hk, h2⟩)))
theorem zero_ints' : ∀ w, (zeroValue 28).run Tryz.prog w = .ok (.slice none 0 0) w := fun _ => by kernel_rfl
/-- A list of numbers in memory that was there. -/
def NumsAt (w : World) (v : Value) (I : List Nat) : Prop := ∃ g cap, v = .slice (some ⟨g, 0, none⟩) I.length cap ∧ g < w.heap.size ∧ ∀ i x : Nat, I[i]? = some x → w.cell? ⟨g, i, none⟩ = some (.int .i64 (x : Int))
theorem msize_dec : ∀ (a b c d e : Nat), True := fun _ _ _ _ _ => trivial
/-- How many entries the map in block m has; how long a slice is. -/
def msize (w : World) (m : Nat) : Nat := match w.heap[m]? with
  | some (.map es _) => es.size
  | _ => 0
def slen : Value → Nat
  | .slice _ n _ => n
  | _ => 0
theorem MapIs.msize {k : TypeId} {κ : Type} {F : KeyFam k κ} {w : World} {m n : Nat} {C : κ → Option Value} (h : MapIs F w m n C) : msize w m = n := by
  obtain ⟨es, clock, h1, h2, _⟩ := h
  simp [Go.Proofs.YtkjamheoihlekaaGreat.msize, h1, h2]
/-- What 'ends' holds. -/
def Ends (w : World) (m : Nat) (E : Int → List Nat) : Prop := ∃ n C, MapIs intFam w m n C ∧ Fam w (m + 1) (fun x => (C x).getD (.slice none 0 0)) E
def reachC (W : List Nat) : Int → Option Value := fun x => if 0 ≤ x ∧ x.toNat ∈ W then some (.bool true) else none
theorem reachC_push (W : List Nat) (y : Nat) : (fun b => if b = (y : Int) then some (Value.bool true) else reachC W b) = reachC (W ++ [y]) := by
  funext b
  unfold reachC
  by_cases e : b = (y : Int)
  · subst e; simp
  · have h : 0 ≤ b → b.toNat ≠ y := fun h0 e' => e (by omega)
    by_cases h0 : 0 ≤ b
    · simp [e, h0, h h0]
    · simp [e, h0]
theorem run_cut1 (g o n c : Nat) (ww : World) : (Instr.sliceAt 28 (.slice (some ⟨g, o, none⟩) (n + 1) c) (some (.int .i64 1)) none none).run Tryz.prog ww =
    .ok (.slice (if c = 1 then some ⟨g, o, none⟩ else some ⟨g, o + 1, none⟩) n (c - 1)) ww := by
  have hu : Tryz.prog.underlying 28 = some (.slice (Tryz.prog.elem 28)) := by kernel_rfl
  have hz : (sizeOf (Tryz.prog.elem 28)).run Tryz.prog ww = .ok 1 ww := by kernel_rfl
  rw [run_sliceAt_slice ww _ _ _ _ _ hu, run_slice_l (h0 := by omega) (h1 := by omega) (ht := hu), hz]
  simp [Result.andThen, sliced, Addr.add_lit]
theorem hm_len {k : TypeId} {κ : Type} {F : KeyFam k κ} {w : World} {m n : Nat} {C : κ → Option Value} (h : MapIs F w m n C) : (Builtin.len_ #[67] 3 #[.map (some m)]).run Tryz.prog w = .ok (.int .i64 (n : Int)) w := by
  obtain ⟨es, clock, h1, h2, _⟩ := h
  have hu : Tryz.prog.underlying 67 = some (.map 3 4) := by kernel_rfl
  simp [Builtin.len_, run_underlying hu, MapKept.run_getObj_map h1, Result.andThen, goInt, h2]
/-- What is told of P. -/
def TellsB (P : Prop) (e : Ending) : Prop := ∃ r : Bool, e = .returned (.bool r) ∧ (r = true ↔ P)
set_option maxRecDepth 100000 in
set_option maxHeartbeats 2000000 in
theorem together_any (N : Int) (ao : Option Addr) (cap : Nat) (T : List Tr) (v : Int) (tv : Value) (w : World) (hT : TrisAt w ao T) (hl : T.length ≤ 10000) (hI64 : ∀ i, i < T.length → ∀ j, I64 (tg (T! T i) j))
    (htv : NumsAt w tv (atV T v T.length)) (h0 : 0 < (atV T v T.length).length) :
    Calls Tryz.prog 159 #[.agg #[.int .i64 N, .slice ao T.length cap], .int .i64 v, tv] w fun e w' => TellsB (Unpinched T v) e ∧ Below w.heap.size w w' := by
  obtain ⟨i0, hi, hz0, hz1, hz2⟩ := info_parts info3
  obtain ⟨gt, ct, rfl, hgt, hcells⟩ := htv
  have hIle := atV_le T v T.length
  have hImem := Lib.hid (fun x (hx : x ∈ atV T v T.length) => atV_mem.1 hx)
  obtain ⟨I, hI⟩ : ∃ I, I = atV T v T.length := ⟨_, rfl⟩
  rw [← hI] at hIle hImem hcells h0 ⊢
  have HI := Lib.hid hI
  obtain ⟨len, hlen⟩ : ∃ n, n = T.length := ⟨_, rfl⟩
  rw [← hlen] at hl hIle ⊢
  have HL := Lib.hid hlen
  have HT := Lib.hid hT
  have HC := Lib.hid hcells
  have H64 := Lib.hid hI64
  have hmm := @run_makeMap Tryz.prog
  clear hlen hT hI hcells hI64
  have HE0 := Lib.hid (show Ends ((w.alloc (.cells #[.int .i64 N, .slice ao len cap] 24)).alloc (.map #[] 0)) (w.heap.size + 1) (fun _ => []) from by
    have h := MapIs.made (F := intFam) (w.alloc (.cells #[.int .i64 N, .slice ao len cap] 24))
    have e : (w.alloc (.cells #[.int .i64 N, .slice ao len cap] 24)).heap.size = w.heap.size + 1 := by simp
    rw [e] at h
    exact ⟨0, _, h, Fam.nil _ _⟩)
  have HB0 := Lib.hid (show Below (w.heap.size + 1) (w.alloc (.cells #[.int .i64 N, .slice ao len cap] 24)) ((w.alloc (.cells #[.int .i64 N, .slice ao len cap] 24)).alloc (.map #[] 0)) from (Below.refl _ _).alloc (by simp) _)
  go_enter Tryz.func159, Tryz.ntmps159
  go_wp2
  go_loopw [22] (fun i ws => ∃ (p : Nat) (E : Int → List Nat), p ≤ I.length ∧ i = .int .i64 p ∧ Ends ws (w.heap.size + 1) E ∧ EInv T v I p 0 E ∧
      Below (w.heap.size + 1) (w.alloc (.cells #[.int .i64 N, .slice ao len cap] 24)) ws) (fun i _ => I.length - (intOf i).toNat)
  case atStart => exact ⟨0, _, by omega, rfl, HE0.out, EInv.start _ _ _, HB0.out⟩
  case round =>
    clear HE0 HB0
    obtain ⟨p, E, hp, rfl, hen, hei, hb⟩ := hrel
    obtain ⟨hc0, hc1, hbw, hsz⟩ := box_soup hb
    have HE := Lib.hid hen
    have HEI := Lib.hid hei
    have HB := Lib.hid hb
    have HBw := Lib.hid hbw
    obtain ⟨W1, rfl⟩ : ∃ W1 : World, W1 = wr := ⟨_, rfl⟩
    clear hen hei hb hbw
    by_cases hpm : p < I.length
    · obtain ⟨q, hq⟩ : ∃ q, I[p]? = some q := ⟨_, List.getElem?_eq_getElem hpm⟩
      have hqc := (HBw.out.cell (p := ⟨gt, p, none⟩) hgt).trans (HC.out p q hq)
      have hql := (hImem.out q (List.mem_of_getElem? hq)).1
      rw [← HL.out] at hql
      obtain ⟨b, off, x, y, z, rfl, ht, g0, g1, g2, hbs, hbs'⟩ := HT.out.get (Nat.le_refl _) HBw.out (i := q) (by have := HL.out; omega)
      have HQ := Lib.hid (show I.getD p 0 = q from by rw [List.getD_eq_getElem?_getD, hq]; rfl)
      have HI64 := Lib.hid (H64.out q (by have := HL.out; omega))
      rw [ht.out] at HI64
      clear hq hbs hbs'
      go_wp2
      clear hc0 hc1 hqc g0 g1 g2
      go_loopw [31] (fun i ws => ∃ (j : Nat) (E : Int → List Nat), j ≤ 3 ∧ i = .int .i64 j ∧ Ends ws (w.heap.size + 1) E ∧ EInv T v I p j E ∧
          Below (w.heap.size + 1) (w.alloc (.cells #[.int .i64 N, .slice (some ⟨b, off, none⟩) len cap] 24)) ws) (fun i _ => 3 - (intOf i).toNat)
      case atStart => exact ⟨0, E, by omega, rfl, HE.out, HEI.out, HB.out⟩
      case round =>
        clear HE HEI HB HBw
        obtain ⟨j, E, hj, rfl, ⟨n, C, hm, hfam⟩, hei, hb⟩ := hrel
        by_cases hj3 : j < 3
        · have hix := index_tri x y z j hj3
          obtain ⟨u, hu⟩ : ∃ u, Hid (tg (x, y, z) j = u) := ⟨_, rfl⟩
          have hu64 : I64 u := by rw [← hu.out]; exact HI64.out j
          have hTu : tg (T! T (I.getD p 0)) j = u := by rw [HQ.out, ht.out, hu.out]
          rw [hu.out] at hix
          cases huv : u == v
          · have hne : (u != v) = true := by simp [bne, huv]
            have hlk := hm.look 88 28 (by kernel_rfl) zero_ints' u hu64 false
            simp only [intFam, Bool.false_eq_true, if_false] at hlk
            have hEl := hei.len u
            have HPU := Lib.hid (hei.push hpm hj3)
            rw [hTu, HQ.out] at HPU
            have hown := hfam.1 u
            obtain ⟨vu, hvu⟩ : ∃ vu, (C u).getD (.slice none 0 0) = vu := ⟨_, rfl⟩
            simp only [hvu] at hlk hown
            have HVU := Lib.hid hvu
            have HF := Lib.hid hfam
            have HM := Lib.hid hm
            have HB := Lib.hid hb
            have HO := Lib.hid (hown.alloc (.cells #[.int .i64 (q : Int)] 3))
            have hbsz := hb.size
            simp at hbsz
            clear hm hfam hei hb hvu hown hu hTu
            go_wp2_with (at_builtin; refine wpList_append_own_at _ rfl _ _ 28 rfl (w.heap.size + 2) 3 i0 (.int .i64 0) 1 8 (by kernel_rfl) hi hz0 hz1 hz2 rfl (by decide) _ _ _ rfl HO.out ⟨wr.heap.size, 0, none⟩ 1 1 [.int .i64 (q : Int)] rfl rfl ?c1 ?c2 ?c3 ?c4 ?c5 ?_)
            case c1 => exact cell_one_new _ _ _
            case c2 => intro u hu; simp at hu; subst hu; rfl
            case c3 => unfold maxLen; omega
            case c4 => omega
            case c5 => simp; omega
            intro v' w3 hown3 hg3 _ hat3
            have hfam3 := (HF.out.more ((Below.refl _ _).alloc (Nat.le_refl _) (.cells #[.int .i64 (q : Int)] 3))).push u q v' (by exact hown3) (by rw [HVU.out]; exact hg3) (by
              rw [HVU.out]
              rcases hat3 with h | h
              · exact .inl h
              · exact .inr ⟨wr.heap.size + 1, by simp, h⟩)
            have hm3 := (HM.out.below (Nat.le_refl _) ((Below.refl _ _).alloc (Nat.le_refl _) (.cells #[.int .i64 (q : Int)] 3))).same (w' := w3) (hg3.block _ (by have := HM.out.lt; simp; omega) (by
              intro e
              have := (HO.out.lt _ e.symm).1
              omega))
            obtain ⟨w4, hst, hm4, hg4⟩ := hm3.store 88 28 (by kernel_rfl) u hu64 v'
            simp only [intFam] at hst
            have HM4 := Lib.hid (show Ends w4 (w.heap.size + 1) (fun x => if x = u then E u ++ [q] else E x) from ⟨_, _, hm4, by
              have h := hfam3.other hg4 (Nat.lt_succ_self _)
              have e : (fun x => (if x = u then some v' else C x).getD (.slice none 0 0)) = fun x => if x = u then v' else (C x).getD (.slice none 0 0) := by
                funext x; by_cases e : x = u <;> simp [e]
              rw [e]; exact h⟩)
            have HB4 := Lib.hid (((HB.out.alloc (by omega) (.cells #[.int .i64 (q : Int)] 3)).grown hg3 (by simp; omega) (fun k hk => by have := (HO.out.lt _ hk).1; omega)).grown hg4 (by have := hg3.size; simp at this; omega) (by intro k hk; cases hk; omega))
            clear hown3 hg3 hat3 hfam3 hm3 hm4 hg4 hlk
            go_wp2
            go_roundw
            case rel => exact ⟨j + 1, _, by omega, by go_num, HM4.out, HPU.out, HB4.out⟩
            case measure => simp [intOf]; omega
          · have hne : (u != v) = false := by simp [bne, huv]
            have HEI := Lib.hid (hei.skip (by rw [hTu]; simpa using huv))
            have HE := Lib.hid (show Ends wr (w.heap.size + 1) E from ⟨n, C, hm, hfam⟩)
            have HB := Lib.hid hb
            clear hm hfam hei hb hu hTu
            go_wp2
            go_roundw
            case rel => exact ⟨j + 1, E, by omega, by go_num, HE.out, HEI.out, HB.out⟩
            case measure => simp [intOf]; omega
        · obtain rfl : j = 3 := by omega
          have HEI := Lib.hid hei.next
          have HE := Lib.hid (show Ends wr (w.heap.size + 1) E from ⟨n, C, hm, hfam⟩)
          have HB := Lib.hid hb
          clear hm hfam hei hb
          go_wp2
          go_roundw
          case rel => exact ⟨p + 1, E, by omega, by go_num, HE.out, HEI.out, HB.out⟩
          case measure => simp [intOf]; omega
    · obtain rfl : p = I.length := by omega
      obtain ⟨r, hr⟩ : ∃ r, I[0]? = some r := ⟨_, List.getElem?_eq_getElem h0⟩
      have hrI : I.getD 0 0 = r := by rw [List.getD_eq_getElem?_getD, hr]; rfl
      have hq1 := (HBw.out.cell (p := ⟨gt, 0, none⟩) hgt).trans (HC.out 0 r hr)
      have hrl := (hImem.out r (List.mem_of_getElem? hr)).1
      rw [← HL.out] at hrl
      have hr64 : I64 (r : Int) := ⟨by omega, by omega⟩
      have hq1m : (W1.alloc (.map #[] 0)).cell? ⟨gt, 0, none⟩ = some (.int .i64 (r : Int)) := (((Below.refl _ _).alloc (Nat.le_refl _) (.map #[] 0)).cell (p := ⟨gt, 0, none⟩) (show gt < W1.heap.size by have := HBw.out.size; omega)).trans hq1
      obtain ⟨w2, hst, hm2, hg2⟩ := (MapIs.made (F := intFam) W1).store 67 4 (by kernel_rfl) (r : Int) hr64 (.bool true)
      simp only [intFam] at hst
      have hb2 : Below W1.heap.size W1 w2 := ((Below.refl _ _).alloc (Nat.le_refl _) (.map #[] 0)).grown hg2 (by simp) (by intro k hk; cases hk; omega)
      have hq2 : w2.cell? ⟨gt, 0, none⟩ = some (.int .i64 (r : Int)) := (hb2.cell (p := ⟨gt, 0, none⟩) (show gt < W1.heap.size by have := HBw.out.size; omega)).trans hq1
      have hC2 : (fun b => if b = (r : Int) then some (Value.bool true) else none) = reachC [r] := by
        have h := reachC_push [] r
        have e : reachC [] = fun _ => none := by funext b; simp [reachC]
        rw [e] at h
        exact h
      rw [hC2] at hm2
      have hs2 := hg2.size
      simp at hs2
      have HM2 := Lib.hid (hm2.below (Nat.le_refl _) ((Below.refl _ _).alloc (Nat.le_refl _) (.cells #[.int .i64 (r : Int)] 3)))
      have HQ2 := Lib.hid (QRow.of_owns ((RowIs.made w2 3 (nv [r])).owns (base := W1.heap.size + 1) (size := 1) (n := 1) (by omega) rfl (by decide)) rfl (by decide))
      have HB2 := Lib.hid (hb2.alloc (by omega) (.cells #[.int .i64 (r : Int)] 3))
      have HT0 := Lib.hid (show TInv T v I E 0 [r] from by rw [← hrI]; exact TInv.start h0)
      clear hr hrI hm2 hb2 hg2 hC2 hi hz0 hz1 hz2 i0
      have hgs1 := HBw.out.size
      go_wp2
      clear hst hq1 hq1m hq2 hmm
      go_loopw [13] (fun tv ws => ∃ (k : Nat) (W : List Nat), k ≤ W.length ∧ QRow ws (W1.heap.size + 1) tv (W.drop k) ∧ MapIs intFam ws W1.heap.size W.length (reachC W) ∧ TInv T v I E k W ∧ Below W1.heap.size W1 ws)
        (fun tv ws => 2 * (I.length - msize ws W1.heap.size) + slen tv)
      case atStart => exact ⟨0, [r], by simp, by exact HQ2.out, HM2.out, HT0.out, HB2.out⟩
      case round =>
        clear HM2 HQ2 HB2 HT0
        obtain ⟨k, W, hk, hqr, hmr, hti, hb⟩ := hrel
        have HM := Lib.hid hmr
        have HTI := Lib.hid hti
        have HB2 := Lib.hid hb
        have hWI := hti.len
        obtain ⟨W3, rfl⟩ : ∃ W3 : World, W3 = wr := ⟨_, rfl⟩
        have hc0' := (hb.cell (p := ⟨w.heap.size, 0, none⟩) hsz).trans hc0
        have hc1' := (hb.cell (p := ⟨w.heap.size, 1, none⟩) hsz).trans hc1
        have hms := hmr.msize
        clear hmr hti hb
        by_cases hkW : k < W.length
        · obtain ⟨x, hx⟩ : ∃ x, W[k]? = some x := ⟨_, List.getElem?_eq_getElem hkW⟩
          have hdrop : W.drop k = x :: W.drop (k + 1) := by
            rw [List.drop_eq_getElem_cons hkW]
            rw [(List.getElem?_eq_some_iff.1 hx).2]
          rw [hdrop] at hqr
          obtain ⟨gq, oq, cq, hveq, hgq, hnq, hcq, hxq, hq1, hq2⟩ := hqr.head
          obtain ⟨nd, hnd⟩ : ∃ nd, (W.drop (k + 1)).length = nd := ⟨_, rfl⟩
          rw [hnd] at hveq hnq hq1 hq2
          subst hveq
          obtain ⟨v2, hsl, hv2⟩ : ∃ v2, (∀ ww, (Instr.sliceAt 28 (.slice (some ⟨gq, oq, none⟩) (nd + 1) cq) (some (.int .i64 1)) none none).run Tryz.prog ww = .ok v2 ww) ∧ QRow W3 (W1.heap.size + 1) v2 (W.drop (k + 1)) := by
            by_cases h1 : cq = 1
            · exact ⟨_, fun ww => run_cut1 _ _ _ _ ww, by rw [if_pos h1]; have := hq1 h1; subst h1; exact this⟩
            · exact ⟨_, fun ww => run_cut1 _ _ _ _ ww, by rw [if_neg h1]; exact hq2⟩
          have hxl := (hImem.out x (HTI.out.sub x (List.mem_of_getElem? hx))).1
          rw [← HL.out] at hxl
          obtain ⟨b, off, x0, x1, x2, rfl, ht, g0, g1, g2, -, -⟩ := HT.out.get (Nat.le_refl _) (below_more HBw.out HB2.out (by omega)) (i := x) (by have := HL.out; omega)
          have HV := Lib.hid hv2
          have HX := Lib.hid hx
          have HI64 := Lib.hid (H64.out x (by have := HL.out; omega))
          have HDL := Lib.hid (show nd + 1 = W.length - k from by rw [← hnd]; simp; omega)
          rw [ht.out] at HI64
          clear hq1 hq2 hv2 hx hdrop hqr hnd
          go_wp2
          clear hc0' hc1' g0 g1 g2 hxq hsl
          go_loopw [69, 13] (fun i tv ws => ∃ (j : Nat) (V : List Nat), j ≤ 3 ∧ i = .int .i64 j ∧ k + 1 ≤ V.length ∧ W.length ≤ V.length ∧ QRow ws (W1.heap.size + 1) tv (V.drop (k + 1)) ∧ MapIs intFam ws W1.heap.size V.length (reachC V) ∧ TInv T v I E k V ∧ V[k]? = some x ∧
              (∀ l, l < j → tg (T! T x) l ≠ v → ∀ y, y ∈ E (tg (T! T x) l) → y ∈ V) ∧ Below W1.heap.size W1 ws) (fun i _ _ => 3 - (intOf i).toNat)
          case atStart => exact ⟨0, W, by omega, rfl, by omega, by omega, HV.out, HM.out, HTI.out, HX.out, fun l h => by omega, HB2.out⟩
          case round =>
            clear HV HM HTI HX HB2
            obtain ⟨j, V, hj, rfl, hkV, hWV, hqr, hmr, hti, hx, hall, hb⟩ := hrel
            have HQ := Lib.hid hqr
            have HM := Lib.hid hmr
            have HTI := Lib.hid hti
            have HX := Lib.hid hx
            have HA := Lib.hid hall
            have HB3 := Lib.hid hb
            have hVI := hti.len
            have hms' := hmr.msize
            obtain ⟨W4, rfl⟩ : ∃ W4 : World, W4 = wr := ⟨_, rfl⟩
            clear hqr hmr hti hx hall
            by_cases hj3 : j < 3
            · have hjd : decide ((j : Int) < 3) = true := by simp; omega
              have hix := index_tri x0 x1 x2 j hj3
              obtain ⟨u, hu⟩ : ∃ u, Hid (tg (x0, x1, x2) j = u) := ⟨_, rfl⟩
              have hu64 : I64 u := by rw [← hu.out]; exact HI64.out j
              have hTu : tg (T! T x) j = u := by rw [ht.out, hu.out]
              rw [hu.out] at hix
              have HTU := Lib.hid hTu
              clear hu hTu
              cases huv : u == v
              · have hnuv : ¬ u = v := by simpa using huv
                obtain ⟨n, C, hm, hfam⟩ := HE.out
                have hlk := (hm.same (w' := W4) (hb.block _ (by have := hm.lt; omega))).look 88 28 (by kernel_rfl) zero_ints' u hu64 false
                simp only [intFam, Bool.false_eq_true, if_false] at hlk
                have hown := hfam.1 u
                obtain ⟨vu, hvu⟩ : ∃ vu, (C u).getD (.slice none 0 0) = vu := ⟨_, rfl⟩
                simp only [hvu] at hlk hown
                obtain ⟨au, cu, rfl⟩ := owns_slice hown
                have HO := Lib.hid hown
                have hEl := HEI.out.len u
                clear hm hfam hvu hown hb hnuv
                go_wp2
                clear hlk hix
                go_loopw [79, 13] (fun i tv ws => ∃ (l : Nat) (V : List Nat), l ≤ (E u).length ∧ i = .int .i64 l ∧ k + 1 ≤ V.length ∧ W.length ≤ V.length ∧ QRow ws (W1.heap.size + 1) tv (V.drop (k + 1)) ∧ MapIs intFam ws W1.heap.size V.length (reachC V) ∧ TInv T v I E k V ∧ V[k]? = some x ∧
                    (∀ l, l < j → tg (T! T x) l ≠ v → ∀ y, y ∈ E (tg (T! T x) l) → y ∈ V) ∧ (∀ q y : Nat, q < l → (E u)[q]? = some y → y ∈ V) ∧ Below W1.heap.size W1 ws) (fun i _ _ => (E u).length - (intOf i).toNat)
                case atStart => exact ⟨0, V, by omega, rfl, hkV, hWV, HQ.out, HM.out, HTI.out, HX.out, HA.out, fun q y h => by omega, HB3.out⟩
                case round =>
                  clear HQ HM HTI HX HA HB3
                  obtain ⟨l, V, hl', rfl, hkV, hWV, hqr, hmr, hti, hx, hall, hdone, hb⟩ := hrel
                  have hVI := hti.len
                  by_cases hll : l < (E u).length
                  · obtain ⟨y, hy⟩ : ∃ y, (E u)[l]? = some y := ⟨_, List.getElem?_eq_getElem hll⟩
                    obtain ⟨gu, cu', hEq, hgu1, hgu2, -, -, hcu, -⟩ := owns_block HO.out (by omega)
                    cases hEq
                    have hyc := (hb.cell (p := ⟨gu, l, none⟩) hgu2).trans (hcu l _ (nv_get hy))
                    have hyI := (HEI.out.sound u y (List.mem_of_getElem? hy)).1
                    have hyl := (hImem.out y hyI).1
                    rw [← HL.out] at hyl
                    have hy64 : I64 (y : Int) := ⟨by omega, by omega⟩
                    have hlk := hmr.look 67 4 (by kernel_rfl) zero_bool (y : Int) hy64 false
                    simp only [intFam, Bool.false_eq_true, if_false] at hlk
                    by_cases hyV : y ∈ V
                    · have hr1 : reachC V (y : Int) = some (.bool true) := by simp [reachC, hyV]
                      rw [hr1, Option.getD_some] at hlk
                      have HQ := Lib.hid hqr
                      have HM := Lib.hid hmr
                      have HTI := Lib.hid hti
                      have HX := Lib.hid hx
                      have HA := Lib.hid hall
                      have HD := Lib.hid (show ∀ q z : Nat, q < l + 1 → (E u)[q]? = some z → z ∈ V from fun q z hq hz => by
                        by_cases e : q = l
                        · subst e
                          obtain rfl := Option.some.inj (hy.symm.trans hz)
                          exact hyV
                        · exact hdone q z (by omega) hz)
                      have HB4 := Lib.hid hb
                      clear hqr hmr hti hx hall hdone hb hr1 hcu
                      go_wp2
                      go_roundw
                      case rel => exact ⟨l + 1, V, by omega, by go_num, hkV, hWV, HQ.out, HM.out, HTI.out, HX.out, HA.out, HD.out, HB4.out⟩
                      case measure => simp [intOf]; omega
                    · have hr1 : reachC V (y : Int) = none := by simp [reachC, hyV]
                      rw [hr1, Option.getD_none] at hlk
                      obtain ⟨w5, hst, hm5, hg5⟩ := hmr.store 67 4 (by kernel_rfl) (y : Int) hy64 (.bool true)
                      simp only [intFam] at hst
                      rw [hr1, reachC_push] at hm5
                      simp only [Option.isSome_none, Bool.false_eq_true, if_false] at hm5
                      have hyc2 := (hti.conn x (List.mem_of_getElem? hx)).step ⟨(hImem.out x (hti.sub x (List.mem_of_getElem? hx))).1, (hImem.out y hyI).1, (hImem.out x (hti.sub x (List.mem_of_getElem? hx))).2, (hImem.out y hyI).2, j, hj3, by rw [HTU.out]; simpa using huv, by rw [HTU.out]; exact (HEI.out.sound u y (List.mem_of_getElem? hy)).2⟩
                      have HT5 := Lib.hid (hti.push (by omega) hyI hyV hyc2)
                      have hV5 := (hti.push (by omega) hyI hyV hyc2).len
                      have HX5 := Lib.hid (show (V ++ [y])[k]? = some x from by rw [List.getElem?_append_left (by omega)]; exact hx)
                      have HA5 := Lib.hid (show ∀ l, l < j → tg (T! T x) l ≠ v → ∀ z, z ∈ E (tg (T! T x) l) → z ∈ V ++ [y] from fun l hl hne z hz => List.mem_append_left _ (hall l hl hne z hz))
                      have HD5 := Lib.hid (show ∀ q z : Nat, q < l + 1 → (E u)[q]? = some z → z ∈ V ++ [y] from fun q z hq hz => by
                        by_cases e : q = l
                        · subst e
                          obtain rfl := Option.some.inj (hy.symm.trans hz)
                          simp
                        · exact List.mem_append_left _ (hdone q z (by omega) hz))
                      have HQ5 := Lib.hid (hqr.kept hg5 (Nat.lt_succ_self _))
                      have hb5 := hb.grown hg5 hb.size (by intro q hq; cases hq; omega)
                      have HB5 := Lib.hid hb5
                      have HM5 := Lib.hid hm5
                      have hs5 := hg5.size
                      have hmlt := hmr.lt
                      have HDR := Lib.hid (show V.drop (k + 1) ++ [y] = (V ++ [y]).drop (k + 1) from by rw [List.drop_append_of_le_length (by omega)])
                      have hdl : (V.drop (k + 1)).length ≤ 100000 := by simp; omega
                      clear hqr hmr hti hx hall hdone hb hb5 hm5 hg5 hr1 hcu
                      go_wp2_with (at_builtin; refine wpList_append_q _ rfl _ _ rfl (W1.heap.size + 1) _ _ rfl HQ5.out y _ rfl (by first | rfl | simp) hdl (by omega) ?_)
                      intro v6 w6 hq6 hbel
                      have HQ6 := Lib.hid (show QRow w6 (W1.heap.size + 1) v6 ((V ++ [y]).drop (k + 1)) from by rw [← HDR.out]; exact hq6)
                      have HB6 := Lib.hid (hbel W1.heap.size W1 (by omega) HB5.out)
                      have HM6 := Lib.hid (HM5.out.same (w' := w6) ((hbel (W1.heap.size + 1) w5 (Nat.le_refl _) (Below.refl _ _)).block _ (Nat.lt_succ_self _)))
                      clear hq6 hbel
                      go_wp2
                      go_roundw
                      case rel => first | exact ⟨l + 1, V ++ [y], by omega, by go_num, by simp; omega, by simp; omega, HQ6.out, by rw [List.length_append]; exact HM6.out, HT5.out, HX5.out, HA5.out, HD5.out, HB6.out⟩ | ((repeat apply Exists.intro); exact ⟨⟨l + 1, V ++ [y], by omega, by go_num, by simp; omega, by simp; omega, HQ6.out, by rw [List.length_append]; exact HM6.out, HT5.out, HX5.out, HA5.out, HD5.out, HB6.out⟩, rfl⟩)
                      case measure => simp [intOf]; omega
                  · obtain rfl : l = (E u).length := by omega
                    have HQ := Lib.hid hqr
                    have HM := Lib.hid hmr
                    have HTI := Lib.hid hti
                    have HX := Lib.hid hx
                    have HA := Lib.hid (show ∀ l, l < j + 1 → tg (T! T x) l ≠ v → ∀ y, y ∈ E (tg (T! T x) l) → y ∈ V from fun l hl hne y hy => by
                      by_cases e : l = j
                      · subst e
                        rw [HTU.out] at hy
                        obtain ⟨q, hq⟩ := List.mem_iff_getElem?.1 hy
                        exact hdone q y (List.getElem?_eq_some_iff.1 hq).1 hq
                      · exact hall l (by omega) hne y hy)
                    have HB4 := Lib.hid hb
                    clear hqr hmr hti hx hall hdone hb
                    go_wp2
                    go_roundw
                    case rel => exact ⟨j + 1, V, by omega, by go_num, hkV, hWV, HQ.out, HM.out, HTI.out, HX.out, HA.out, HB4.out⟩
                    case measure => simp [intOf]; omega
              · have HA2 := Lib.hid (show ∀ l, l < j + 1 → tg (T! T x) l ≠ v → ∀ y, y ∈ E (tg (T! T x) l) → y ∈ V from fun l hl hne y hy => by
                  by_cases e : l = j
                  · subst e
                    rw [HTU.out] at hne
                    exact absurd (by simpa using huv) hne
                  · exact HA.out l (by omega) hne y hy)
                clear hb
                go_wp2
                go_roundw
                case rel => exact ⟨j + 1, V, by omega, by go_num, hkV, hWV, HQ.out, HM.out, HTI.out, HX.out, HA2.out, HB3.out⟩
                case measure => simp [intOf]; omega
            · obtain rfl : j = 3 := by omega
              have HTP := Lib.hid (HTI.out.pop HX.out HA.out)
              obtain ⟨gv, ov, cv, curv, hve, -⟩ := HQ.out
              subst hve
              clear hb
              go_wp2
              go_roundw
              case rel => exact ⟨k + 1, V, hkV, HQ.out, HM.out, HTP.out, HB3.out⟩
              case measure =>
                have h1 := HDL.out
                rw [hms, hms']
                simp only [slen, List.length_drop]
                omega
        · obtain rfl : k = W.length := by omega
          rw [List.drop_length] at hqr
          obtain ⟨gq, oq, cq, cur, rfl, -⟩ := hqr
          have HR := Lib.hid (show W.length = I.length ↔ Unpinched T v from by
            have h1 := HTI.out
            have h2 := HEI.out
            have h3 := h0
            rw [HI.out] at h1 h2 h3 ⊢
            exact ⟨h1.back, fun hu => h1.stop h2 hu h3⟩)
          have hlen := hm_len HM.out
          have HBe := Lib.hid (below_more HBw.out HB2.out (by omega))
          clear hms
          by_cases hWI : W.length = I.length
          · rw [hWI] at hlen
            have HU := Lib.hid (HR.out.1 hWI)
            clear hWI
            go_wp2
            go_ret
            exact ⟨⟨true, rfl, fun _ => HU.out, fun _ => rfl⟩, HBe.out⟩
          · have HU := Lib.hid (show ¬ Unpinched T v from fun h => hWI (HR.out.2 h))
            obtain ⟨wl, hwl⟩ : ∃ q, q = W.length := ⟨_, rfl⟩
            obtain ⟨il, hil⟩ : ∃ q, q = I.length := ⟨_, rfl⟩
            rw [← hwl] at hlen hWI
            rw [← hil] at hWI
            have d0 : ((wl : Int) == (il : Int)) = false := by simp; omega
            have d1 : (wl == il) = false := by simp; omega
            rw [← hil]
            clear hWI hil hwl
            go_wp2
            go_ret
            exact ⟨⟨false, by first | rfl | (simp [d0, d1]; done), (fun h => by cases h), fun h => absurd h HU.out⟩, HBe.out⟩
end Go.Proofs.YtkjamheoihlekaaGreat

/- corner.New: the table of a surface. -/
import Derived.Test.YtkjamheoihlekaaGreatCertPairs
import Derived.Test.YtkjamheoihlekaaGreatSurfDef
import Derived.Deep.RegionHeld3
import Derived.Deep.DeepCutAuto
import Derived.Deep.CutRange
namespace Go.Proofs.YtkjamheoihlekaaGreat
set_option linter.unusedVariables false
set_option linter.unusedSimpArgs false
open Go.RowKit Go.Maps
/-- A table as it is laid: the surface's copy, the faces, the first corners. -/
def Laid (w : World) (base p m f : Nat) (N : Nat) (T : List Tr) (C : Int × Int → Option Value) (F : Nat → Int) : Prop :=
  base ≤ p ∧ base ≤ m ∧ base ≤ f ∧ ∃ ao cap n, RowIs w p 109 [.int .i64 (N : Int), .slice ao T.length cap, .map (some m), .slice (some ⟨f, 0, none⟩) N N] ∧
    w.ownsRow base 72 3 (.slice ao T.length cap) T.length (tcells T) ∧ MapIs edgeFam w m n C ∧ RowIs w f 3 (iv F N)
/-- An empty map lies in block m. -/
def MapNew (w : World) (m : Nat) : Prop := w.heap[m]? = some (.map #[] 0)
theorem MapNew.made' (w : World) (k : Nat) (h : k = w.heap.size) : MapNew (w.alloc (.map #[] 0)) k := by subst h; exact heap_alloc_new w _
theorem MapNew.lt {w : World} {m : Nat} (h : MapNew w m) : m < w.heap.size := (Array.getElem?_eq_some_iff.1 h).1
theorem MapNew.alloc {w : World} {m : Nat} (h : MapNew w m) (o : Obj) : MapNew (w.alloc o) m := (Below.heap_alloc _ _ _ h.lt).trans h
theorem MapNew.after {w w' : World} {m : Nat} (h : MapNew w m) (hb : Below w.heap.size w w') : MapNew w' m := (hb.block m h.lt).trans h
theorem MapNew.drew {w : World} {m : Nat} (h : MapNew w m) : MapNew w.drew m := h
theorem laid_mk {X : World} {base m f N : Nat} {T : List Tr} {ao : Option Addr} {cap : Nat} (p : Nat) (hp : p = X.heap.size) (h1 : base ≤ X.heap.size) (hm : base ≤ m) (hf : base ≤ f) (hmap : MapNew X m) (hrow : RowIs X f 3 (iv (fun _ => 0) N))
    (hown : X.ownsRow base 72 3 (.slice ao T.length cap) T.length (tcells T)) :
    Laid (X.alloc (.cells #[.int .i64 (N : Int), .slice ao T.length cap, .map (some m), .slice (some ⟨f, 0, none⟩) N N] 109)) base p m f N T (fun _ => none) (fun _ => 0) := by
  subst hp
  refine ⟨h1, hm, hf, ao, cap, 0, RowIs.made X _ _, hown.alloc _, ?_, hrow.alloc _⟩
  exact ⟨#[], 0, hmap.alloc _, rfl, by simp, by simp, by simp, by simp⟩
theorem laid_open {w : World} {base p m f N : Nat} {T : List Tr} {C : Int × Int → Option Value} {F : Nat → Int} (h : Laid w base p m f N T C F) :
    TabS w p N T ∧ w.cell? ⟨p, 2, none⟩ = some (.map (some m)) ∧ w.cell? ⟨p, 3, none⟩ = some (.slice (some ⟨f, 0, none⟩) N N) ∧ p < w.heap.size ∧ base ≤ p ∧ base ≤ m ∧ base ≤ f ∧ (∃ k, MapIs edgeFam w m k C) ∧ RowIs w f 3 (iv F N) := by
  obtain ⟨h1, h2, h3, ao, cap, n, hp, hown, hm, hf⟩ := h
  obtain ⟨ao', cap', e, ht⟩ := owns_tris hown
  cases e
  refine ⟨⟨ao, cap, hp.cell rfl, hp.cell rfl, ht, hp.lt⟩, hp.cell rfl, hp.cell rfl, hp.lt, h1, h2, h3, ⟨n, hm⟩, hf⟩
theorem laid_below {w w' : World} {base p m f N : Nat} {T : List Tr} {C : Int × Int → Option Value} {F : Nat → Int} (h : Laid w base p m f N T C F) (hb : Below w.heap.size w w') : Laid w' base p m f N T C F := by
  obtain ⟨h1, h2, h3, ao, cap, n, hp, hown, hm, hf⟩ := h
  exact ⟨h1, h2, h3, ao, cap, n, hp.after hb, owns_below hown hb, hm.below (Nat.le_refl _) hb, hf.after hb⟩
theorem row_ne {w : World} {p f : Nat} {e e' : TypeId} {xs ys : List Value} (h : RowIs w p e xs) (k : RowIs w f e' ys) (hne : e ≠ e') : p ≠ f := by
  rintro rfl
  have := h.symm.trans k
  simp at this
  exact hne this.2
theorem row_map {w : World} {p m n : Nat} {e : TypeId} {xs : List Value} {C : Int × Int → Option Value} (h : RowIs w p e xs) (k : MapIs edgeFam w m n C) : p ≠ m := by
  rintro rfl
  obtain ⟨es, c, k, _⟩ := k
  have := h.symm.trans k
  simp at this
theorem own_ne {w : World} {base : Nat} {e : TypeId} {size : Nat} {v : Value} {n : Nat} {xs : List Value} (h : w.ownsRow base e size v n xs) (m : Nat) (hm : ∀ a cs, w.heap[m]? = some (.cells cs e a) → False) : v.ownBlock = none ∨ v.ownBlock ≠ some m := by
  obtain ⟨h1, h2⟩ := h
  rcases h2 with ⟨h2, h3⟩ | ⟨g, cap, cur, hv, hg, hh, r⟩
  · subst h2; left; rfl
  · right
    subst hv
    intro e
    have e' : g = m := by simpa [Value.ownBlock] using e
    subst e'
    exact hm _ _ hh
theorem laid_store {w : World} {base p m f N : Nat} {T : List Tr} {C : Int × Int → Option Value} {F : Nat → Int} (h : Laid w base p m f N T C F) (x y : Int) (hx : I64 x) (hy : I64 y) (v : Value) :
    ∃ w', (Instr.mapUpdate 46 (.map (some m)) (.agg #[.int .i64 x, .int .i64 y]) v).run Tryz.prog w = .ok () w' ∧ Laid w' base p m f N T (fun b => if b = (x, y) then some v else C b) F ∧ ∀ B w0, B ≤ base → Below B w0 w → Below B w0 w' := by
  obtain ⟨h1, h2, h3, ao, cap, n, hp, hown, hm, hf⟩ := h
  obtain ⟨w', hrun, hm', hg⟩ := hm.store 46 3 (by kernel_rfl) (x, y) ⟨hx, hy⟩ v
  refine ⟨w', hrun, ⟨h1, h2, h3, ao, cap, _, hp.grown hg ?_, hown.kept hg (own_ne hown m ?_), hm', hf.grown hg ?_⟩, fun B w0 hB hb => hb.grown hg ?_ ?_⟩
  · exact fun e => row_map hp hm (Option.some.inj e)
  · obtain ⟨es, c, k, _⟩ := hm
    intro a cs e; rw [k] at e; simp at e
  · exact fun e => row_map hf hm (Option.some.inj e)
  · have := hm.lt; have := hb.size; omega
  · intro k hk; cases hk; omega
theorem laid_first {w : World} {base p m f N : Nat} {T : List Tr} {C : Int × Int → Option Value} {F : Nat → Int} (h : Laid w base p m f N T C F) (x : Nat) (v : Int) :
    Laid (w.setCell ⟨f, x, none⟩ (.int .i64 v)) base p m f N T C (upd F x v) ∧ ∀ B w0, B ≤ base → Below B w0 w → Below B w0 (w.setCell ⟨f, x, none⟩ (.int .i64 v)) := by
  obtain ⟨h1, h2, h3, ao, cap, n, hp, hown, hm, hf⟩ := h
  have hg : w.grownBy (w.setCell ⟨f, x, none⟩ (.int .i64 v)) (some f) := ⟨rfl, rfl, rfl, by simp [World.setCell], fun j hj hne => by
    have : f ≠ j := fun e => hne (by rw [e])
    simp [World.setCell, Array.getElem?_modify, this]⟩
  refine ⟨⟨h1, h2, h3, ao, cap, n, hp.grown hg ?_, hown.kept hg (own_ne hown f ?_), hm.same (hg.block m hm.lt ?_), ?_⟩, fun B w0 hB hb => hb.grown hg ?_ ?_⟩
  · exact fun e => row_ne hp hf (by decide) (Option.some.inj e)
  · intro a cs e; unfold RowIs at hf; rw [hf] at e; simp at e
  · exact fun e => row_map hf hm (Option.some.inj e).symm
  · have := hf.set x (.int .i64 v)
    rwa [iv_set] at this
  · have := hf.lt; have := hb.size; omega
  · intro k hk; cases hk; omega
theorem laid_other {w : World} {base p m f N : Nat} {T : List Tr} {C : Int × Int → Option Value} {F : Nat → Int} (h : Laid w base p m f N T C F) (b i : Nat) (hb : b < base) (v : Value) :
    Laid (w.setCell ⟨b, i, none⟩ v) base p m f N T C F := by
  obtain ⟨h1, h2, h3, ao, cap, n, hp, hown, hm, hf⟩ := h
  have hg : w.grownBy (w.setCell ⟨b, i, none⟩ v) (some b) := ⟨rfl, rfl, rfl, by simp [World.setCell], fun j hj hne => by
    have : b ≠ j := fun e => hne (by rw [e])
    simp [World.setCell, Array.getElem?_modify, this]⟩
  refine ⟨h1, h2, h3, ao, cap, n, hp.grown hg ?_, hown.kept hg ?_, hm.same (hg.block m hm.lt ?_), hf.grown hg ?_⟩
  · intro e; cases e; omega
  · cases hk : (Value.slice ao T.length cap).ownBlock with
    | none => left; rfl
    | some k =>
      right
      have := (hown.lt k hk).1
      intro e; cases e; omega
  · intro e; cases e; omega
  · intro e; cases e; omega
theorem laid_tab {w : World} {base p m f N : Nat} {T : List Tr} {F : Nat → Int} (h : Laid w base p m f N T (faces T 0) F) (hs : Surf N T) : Tab w p N T := by
  obtain ⟨h1, h2, h3, h4, -, -, -, ⟨k, h5⟩, -⟩ := laid_open h
  have := hs.n1
  have := hs.t1
  exact ⟨h1, ⟨m, k, h2, h5, h4⟩, by omega, by omega, hs.vin⟩
theorem faces_top (T : List Tr) : faces T (3 * T.length) = fun _ => none := by
  funext e
  simp [faces, faceFrom]
theorem faces_step (T : List Tr) (k : Nat) (hk : k < 3 * T.length) : faces T k = fun b => if b = (vt T (nx k), vt T (pv k)) then some (.int .i64 k) else faces T (k + 1) b := by
  funext e
  unfold faces faceFrom
  have hs : 3 * T.length - k = (3 * T.length - (k + 1)) + 1 := by omega
  rw [hs, List.range'_succ, List.find?_cons]
  by_cases h : e = (vt T (nx k), vt T (pv k))
  · subst h
    simp [edgeAt]
  · have h' : (edgeAt T (k : Nat) == e) = false := by simp only [beq_eq_false_iff_ne]; exact fun q => h (by rw [← q]; rfl)
    rw [h']
    simp [h]
/-- The least corner from k on at a vertex; 0: there is none. -/
def firstF (T : List Tr) (k : Nat) : Nat → Int := fun v => (((List.range' k (3 * T.length - k)).find? fun (c : Nat) => vt T (c : Int) == (v : Int)).map fun (c : Nat) => (c : Int)).getD 0
theorem firstF_top (T : List Tr) : firstF T (3 * T.length) = fun _ => 0 := by
  funext v
  simp [firstF]
theorem firstF_step (T : List Tr) (k : Nat) (hk : k < 3 * T.length) (v : Nat) : firstF T k v = if vt T (k : Int) = (v : Int) then (k : Int) else firstF T (k + 1) v := by
  unfold firstF
  have hs : 3 * T.length - k = (3 * T.length - (k + 1)) + 1 := by omega
  rw [hs, List.range'_succ, List.find?_cons]
  by_cases h : vt T (k : Int) = (v : Int)
  · simp [h]
  · have h' : (vt T (k : Int) == (v : Int)) = false := by simpa using h
    rw [h', if_neg h]
/-- The first corners lie beside a table. -/
def FirstAt (w : World) (b : Nat) (T : List Tr) (n : Nat) : Prop := ∃ f, b < w.heap.size ∧ w.cell? ⟨b, 3, none⟩ = some (.slice (some ⟨f, 0, none⟩) n n) ∧ RowIs w f 3 (iv (firstF T 0) n)
theorem FirstAt.mono {w w' : World} {b n : Nat} {T : List Tr} {B : Nat} (h : FirstAt w b T n) (hB : w.heap.size ≤ B) (hb : Below B w w') : FirstAt w' b T n := by
  obtain ⟨f, h1, h2, h3⟩ := h
  exact ⟨f, by have := hb.size; omega, (hb.cell (p := ⟨b, 3, none⟩) (by show b < B; omega)).trans h2, h3.below hb (by have := h3.lt; omega)⟩
theorem laid_firsts {w : World} {base p m f N : Nat} {T : List Tr} {C : Int × Int → Option Value} {F : Nat → Int} (h : Laid w base p m f N T C F) (hF : ∀ v, v < N → F v = firstF T 0 v) : FirstAt w p T N := by
  obtain ⟨-, -, c3, hp, -, -, -, -, hr⟩ := laid_open h
  exact ⟨f, hp, c3, by rw [← iv_congr hF]; exact hr⟩
set_option maxRecDepth 100000 in
set_option maxHeartbeats 2000000 in
theorem new_first (N : Int) (ao : Option Addr) (cap : Nat) (T : List Tr) (w : World) (hT : TrisAt w ao T) (hs : Surf N T) :
    Calls Tryz.prog 31 #[.agg #[.int .i64 N, .slice ao T.length cap]] w fun e w' => ∃ p, e = .returned (.tuple #[.pointer (some ⟨p, 0, none⟩), .agg #[.int .i64 0, .int .i64 0, .int .i64 0]]) ∧ w.heap.size ≤ p ∧ (Tab w' p N T ∧ ∀ n : Nat, N = n → FirstAt w' p T n) ∧ Below w.heap.size w w' := by
  obtain ⟨i0, hi, hz0, hz1, hz2⟩ := info_parts info3
  obtain ⟨n, hn⟩ : ∃ n : Nat, N = n := ⟨N.toNat, by have := hs.n0; omega⟩
  subst hn
  have hn4 : n ≤ 4096 := by have := hs.n1; omega
  have ht8 := hs.t1
  have HS := Lib.hid hs
  have hb0 : Below w.heap.size w ((w.alloc (.cells #[.int .i64 (n : Int), .slice ao T.length cap] 24)).alloc (.cells #[.int .i64 0, .int .i64 0, .int .i64 0] 55)) := ((Below.refl _ _).alloc (Nat.le_refl _) _).alloc (by simp) _
  have HC := Lib.hid (check_ok (n : Int) ao cap T ((w.alloc (.cells #[.int .i64 (n : Int), .slice ao T.length cap] 24)).alloc (.cells #[.int .i64 0, .int .i64 0, .int .i64 0] 55)) (hT.mono (Nat.le_refl _) hb0) hs)
  have HCL := Lib.hid (fun w' (h : TrisAt w' ao T) => clone_tri (w := w') cap h (by omega))
  have HT := Lib.hid hT
  obtain ⟨len, hlen⟩ : ∃ n, n = T.length := ⟨_, rfl⟩
  rw [← hlen] at ht8 HC HCL ⊢
  have HL := Lib.hid hlen
  clear hlen hT hs hb0
  have hmm := @run_makeMap Tryz.prog
  have hmk : ∀ ww : World, (Instr.makeSlice 28 (.int .i64 (n : Int)) (.int .i64 (n : Int))).run Tryz.prog ww = .ok (.slice (some ⟨ww.heap.size, 0, none⟩) n n) (ww.alloc (.cells (iv (fun _ => 0) n).toArray 3)) := fun ww => by
    have h := run_make (P := Tryz.prog) ww 28 3 i0 (.int .i64 0) (by kernel_rfl) hi hz0 .i64 .i64 (n : Int) (n : Int) (by omega) (by omega) (by rw [hz2]; omega) (by omega)
    have e : madeCells (Value.int .i64 0).cells ((n : Int).toNat * i0.size) = (iv (fun _ => 0) n).toArray := by
      have h2 := madeCells_iv n
      rw [← h2, hz1]
      simp [Value.cells]
    rw [e] at h
    exact h
  clear hi hz0 hz1 hz2 i0
  go_enter Tryz.func31, Tryz.ntmps31
  go_wp2_with fail
  refine HC.out.mono ?_
  rintro e w1 ⟨rfl, hb1⟩
  have hb1' : Below (w.heap.size + 2) ((w.alloc (.cells #[.int .i64 (n : Int), .slice ao len cap] 24)).alloc (.cells #[.int .i64 0, .int .i64 0, .int .i64 0] 55)) w1 := hb1.mono (by simp)
  have hbox : RowIs w1 w.heap.size 24 [.int .i64 (n : Int), .slice ao len cap] := ((RowIs.made w 24 [.int .i64 (n : Int), .slice ao len cap]).alloc _).below hb1' (by omega)
  have hres : RowIs w1 (w.heap.size + 1) 55 [.int .i64 0, .int .i64 0, .int .i64 0] := by
    have h := RowIs.made (w.alloc (.cells #[.int .i64 (n : Int), .slice ao len cap] 24)) 55 [.int .i64 0, .int .i64 0, .int .i64 0]
    have e0 : (w.alloc (.cells #[.int .i64 (n : Int), .slice ao len cap] 24)).heap.size = w.heap.size + 1 := by simp
    rw [e0] at h
    exact h.below hb1' (by omega)
  have HB1 := Lib.hid (show Below w.heap.size w w1 from (((Below.refl _ _).alloc (Nat.le_refl _) _).alloc (by simp) _).trans (hb1'.mono (by omega)))
  have hs1 : w.heap.size + 2 ≤ w1.heap.size := by have := hb1'.size; simpa using this
  have HBOX := Lib.hid hbox
  have HRES := Lib.hid hres
  have c0 := hbox.cell (i := 0) rfl
  have c1 := hbox.cell (i := 1) rfl
  clear hb1 hb1' hbox hres HC
  go_upto_region 4 with fail
  obtain ⟨W, hW⟩ : ∃ W, W = w1.alloc (.cells #[.int .i64 0, .int .i64 0, .int .i64 0] 55) := ⟨_, rfl⟩
  have hbW : Below w1.heap.size w1 W := by rw [hW]; exact (Below.refl _ _).alloc (Nat.le_refl _) _
  have hsW : w1.heap.size < W.heap.size := by rw [hW]; simp
  rw [← hW]
  have HBW := Lib.hid (below_more HB1.out hbW HB1.out.size)
  have HBOXW := Lib.hid (HBOX.out.after hbW)
  have HRESW := Lib.hid (HRES.out.after hbW)
  have HTW := Lib.hid (HT.out.mono (Nat.le_refl _) HBW.out)
  clear hW hbW c0 c1 HBOX HRES HB1 HT
  have c0 := HBOXW.out.cell (i := 0) rfl
  have c1 := HBOXW.out.cell (i := 1) rfl
  have hlt : w.heap.size < W.heap.size := HBOXW.out.lt
  go_cut [5] (fun s5 wc => ∃ p m f, s5 = .pointer (some ⟨p, 0, none⟩) ∧ Laid wc W.heap.size p m f n T (fun _ => none) (fun _ => 0) ∧ Below W.heap.size W wc)
  case first =>
    go_region_held3 (fun w' => w'.cell? ⟨w.heap.size, 0, none⟩ = some (.int .i64 (n : Int)) ∧ w'.cell? ⟨w.heap.size, 1, none⟩ = some (.slice ao len cap)) (go_keep)
      (first | (go_at_call 69; refine (HCL.out _ ?_).mono ?_; (exact HTW.out.mono (Nat.le_refl _) (by first | exact (Below.refl _ _).drew | exact ((Below.refl _ _).alloc (Nat.le_refl _) _).drew | exact (((Below.refl _ _).alloc (Nat.le_refl _) _).alloc (by simp) _).drew)); rintro e w2 ⟨ao2, cap2, rfl, hown2, hb2⟩; have hst : Below W.heap.size W w2 := (by first | exact (Below.refl _ _).drew.trans hb2 | exact (((Below.refl _ _).alloc (Nat.le_refl _) _).drew).trans (hb2.mono (by simp)) | exact ((((Below.refl _ _).alloc (Nat.le_refl _) _).alloc (by simp) _).drew).trans (hb2.mono (by simp; omega))); have k0 := (hst.cell (p := ⟨w.heap.size, 0, none⟩) hlt).trans c0; have k1 := (hst.cell (p := ⟨w.heap.size, 1, none⟩) hlt).trans c1))
    all_goals
      go_wp2_with fail
      go_meet
      have hL := HL.out
      subst hL
      have q1 := hb2.size
      have q2 := hst.size
      refine ⟨_, _, _, rfl, laid_mk _ (by simp) ?_ ?_ ?_ ?_ ?_ ?_, ?_⟩
      · first | omega | (simp; omega)
      · first | omega | (simp; omega)
      · first | omega | (simp; omega)
      · repeat' first | exact MapNew.made' _ _ (by simp) | refine MapNew.alloc ?_ _ | refine MapNew.after ?_ hb2 | refine MapNew.drew ?_
      · repeat' first | exact RowIs.made' _ _ _ _ (by simp) | refine RowIs.alloc ?_ _ | refine RowIs.after ?_ hb2 | refine RowIs.drew1 ?_
      · repeat' first | exact owns_base hown2 (by first | omega | (simp; omega) | simp) | refine World.ownsRow.alloc ?_ _
      · repeat' first | exact hst | refine Below.alloc ?_ (by first | omega | (simp; omega)) _
  case rest =>
    obtain ⟨p, m, f, rfl, hla, hbc⟩ := hcut
    have HLA := Lib.hid hla
    have HBC := Lib.hid hbc
    have HBX := Lib.hid (HBOXW.out.after hbc)
    have c0 := HBX.out.cell (i := 0) rfl
    have c1 := HBX.out.cell (i := 1) rfl
    clear hla hbc c0 c1
    have c1 := HBX.out.cell (i := 1) rfl
    have HV := Lib.hid HS.out.vin
    go_wp2
    clear c1
    go_loopw [6] (fun i ws => ∃ (k : Nat) (F : Nat → Int), k ≤ 3 * T.length ∧ i = .int .i64 ((k : Int) - 1) ∧ Laid ws W.heap.size p m f n T (faces T k) F ∧ Below W.heap.size W ws ∧ ∀ v, v < n → F v = firstF T k v) (fun i _ => (intOf i + 1).toNat)
    case atStart => exact ⟨3 * T.length, _, Nat.le_refl _, by rw [HL.out]; simp, by rw [faces_top]; exact HLA.out, HBC.out, fun v _ => by rw [firstF_top]⟩
    case round =>
      clear HLA HBC
      obtain ⟨k, F, hk, rfl, hla, hb, hff⟩ := hrel
      have HFF := Lib.hid hff
      obtain ⟨W1, rfl⟩ : ∃ W1 : World, W1 = wr := ⟨_, rfl⟩
      obtain ⟨htab, c2, c3, hplt, hbp, hbm, hbf, hmap, hrow⟩ := laid_open hla
      have HLA := Lib.hid hla
      have HB := Lib.hid hb
      have HTAB := Lib.hid htab
      have HMAP := Lib.hid hmap
      clear hla hb htab hmap hff
      cases k with
      | zero =>
        have hr1 := (HRESW.out.after HB.out)
        have HL3 := Lib.hid (laid_other (laid_other (laid_other HLA.out (w.heap.size + 1) 0 (by have := HRESW.out.lt; omega) (.int .i64 0)) (w.heap.size + 1) 1 (by have := HRESW.out.lt; omega) (.int .i64 0)) (w.heap.size + 1) 2 (by have := HRESW.out.lt; omega) (.int .i64 0))
        have c0 := hr1.cell (i := 0) rfl
        have c1 := hr1.cell (i := 1) rfl
        have cc2 := hr1.cell (i := 2) rfl
        have f0 := hr1.free 0
        have f1 := hr1.free 1
        have f2 := hr1.free 2
        have e1 : ((0 : Nat) : Int) - 1 = -1 := by omega
        rw [e1]
        have HFA := Lib.hid (show ∀ n' : Nat, (n : Int) = (n' : Int) → FirstAt _ p T n' from fun n' hn' => by
          obtain rfl : n = n' := by omega
          exact laid_firsts HL3.out HFF.out)
        have HBQ := Lib.hid (below_more HBW.out HB.out HBW.out.size)
        clear hr1 c2 c3 e1
        go_wp2
        exact bodyPost_ret (v := .tuple #[.pointer (some ⟨p, 0, none⟩), .agg #[.int .i64 0, .int .i64 0, .int .i64 0]]) (by simp [results, Tryz.results31, go_sem, c0, c1, cc2]) rfl ⟨p, rfl, by omega, ⟨laid_tab HL3.out HS.out, HFA.out⟩, ((HBQ.out.setCell (p := ⟨w.heap.size + 1, 0, none⟩) (Nat.le_succ _) _).setCell (p := ⟨w.heap.size + 1, 1, none⟩) (Nat.le_succ _) _).setCell (p := ⟨w.heap.size + 1, 2, none⟩) (Nat.le_succ _) _⟩
      | succ c =>
        have e1 : ((c + 1 : Nat) : Int) - 1 = (c : Int) := by omega
        rw [e1]
        have hkl : (c : Int) < 3 * T.length := by omega
        have hc0 : (0 : Int) ≤ c := by omega
        have HFS := Lib.hid (faces_step T c (by omega))
        have hc9 : c ≤ 24576 := by have := HL.out; omega
        have hx := I64.of_in (HV.out.vt (nx_in hc0 hkl).1 (nx_in hc0 hkl).2) (by omega)
        have hy := I64.of_in (HV.out.vt (pv_in hc0 hkl).1 (pv_in hc0 hkl).2) (by omega)
        have HVT := Lib.hid (HV.out.vt hc0 hkl)
        have HED := Lib.hid (fun w' (h : TabS w' p n T) => edge_any (c : Int) w' p n T (by have := HL.out; omega) h hc0 hkl)
        have HVX := Lib.hid (fun w' (h : TabS w' p n T) => vertex_any (c : Int) w' p n T (by have := HL.out; omega) h hc0 hkl)
        obtain ⟨x, ex⟩ : ∃ x, x = vt T (nx (c : Int)) := ⟨_, rfl⟩
        obtain ⟨y, ey⟩ : ∃ y, y = vt T (pv (c : Int)) := ⟨_, rfl⟩
        obtain ⟨v, ev⟩ : ∃ v, v = vt T (c : Int) := ⟨_, rfl⟩
        have HST := Lib.hid (fun u : Nat => firstF_step T c (by omega) u)
        rw [← ev] at HST
        rw [← ex] at hx HFS HED
        rw [← ey] at hy HFS HED
        rw [← ev] at HVT HVX
        have HX := Lib.hid hx
        have HY := Lib.hid hy
        have HROW := Lib.hid hrow
        have HK := Lib.hid hk
        clear ex ey ev hx hy e1 hrow hk
        have hge : decide ((0 : Int) ≤ c) = true := by simp
        go_upto_region 8 with fail
        go_cut [6] (fun s6 wc => s6 = .int .i64 (c : Int) ∧ Laid wc W.heap.size p m f n T (faces T c) F ∧ Below W.heap.size W wc)
        case first =>
          go_region_held3 (fun w' => w'.cell? ⟨p, 2, none⟩ = some (.map (some m))) (first | exact c2 | exact k2 | exact k3)
            (first | (go_at_call 35; refine (HED.out _ ?_).mono ?_; (exact HTAB.out.mono (Nat.le_refl _) (by first | exact (Below.refl _ _).drew | exact Below.refl _ _)); rintro e w2 ⟨rfl, hb2'⟩; have hb2 : Below W1.heap.size W1 w2 := (by first | exact (Below.refl _ _).drew.trans hb2' | exact hb2'); have k2 := (hb2.cell (p := ⟨p, 2, none⟩) hplt).trans c2; obtain ⟨w3, hst, hl3, hb3⟩ := laid_store (laid_below HLA.out hb2) x y HX.out HY.out (.int .i64 (c : Int)); have k3 := (laid_open hl3).2.1))
          all_goals
            go_wp2_with fail
            go_meet
            exact ⟨rfl, by rw [HFS.out]; exact hl3, hb3 _ _ (Nat.le_refl _) (below_more HB.out hb2 HB.out.size)⟩
        case rest =>
          obtain ⟨rfl, hla2, hbc2⟩ := hcut
          obtain ⟨htab, d2, d3, dplt, -, -, -, -, hrow2⟩ := laid_open hla2
          have HLA2 := Lib.hid hla2
          have HB2 := Lib.hid hbc2
          have HTAB2 := Lib.hid htab
          have dflt := hrow2.lt
          have hv0 := HVT.out.1
          have hv1 := HVT.out.2
          obtain ⟨vn, hvn⟩ := Int.eq_ofNat_of_zero_le hv0
          subst hvn
          have hvn : vn < n := by omega
          have f0 := hrow2.free vn
          have q0 := hrow2.cell (iv_get F hvn)
          clear hla2 hbc2 htab hrow2 c2 c3 HTAB HB HLA HMAP HROW
          have HL4 := Lib.hid (laid_below (laid_first HLA2.out vn (c : Int)).1 (Below.refl _ _).drew)
          have HB4 := Lib.hid (((laid_first HLA2.out vn (c : Int)).2 _ _ (Nat.le_refl _) HB2.out).drew)
          have d4 := (laid_open HL4.out).2.2.1
          go_upto_region 9 with fail
          go_region_held3 (fun w' => w'.cell? ⟨p, 3, none⟩ = some (.slice (some ⟨f, 0, none⟩) n n)) (first | exact d3 | exact d4)
              (first | (go_at_call 42; refine (HVX.out _ ?_).mono ?_; (exact HTAB2.out.mono (Nat.le_refl _) (by first | exact (Below.refl _ _).drew | exact Below.refl _ _)); rintro e w2 ⟨rfl, rfl⟩))
          all_goals
            go_wp2_with fail
            go_roundw
            case rel => exact ⟨c, _, by have := HK.out; omega, by go_num, HL4.out, HB4.out, fun u hu => by
              rw [HST.out u, ← HFF.out u hu]
              unfold upd
              by_cases e : u = vn
              · rw [if_pos e, if_pos (by rw [e])]
              · rw [if_neg e, if_neg (by omega)]⟩
            case measure => simp [intOf]
theorem new_ok (N : Int) (ao : Option Addr) (cap : Nat) (T : List Tr) (w : World) (hT : TrisAt w ao T) (hs : Surf N T) :
    Calls Tryz.prog 31 #[.agg #[.int .i64 N, .slice ao T.length cap]] w fun e w' => ∃ p, e = .returned (.tuple #[.pointer (some ⟨p, 0, none⟩), .agg #[.int .i64 0, .int .i64 0, .int .i64 0]]) ∧ w.heap.size ≤ p ∧ Tab w' p N T ∧ Below w.heap.size w w' :=
  (new_first N ao cap T w hT hs).mono fun _ _ ⟨p, h1, h2, h3, h4⟩ => ⟨p, h1, h2, h3.1, h4⟩
set_option maxRecDepth 100000 in
set_option maxHeartbeats 1000000 in
theorem new_none (N : Int) (ao : Option Addr) (cap : Nat) (T : List Tr) (w : World) (hT : TrisAt w ao T) (hl : T.length ≤ 8192) (hs : ¬ Surf N T) :
    Calls Tryz.prog 31 #[.agg #[.int .i64 N, .slice ao T.length cap]] w fun e w' => ∃ k a b : Int, e = .returned (.tuple #[.pointer none, .agg #[.int .i64 k, .int .i64 a, .int .i64 b]]) ∧ 1 ≤ k ∧ k ≤ 6 ∧ Below w.heap.size w w' := by
  have hb0 : Below w.heap.size w ((w.alloc (.cells #[.int .i64 N, .slice ao T.length cap] 24)).alloc (.cells #[.int .i64 0, .int .i64 0, .int .i64 0] 55)) := ((Below.refl _ _).alloc (Nat.le_refl _) _).alloc (by simp) _
  have HC := Lib.hid (check_any N ao cap T ((w.alloc (.cells #[.int .i64 N, .slice ao T.length cap] 24)).alloc (.cells #[.int .i64 0, .int .i64 0, .int .i64 0] 55)) (hT.mono (Nat.le_refl _) hb0) hl)
  have HS := Lib.hid hs
  clear hT hs hb0
  go_enter Tryz.func31, Tryz.ntmps31
  go_wp2_with fail
  refine HC.out.mono ?_
  rintro e w1 ⟨k, a, b, rfl, hk, hb1⟩
  have hk' : 1 ≤ k ∧ k ≤ 6 := by
    rcases hk with ⟨h, -⟩ | ⟨-, h⟩
    · exact absurd h HS.out
    · exact h
  obtain ⟨hk1, hk2⟩ := hk'
  have hb1' : Below (w.heap.size + 2) ((w.alloc (.cells #[.int .i64 N, .slice ao T.length cap] 24)).alloc (.cells #[.int .i64 0, .int .i64 0, .int .i64 0] 55)) w1 := hb1.mono (by simp)
  have hres : RowIs w1 (w.heap.size + 1) 55 [.int .i64 0, .int .i64 0, .int .i64 0] := by
    have h := RowIs.made (w.alloc (.cells #[.int .i64 N, .slice ao T.length cap] 24)) 55 [.int .i64 0, .int .i64 0, .int .i64 0]
    have e0 : (w.alloc (.cells #[.int .i64 N, .slice ao T.length cap] 24)).heap.size = w.heap.size + 1 := by simp
    rw [e0] at h
    exact h.below hb1' (by omega)
  have HB1 := Lib.hid (show Below w.heap.size w w1 from (((Below.refl _ _).alloc (Nat.le_refl _) _).alloc (by simp) _).trans (hb1'.mono (by omega)))
  have HRES := Lib.hid hres
  have d0 : (k == 0) = false := by simp; omega
  have d1 : (k != 0) = true := by simp; omega
  clear hb1 hb1' hres hk HC
  go_upto_region 3 with fail
  obtain ⟨W, hW⟩ : ∃ W, W = w1.alloc (.cells #[.int .i64 k, .int .i64 a, .int .i64 b] 55) := ⟨_, rfl⟩
  have hbW : Below w1.heap.size w1 W := by rw [hW]; exact (Below.refl _ _).alloc (Nat.le_refl _) _
  have hrV : RowIs W w1.heap.size 55 [.int .i64 k, .int .i64 a, .int .i64 b] := by rw [hW]; exact RowIs.made w1 _ [_, _, _]
  rw [← hW]
  have hrT := HRES.out.after hbW
  have HBW := Lib.hid (below_more HB1.out hbW HB1.out.size)
  have c0 := hrV.cell (i := 0) rfl
  have c1 := hrV.cell (i := 1) rfl
  have c2 := hrV.cell (i := 2) rfl
  have t0 := hrT.cell (i := 0) rfl
  have t1 := hrT.cell (i := 1) rfl
  have t2 := hrT.cell (i := 2) rfl
  have f0 := hrT.free 0
  have f1 := hrT.free 1
  have f2 := hrT.free 2
  have HF := Lib.hid (show ∀ v0 v1 v2, Below w.heap.size w (((W.drew.setCell ⟨w.heap.size + 1, 0, none⟩ v0).setCell ⟨w.heap.size + 1, 1, none⟩ v1).setCell ⟨w.heap.size + 1, 2, none⟩ v2) from fun v0 v1 v2 =>
    (((HBW.out.drew).setCell (p := ⟨w.heap.size + 1, 0, none⟩) (Nat.le_succ _) _).setCell (p := ⟨w.heap.size + 1, 1, none⟩) (Nat.le_succ _) _).setCell (p := ⟨w.heap.size + 1, 2, none⟩) (Nat.le_succ _) _)
  clear hW hbW hrV hrT
  go_region
  all_goals
    go_wp2
    exact bodyPost_ret (v := .tuple #[.pointer none, .agg #[.int .i64 k, .int .i64 a, .int .i64 b]]) (by simp [results, Tryz.results31, go_sem, t0, t1, t2, f0, f1, f2]) rfl ⟨k, a, b, rfl, hk1, hk2, HF.out _ _ _⟩
end Go.Proofs.YtkjamheoihlekaaGreat

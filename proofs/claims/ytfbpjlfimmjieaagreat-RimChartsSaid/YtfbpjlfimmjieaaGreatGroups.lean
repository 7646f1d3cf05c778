/- chart.groups: of each of n the least that is connected with it, over whatever function tells the neighbours. chart.joined, chart.fits: contracts. chart.Of's and chart.Sides' functions that tell neighbours; chart.fits: contracts. chart.fits, chart.Sides, chart.Of: contracts. -/
import Derived.Test.YtfbpjlfimmjieaaGreatJoinLaw
import Derived.Test.YtfbpjlfimmjieaaGreatSelLaw
import Derived.Test.YtfbpjlfimmjieaaGreatRimTab
import Derived.Deep.RegionHeldLaw
import Derived.Deep.RegionHeld3
import Derived.Test.YtfbpjlfimmjieaaGreatRowFam
import Derived.Maps.OwnSet
namespace Go.Proofs.YtfbpjlfimmjieaaGreat
set_option linter.unusedVariables false
set_option linter.unusedSimpArgs false
open Go.RowKit
open Go.RowKit Go.Maps
theorem I!_memG {xs : List Int} {i : Nat} (h : i < xs.length) : I! xs i ∈ xs := by
  unfold I!
  rw [List.getD_eq_getElem?_getD, List.getElem?_eq_getElem h]
  exact List.getElem_mem h
theorem I!_of_memG {xs : List Int} {y : Int} (h : y ∈ xs) : ∃ i, i < xs.length ∧ I! xs i = y := by
  obtain ⟨i, hi, e⟩ := List.getElem_of_mem h
  refine ⟨i, hi, ?_⟩
  unfold I!
  rw [List.getD_eq_getElem?_getD, List.getElem?_eq_getElem hi]
  exact e
/-- The numbers of a slice that lies apart from the stack. -/
def NbAt (B gs : Nat) (ws : World) (a : Option Addr) (xs : List Int) : Prop := ∀ i, i < xs.length → ∃ ga off, a = some ⟨ga, off, none⟩ ∧ B < ga ∧ ga ≠ gs ∧ ga < ws.heap.size ∧ ws.cell? ⟨ga, off + i, none⟩ = some (.int .i64 (I! xs i))
theorem NbAt.of {B gs C : Nat} {ws : World} {a : Option Addr} {xs : List Int} (h : IntsAt ws a xs) (hn : New C a) (hB : B < C) (hg : gs < C) : NbAt B gs ws a xs := by
  intro i hi
  obtain ⟨b, off, rfl, hb, hc⟩ := h (by intro e; rw [e] at hi; cases hi)
  have : C ≤ b := hn _ rfl
  exact ⟨b, off, rfl, by omega, by omega, hb, hc i hi⟩
theorem NbAt.below {B gs C : Nat} {ws wt : World} {a : Option Addr} {xs : List Int} (h : NbAt B gs ws a xs) (hb : Below C ws wt) (hC : ws.heap.size ≤ C) : NbAt B gs wt a xs := by
  intro i hi
  obtain ⟨ga, off, rfl, h1, h2, h3, h4⟩ := h i hi
  exact ⟨ga, off, rfl, h1, h2, by have := hb.size; omega, (hb.cell (p := ⟨ga, _, none⟩) (show ga < C by omega)).trans h4⟩
theorem NbAt.set {B gs j : Nat} {ws : World} {a : Option Addr} {xs : List Int} (h : NbAt B gs ws a xs) (v : Value) : NbAt B gs (ws.setCell ⟨B, j, none⟩ v) a xs := by
  intro i hi
  obtain ⟨ga, off, rfl, h1, h2, h3, h4⟩ := h i hi
  exact ⟨ga, off, rfl, h1, h2, by simpa [World.setCell] using h3, (World.cell?_setCell_other ws ⟨B, j, none⟩ ⟨ga, off + i, none⟩ v (by intro e; simp only [Addr.mk.injEq] at e; omega)).trans h4⟩
theorem NbAt.grown {B gs g2 : Nat} {row : Option Nat} {ws wt : World} {a : Option Addr} {xs : List Int} (h : NbAt B gs ws a xs) (hg : ws.grownBy wt row) (hr : ∀ q, row = some q → q = gs) (h2 : g2 = gs ∨ ws.heap.size ≤ g2) : NbAt B g2 wt a xs := by
  intro i hi
  obtain ⟨ga, off, rfl, h1, h2', h3, h4⟩ := h i hi
  refine ⟨ga, off, rfl, h1, by omega, by have := hg.size; omega, ?_⟩
  have := hg.block ga h3 (by intro e; exact h2' (hr _ e.symm))
  rw [← h4]
  simp [World.cell?, this]
/-- The state of the search from f. -/
structure GSt2 (n f g : Nat) (w : World) (L : Nat → Int) (S : List Nat) (gs cap : Nat) (ws : World) : Prop where
  own : ws.ownsRow (g + 1) 3 1 (.slice (some ⟨gs, 0, none⟩) S.length cap) S.length (nv S)
  row : RowIs ws g 3 (iv L n)
  bel : Below w.heap.size w ws
theorem GSt2.more {n f g : Nat} {w : World} {L : Nat → Int} {S : List Nat} {gs cap : Nat} {ws wt : World} (h : GSt2 n f g w L S gs cap ws) (hb : Below ws.heap.size ws wt) : GSt2 n f g w L S gs cap wt :=
  ⟨owns_below h.own hb, h.row.below hb h.row.lt, below_more h.bel hb h.bel.size⟩
/-- What a function that tells neighbours answers. -/
def NbCall (G : Nat) (lb : Array Value) (nb : Nat → List Int) (x : Nat) (X : World) : Prop :=
  Calls Tryz.prog G (#[.int .i64 (x : Int)] ++ lb) X fun e w' => ∃ a c, e = .returned (.slice a (nb x).length c) ∧ IntsAt w' a (nb x) ∧ New X.heap.size a ∧ Below X.heap.size X w'
set_option maxRecDepth 100000 in
set_option maxHeartbeats 4000000 in
theorem groups_ok (A : Nat → Nat → Prop) (n : Nat) (hn : n ≤ 30000) (nb : Nat → List Int) (hnb : NbsOK A n nb) (hsym : ∀ i j, A i j → A j i) (G : Nat) (lb : Array Value) (hE : ∀ args w, (callFunc G args).run Tryz.prog w = .ok (.enter G args) w) (w : World)
    (hG : ∀ x X, x < n → Below w.heap.size w X → NbCall G lb nb x X) :
    Calls Tryz.prog 40 #[.int .i64 (n : Int), .func (.func G) #[] lb] w fun e w' => ∃ L, e = .returned (.slice (some ⟨w.heap.size, 0, none⟩) n n) ∧ RowIs w' w.heap.size 3 (iv L n) ∧ IsLeast A n L ∧ Below w.heap.size w w' := by
  obtain ⟨i0, hi, hz0, hz1, hz2⟩ := info_parts info3
  have hi0 := hi
  have HNB := Lib.hid hnb
  have HSY := Lib.hid hsym
  have HG := Lib.hid hG
  clear hnb hsym hG
  go_enter Tryz.func40, Tryz.ntmps40
  go_wp2_with (at_make; refine wpList_make_full _ rfl _ _ _ rfl w.heap.size 3 i0 (.int .i64 0) 1 (by kernel_rfl) hi hz0 hz1 _ _ _ _ n rfl rfl rfl rfl (by rw [hz2]; omega) (by unfold maxLen; omega) (Nat.le_refl _) ?_)
  intro w1 hown hgrow
  rw [madeCells_iv] at hown
  have hrow := RowIs.of_owns hown
  have hb1 : Below w.heap.size w w1 := (Below.refl _ _).grown hgrow (Nat.le_refl _) (by simp)
  clear hown hgrow
  go_wp2
  go_loopw [16] (fun i wr => ∃ k : Nat, k ≤ n ∧ i = .int .i64 k ∧ RowIs wr w.heap.size 3 (iv (fun j => if j < k then -1 else 0) n) ∧ Below w.heap.size w wr) (fun i _ => n - (intOf i).toNat)
  case atStart => exact ⟨0, Nat.zero_le _, rfl, by simpa using hrow, hb1⟩
  case round =>
    obtain ⟨k, hk, rfl, hr, hb⟩ := hrel
    clear hb1 hrow
    by_cases hlt : k < n
    · have hc := hr.cell (iv_get _ hlt)
      have hf := hr.free k
      have hb' : Below w.heap.size w (wr.setCell ⟨w.heap.size, k, none⟩ (.int .i64 (-1))) := hb.setCell (Nat.le_refl _) _
      have hr' := hr.set k (.int .i64 (-1))
      rw [iv_set, iv_congr (h := fun j => if j < k + 1 then -1 else 0) (fun i _ => by unfold upd; by_cases e : i = k <;> simp [e]; by_cases q : i < k <;> simp [q] <;> omega)] at hr'
      have HR := Lib.hid hr'
      have HB := Lib.hid hb'
      clear hr' hb' hr hb
      go_wp2
      go_roundw
      case rel => exact ⟨k + 1, by omega, by go_num, HR.out, HB.out⟩
      case measure => simp [intOf]; omega
    · obtain rfl : n = k := by omega
      rw [iv_congr (h := fun _ => -1) (fun i hi => by simp [hi])] at hr
      have HR := Lib.hid hr
      have HB := Lib.hid hb
      clear hr hb hlt
      go_wp2
      go_loopw [25] (fun i ws => ∃ (f : Nat) (L : Nat → Int), f ≤ n ∧ i = .int .i64 f ∧ RowIs ws w.heap.size 3 (iv L n) ∧ LInv A n f L ∧ Below w.heap.size w ws) (fun i _ => n - (intOf i).toNat)
      case atStart => exact ⟨0, fun _ => -1, by omega, rfl, HR.out, LInv.start _ _, HB.out⟩
      case round =>
        obtain ⟨f, L0, hf, rfl, hr, ho, hb⟩ := hrel
        clear HR HB
        by_cases hfn : f < n
        · have hcell := hr.cell (iv_get L0 hfn)
          by_cases hL : 0 ≤ L0 f
          · have HR := Lib.hid hr
            have HB := Lib.hid hb
            have HI := Lib.hid (ho.skip hL)
            clear hr hb ho
            generalize L0 f = lf at *
            have hd : decide (lf ≥ 0) = true := by simpa using hL
            go_wp2
            go_roundw
            case rel => exact ⟨f + 1, L0, by omega, by go_num, HR.out, HI.out, HB.out⟩
            case measure => simp [intOf]; omega
          · have hL2 : (decide (L0 f ≥ 0)) = false := by simpa using hL
            have HLN := Lib.hid (show L0 f < 0 by omega)
            have hbs := DInv.start ho hfn hL
            have hfz := hr.free f
            have HO0 := Lib.hid ho
            have hr1 := hr.set f (.int .i64 (f : Int))
            rw [iv_set] at hr1
            have hb1 : Below w.heap.size w (wr.setCell ⟨w.heap.size, f, none⟩ (.int .i64 (f : Int))) := hb.setCell (Nat.le_refl _) _
            have hsz : (wr.setCell ⟨w.heap.size, f, none⟩ (.int .i64 (f : Int))).heap.size = wr.heap.size := by simp [World.setCell]
            have hwr := hr.lt
            have HST := Lib.hid (show GSt2 n f w.heap.size w (upd L0 f f) [f] wr.heap.size 1 ((wr.setCell ⟨w.heap.size, f, none⟩ (.int .i64 (f : Int))).alloc (.cells #[.int .i64 (f : Int)] 3)) from by
              have hw := RowIs.made (wr.setCell ⟨w.heap.size, f, none⟩ (.int .i64 (f : Int))) 3 (nv [f])
              rw [hsz] at hw
              exact ⟨hw.owns (base := w.heap.size + 1) (size := 1) (n := 1) (by omega) rfl (by decide), hr1.alloc _, hb1.alloc (by have := hb.size; rw [hsz]; omega) _⟩)
            have HI := Lib.hid hbs
            clear hr ho hb hr1 hb1 hbs hL hsz
            generalize L0 f = lf at hcell hL2
            go_wp2
            clear hcell hfz hL2
            go_loopg [8] (2 * nNeg (upd L0 f f) n + 1) (fun k v ws => ∃ (S : List Nat) (L : Nat → Int) (gs cap : Nat), k = 2 * nNeg L n + S.length ∧ k ≤ 2 * n + 1 ∧ v = .slice (some ⟨gs, 0, none⟩) S.length cap ∧ GSt2 n f w.heap.size w L S gs cap ws ∧ DInv A n f L0 L S)
            case atStart => exact ⟨[f], upd L0 f f, wr.heap.size, 1, rfl, by have := nNeg_le (upd L0 f f) n; omega, rfl, HST.out, HI.out⟩
            case round =>
              clear HST HI hwr
              obtain ⟨S, L, gs, cap, hgk, hgk2, rfl, hst, hdi⟩ := hrel
              obtain ⟨W3, rfl⟩ : ∃ W3 : World, W3 = wr := ⟨_, rfl⟩
              rcases (show S = [] ∨ ∃ S' x, S = S' ++ [x] from by
                rcases List.eq_nil_or_concat S with h | ⟨a, b, h⟩
                · exact .inl h
                · exact .inr ⟨a, b, by simpa using h⟩) with rfl | ⟨S, x, rfl⟩
              · have HR := Lib.hid hst.row
                have HB := Lib.hid hst.bel
                have HI := Lib.hid (hdi.stop HO0.out hfn HLN.out (fun i j _ _ => HSY.out i j))
                clear hst hdi hgk
                go_wp2
                go_roundw
                case rel => exact ⟨f + 1, L, by omega, by go_num, HR.out, HI.out, HB.out⟩
                case measure => simp [intOf]; omega
              · have e1 : (S ++ [x]).length = S.length + 1 := by simp
                rw [e1] at hgk ⊢
                have hown := hst.own
                rw [e1, nv_snoc] at hown
                have hx := hdi.sub x (by simp)
                obtain ⟨m, hm⟩ : ∃ m, m = S.length := ⟨_, rfl⟩
                have HMS := Lib.hid hm
                rw [← hm] at hgk hown ⊢
                obtain ⟨gs', cap', hv, hgb, hgl, hcap, hcm, hcx0, -⟩ := owns_block hown (by omega)
                have hcx := hcx0 m (.int .i64 (x : Int)) (by simp [nv_length, hm])
                obtain ⟨rfl, rfl⟩ : gs = gs' ∧ cap = cap' := by
                  simp only [Value.slice.injEq, Option.some.injEq, Addr.mk.injEq] at hv
                  exact ⟨hv.1.1, hv.2.2⟩
                have HPOP := Lib.hid (owns_pop hown)
                have HR3 := Lib.hid hst.row
                have HB3 := Lib.hid hst.bel
                have HES := Lib.hid hdi.pop
                have hxn := hx.1
                have HGX := Lib.hid (HG.out x W3 hxn hst.bel)
                have HNX := Lib.hid (HNB.out x hxn)
                have HW3S := Lib.hid (show w.heap.size < W3.heap.size from hst.row.lt)
                obtain ⟨xs, hxs⟩ : ∃ xs, xs = nb x := ⟨_, rfl⟩
                unfold NbCall at HGX
                rw [← hxs] at HGX HNX
                obtain ⟨lx, hlx⟩ : ∃ l, l = xs.length := ⟨_, rfl⟩
                rw [← hlx] at HGX HNX
                have hl3 : lx ≤ 3 := HNX.out.1
                have HLX := Lib.hid hlx
                clear hst hdi hown hx e1 hm hv hcx0 hxs hlx
                go_wp2_with fail
                refine HGX.out.mono ?_
                rintro e w5 ⟨a, ca, rfl, hIA, hNA, hb35⟩
                have HPOP5 := Lib.hid (owns_below HPOP.out hb35)
                have HR5 := Lib.hid (HR3.out.below hb35 HR3.out.lt)
                have HB5 := Lib.hid (below_more HB3.out hb35 HB3.out.size)
                have HNA := Lib.hid (NbAt.of (gs := gs) hIA hNA HW3S.out hgl)
                have hgl5 : gs < w5.heap.size := by have := hb35.size; omega
                clear hcx hb35 HPOP HR3 HB3 hIA hNA HGX
                obtain ⟨W5, rfl⟩ : ∃ W5 : World, W5 = w5 := ⟨_, rfl⟩
                have HST := Lib.hid (show GSt2 n f w.heap.size w L S gs cap W5 from
                  ⟨by rw [← HMS.out]; exact HPOP5.out, HR5.out, HB5.out⟩)
                have HLT := Lib.hid (show 2 * nNeg L n + S.length < gk from by have := HMS.out; omega)
                have hms := HMS.out
                go_wp2
                go_loopw [57, 8] (fun c v ws => ∃ (i : Nat) (S : List Nat) (L : Nat → Int) (gs cap : Nat), i ≤ lx ∧ c = .int .i64 i ∧ v = .slice (some ⟨gs, 0, none⟩) S.length cap ∧ GSt2 n f w.heap.size w L S gs cap ws ∧
                    NbAt w.heap.size gs ws a xs ∧ EInvS A n f L0 L S x ∧ 2 * nNeg L n + S.length < gk ∧ (∀ l, l < i → ∀ j : Nat, I! xs l = (j : Int) → j < n → 0 ≤ L j)) (fun c _ _ => lx - (intOf c).toNat)
                case atStart => exact ⟨0, S, L, gs, cap, by omega, rfl, by first | rfl | rw [hms], HST.out, HNA.out, HES.out, HLT.out, fun l h => by omega⟩
                case round =>
                  clear HST HNA HES HLT HPOP5 HR5 HB5 hgk hms HMS hgl5 hcap hcm
                  obtain ⟨i, S, L, gs, cap, hi2, rfl, rfl, hst, hna, hes, hlt, hdone⟩ := hrel
                  obtain ⟨W6, rfl⟩ : ∃ W6 : World, W6 = wr := ⟨_, rfl⟩
                  by_cases hi : i < lx
                  · obtain ⟨ga, off, rfl, ga1, ga2, ga3, hcy⟩ := hna i (by have := HLX.out; omega)
                    obtain ⟨j, hyj, hj3, hadj⟩ := HNX.out.2.1 (I! xs i) (I!_memG (by have := HLX.out; omega))
                    have HY := Lib.hid hyj
                    rw [hyj] at hcy
                    have HNA := Lib.hid hna
                    have HST := Lib.hid hst
                    have HES := Lib.hid hes
                    have HLT := Lib.hid hlt
                    have HDN := Lib.hid hdone
                    have hcj := hst.row.cell (iv_get L hj3)
                    have hfj := hst.row.free j
                    obtain ⟨t, ht⟩ : ∃ t, Hid (L j = t) := ⟨_, rfl⟩
                    rw [ht.out] at hcj
                    clear hdone hyj
                    by_cases t0 : 0 ≤ t
                    · have dt : decide (t < 0) = false := by simpa using t0
                      have HD2 := Lib.hid (show ∀ l, l < i + 1 → ∀ j : Nat, I! xs l = (j : Int) → j < n → 0 ≤ L j from fun l hl j' e hj => by
                        by_cases el : l = i
                        · subst el; rw [HY.out] at e
                          have : j' = j := by omega
                          rw [this, ht.out]; exact t0
                        · exact HDN.out l (by omega) j' e hj)
                      clear t0 hst hna hes hlt hfj hadj
                      go_wp2
                      go_roundw
                      case rel => exact ⟨i + 1, S, L, gs, cap, by omega, by go_num, rfl, HST.out, HNA.out, HES.out, HLT.out, HD2.out⟩
                      case measure => simp [intOf]; omega
                    · have dt : decide (t < 0) = true := by simp; omega
                      have HE2 := Lib.hid (HES.out.push hj3 hadj (by rw [ht.out]; omega))
                      have HD2 := Lib.hid (show ∀ l, l < i + 1 → ∀ j' : Nat, I! xs l = (j' : Int) → j' < n → 0 ≤ upd L j f j' from fun l hl j' e hj => by
                        by_cases el : l = i
                        · subst el; rw [HY.out] at e
                          have : j' = j := by omega
                          rw [this]; simp [upd]
                        · unfold upd
                          split
                          · omega
                          · exact HDN.out l (by omega) j' e hj)
                      have HLT2 := Lib.hid (show 2 * nNeg (upd L j f) n + (S.length + 1) < gk from by
                        have := nNeg_upd (v := (f : Int)) hj3 (show L j < 0 by rw [ht.out]; omega) (by omega)
                        omega)
                      have hls : S.length ≤ 100000 := by omega
                      obtain ⟨W7, hW7⟩ : ∃ W7, W7 = W6.setCell ⟨w.heap.size, j, none⟩ (.int .i64 (f : Int)) := ⟨_, rfl⟩
                      have hR7 := hst.row.set j (.int .i64 (f : Int))
                      rw [iv_set, ← hW7] at hR7
                      have HR7 := Lib.hid hR7
                      have HO7 := Lib.hid (show W7.ownsRow (w.heap.size + 1) 3 1 (.slice (some ⟨gs, 0, none⟩) S.length cap) S.length (nv S) from by rw [hW7]; exact ownsRow_setCell_below hst.own (a := ⟨w.heap.size, j, none⟩) (Nat.lt_succ_self _) _)
                      have HB7 := Lib.hid (show Below w.heap.size w W7 from by rw [hW7]; exact hst.bel.setCell (Nat.le_refl _) _)
                      have HN7 := Lib.hid (show NbAt w.heap.size gs W7 (some ⟨ga, off, none⟩) xs from by rw [hW7]; exact hna.set _)
                      have HSZ7 := Lib.hid (show W7.heap.size = W6.heap.size from by rw [hW7]; simp [World.setCell])
                      have HW7 := Lib.hid hW7
                      have hsz6 := hst.bel.size
                      clear t0 hst hna hes hlt hadj hW7 hR7
                      go_upto_region 21 with fail
                      rw [← HW7.out]
                      clear hcy hcj hfj
                      have HX := Lib.hid (HO7.out.alloc (.cells #[.int .i64 (j : Int)] 3))
                      go_wp2_with (at_builtin; refine wpList_append_lies _ rfl _ _ 25 rfl (w.heap.size + 1) 3 i0 (.int .i64 0) 1 8 (by kernel_rfl) hi0 hz0 hz1 hz2 rfl (by decide) _ _ _ rfl HX.out ⟨W7.heap.size, 0, none⟩ 1 1 [.int .i64 (j : Int)] rfl rfl (World.news_of_block (heap_alloc_new W7 _)) (by intro u hu; simp at hu; subst hu; rfl) (by decide) (by unfold maxLen; omega) (by omega) (by have := HSZ7.out; have := HR7.out.lt; simp; omega) _ rfl ?_)
                      intro g2 cap2 w8 hown8 hgr8 hat8 hlt8
                      have hgs : w.heap.size + 1 ≤ gs := (HO7.out.lt gs rfl).1
                      have hat8' : g2 = gs ∨ W7.heap.size ≤ g2 := by
                        rcases hat8 with e | e
                        · simp [Value.ownBlock] at e; omega
                        · omega
                      have HST8 := Lib.hid (show GSt2 n f w.heap.size w (upd L j f) (S ++ [j]) g2 cap2 w8 from
                        ⟨by rw [nv_snoc, List.length_append]; exact hown8, (HR7.out.alloc _).grown hgr8 (by simp [Value.ownBlock]; omega), (HB7.out.alloc (by have := HB7.out.size; omega) _).grown hgr8 (by have := HB7.out.size; simp; omega) (fun k hk => by simp [Value.ownBlock] at hk; omega)⟩)
                      have HN8 := Lib.hid (show NbAt w.heap.size g2 w8 (some ⟨ga, off, none⟩) xs from
                        (HN7.out.below ((Below.refl W7.heap.size W7).alloc (Nat.le_refl _) (.cells #[.int .i64 (j : Int)] 3)) (Nat.le_refl _)).grown hgr8 (fun q hq => by simp [Value.ownBlock] at hq; omega) (by
                          rcases hat8 with e | e
                          · simp [Value.ownBlock] at e; exact .inl (by omega)
                          · exact .inr (by rw [e]; simp)))
                      clear hown8 hgr8 hat8 hlt8 hat8'
                      go_wp2
                      go_roundw
                      case rel => exact ⟨i + 1, S ++ [j], upd L j f, g2, cap2, by omega, by go_num, by rw [List.length_append]; rfl, HST8.out, HN8.out, HE2.out, by rw [List.length_append]; exact HLT2.out, HD2.out⟩
                      case measure => simp [intOf]; omega
                  · have hie : lx = i := by omega
                    have HDI := Lib.hid (hes.seen fun j hj ha => by
                      obtain ⟨l, hl, e⟩ := I!_of_memG (HNX.out.2.2 j hj ha)
                      exact hdone l (by have := HLX.out; omega) j e hj)
                    have HST := Lib.hid hst
                    have HLT := Lib.hid hlt
                    clear hst hna hes hlt hdone
                    subst hie
                    go_wp2
                    go_roundg (2 * nNeg L n + S.length)
                    case rel => exact ⟨S, L, gs, cap, rfl, by have := HLT.out; omega, rfl, HST.out, HDI.out⟩
                    case measure => exact HLT.out
        · obtain rfl : f = n := by omega
          have HF := Lib.hid ho.done
          have HR := Lib.hid hr
          have HB := Lib.hid hb
          clear hr ho hb
          go_wp2
          go_ret
          exact ⟨L0, rfl, HR.out, HF.out, HB.out⟩
set_option maxRecDepth 100000 in
set_option maxHeartbeats 2000000 in
theorem joined_any (c p : Nat) (N : Int) (T : List Tr) (ko : Option Addr) (kc : Nat) (K : List Int) (X : World) (h : Tab X p N T) (hs : Surf N T) (hK : IntsAt X ko K) (hl : K.length = 3 * T.length) (hc : c < 3 * T.length) :
    Calls Tryz.prog 43 #[.pointer (some ⟨p, 0, none⟩), .slice ko K.length kc, .int .i64 (c : Int)] X fun e w' => e = .returned (.tuple #[.int .i64 (if openB T K c = true then opp T (c : Int) else -1), .bool (openB T K c)]) ∧ Below X.heap.size X w' := by
  obtain ⟨kb, koff, rfl, hkb, hkc⟩ := hK (by intro e; rw [e] at hl; simp at hl; omega)
  have ht1 := hs.t1
  have HOP := Lib.hid (opp_any (c : Int) _ _ _ _ h (by omega) (by omega))
  have HT := Lib.hid h
  have HS := Lib.hid hs
  have HKC := Lib.hid (show ∀ i, i < K.length → X.cell? ⟨kb, koff + i, none⟩ = some (.int .i64 (I! K i)) from hkc)
  have HL := Lib.hid hl
  obtain ⟨len, hlen⟩ : ∃ n, n = K.length := ⟨_, rfl⟩
  have HLEN := Lib.hid hlen
  have hlen3 : len = 3 * T.length := by rw [hlen]; exact hl
  have hcl : c < len := by omega
  have hl3 : len ≤ 30000 := by omega
  have HC := Lib.hid hc
  rw [← hlen]
  obtain ⟨A, hA⟩ : ∃ A, A = opp T (c : Int) := ⟨_, rfl⟩
  rw [← hA] at HOP ⊢
  have HA := Lib.hid hA
  obtain ⟨ob, hob⟩ : ∃ ob, ob = openB T K c := ⟨_, rfl⟩
  rw [← hob]
  have HQ := Lib.hid hob
  obtain ⟨jv, hjv⟩ : ∃ jv, jv = if ob = true then A else -1 := ⟨_, rfl⟩
  rw [← hjv]
  have HJ := Lib.hid hjv
  clear hjv hob h hs hkc hl hlen hlen3 hc hA ht1
  go_enter Tryz.func43, Tryz.ntmps43
  go_wp2_with fail
  refine HOP.out.mono ?_
  rintro e w1 ⟨rfl, hb1⟩
  have HB1 := Lib.hid hb1
  clear hb1
  by_cases h0 : A < 0
  case pos =>
    have d0 : decide (A < 0) = true := by simpa using h0
    have HO := Lib.hid (show ob = false from by rw [HQ.out]; unfold openB; rw [← HA.out]; simp; omega)
    clear h0
    go_upto_region 2 with fail
    go_quiet (fail)
    rename_i nq
    have HB2 := Lib.hid (show Below X.heap.size X (w1.drewN nq) from HB1.out.trans ⟨rfl, rfl, rfl, Nat.le_refl _, fun _ _ => rfl⟩)
    go_wp2
    exact bodyPost_ret (v := .tuple #[.int .i64 (-1), .bool false]) (by simp [results, Tryz.results43, go_sem]) rfl ⟨by rw [HJ.out, HO.out]; rfl, HB2.out⟩
  case neg =>
  have d0 : decide (A < 0) = false := by simpa using h0
  obtain ⟨o, ho, hol, -, -, -⟩ := HS.out.opp_opp HC.out (by rw [← HA.out]; omega)
  have hAo : A = (o : Int) := by rw [HA.out]; exact ho
  subst hAo
  have HNC := Lib.hid (show ∀ q, Calls Tryz.prog 49 #[.pointer (some ⟨p, 0, none⟩), .int .i64 (c : Int)] (w1.drewN q) fun e w' => e = .returned (.int .i64 (nxn c : Int)) ∧ ∃ r, w' = w1.drewN r from fun q => (nextN ((HT.out.mono (Nat.le_refl _) HB1.out).mono (Nat.le_refl _) (show Below w1.heap.size w1 (w1.drewN q) from ⟨rfl, rfl, rfl, Nat.le_refl _, fun _ _ => rfl⟩)) c HC.out).mono fun e w' ⟨h1, h2⟩ => ⟨h1, q, h2.symm⟩)
  have HPC := Lib.hid (show ∀ q, Calls Tryz.prog 50 #[.pointer (some ⟨p, 0, none⟩), .int .i64 (c : Int)] (w1.drewN q) fun e w' => e = .returned (.int .i64 (pvn c : Int)) ∧ ∃ r, w' = w1.drewN r from fun q => (prevN ((HT.out.mono (Nat.le_refl _) HB1.out).mono (Nat.le_refl _) (show Below w1.heap.size w1 (w1.drewN q) from ⟨rfl, rfl, rfl, Nat.le_refl _, fun _ _ => rfl⟩)) c HC.out).mono fun e w' ⟨h1, h2⟩ => ⟨h1, q, h2.symm⟩)
  have HNO := Lib.hid (show ∀ q, Calls Tryz.prog 49 #[.pointer (some ⟨p, 0, none⟩), .int .i64 (o : Int)] (w1.drewN q) fun e w' => e = .returned (.int .i64 (nxn o : Int)) ∧ ∃ r, w' = w1.drewN r from fun q => (nextN ((HT.out.mono (Nat.le_refl _) HB1.out).mono (Nat.le_refl _) (show Below w1.heap.size w1 (w1.drewN q) from ⟨rfl, rfl, rfl, Nat.le_refl _, fun _ _ => rfl⟩)) o hol).mono fun e w' ⟨h1, h2⟩ => ⟨h1, q, h2.symm⟩)
  have HPO := Lib.hid (show ∀ q, Calls Tryz.prog 50 #[.pointer (some ⟨p, 0, none⟩), .int .i64 (o : Int)] (w1.drewN q) fun e w' => e = .returned (.int .i64 (pvn o : Int)) ∧ ∃ r, w' = w1.drewN r from fun q => (prevN ((HT.out.mono (Nat.le_refl _) HB1.out).mono (Nat.le_refl _) (show Below w1.heap.size w1 (w1.drewN q) from ⟨rfl, rfl, rfl, Nat.le_refl _, fun _ _ => rfl⟩)) o hol).mono fun e w' ⟨h1, h2⟩ => ⟨h1, q, h2.symm⟩)
  have hnc := nxn_lt HC.out
  have hpc := pvn_lt HC.out
  have hno := nxn_lt hol
  have hpo := pvn_lt hol
  have y1 := HKC.out (nxn c) (by rw [HL.out]; exact hnc)
  have y2 := HKC.out (pvn o) (by rw [HL.out]; exact hpo)
  have y3 := HKC.out (pvn c) (by rw [HL.out]; exact hpc)
  have y4 := HKC.out (nxn o) (by rw [HL.out]; exact hno)
  have hlT : 3 * T.length = len := by rw [HLEN.out, HL.out]
  have HOB := Lib.hid (show ob = (I! K (nxn c) == I! K (pvn o) && I! K (pvn c) == I! K (nxn o)) from by
    rw [HQ.out]
    unfold openB
    rw [ho, Int.toNat_natCast]
    simp)
  rw [hlT] at hnc hpc hno hpo
  generalize nxn c = nc at HNC hnc y1 HOB
  generalize pvn c = pc at HPC hpc y3 HOB
  generalize nxn o = no at HNO hno y4 HOB
  generalize pvn o = po at HPO hpo y2 HOB
  generalize I! K nc = a1 at y1 HOB
  generalize I! K po = b1 at y2 HOB
  generalize I! K pc = a2 at y3 HOB
  generalize I! K no = b2 at y4 HOB
  have y1 := (HB1.out.cell (p := ⟨kb, koff + nc, none⟩) hkb).trans y1
  have y2 := (HB1.out.cell (p := ⟨kb, koff + po, none⟩) hkb).trans y2
  have y3 := (HB1.out.cell (p := ⟨kb, koff + pc, none⟩) hkb).trans y3
  have y4 := (HB1.out.cell (p := ⟨kb, koff + no, none⟩) hkb).trans y4
  have i1 : (0 : Int) ≤ (nc : Int) ∧ (nc : Int) < (len : Int) := by omega
  have i2 : (0 : Int) ≤ (po : Int) ∧ (po : Int) < (len : Int) := by omega
  have i3 : (0 : Int) ≤ (pc : Int) ∧ (pc : Int) < (len : Int) := by omega
  have i4 : (0 : Int) ≤ (no : Int) ∧ (no : Int) < (len : Int) := by omega
  have HBX := Lib.hid (show ∀ q, Below X.heap.size X (w1.drewN q) from fun q => HB1.out.trans ⟨rfl, rfl, rfl, Nat.le_refl _, fun _ _ => rfl⟩)
  clear hlT h0 ho hol
  obtain ⟨g1, hg1⟩ : ∃ g, (a1 != b1) = g := ⟨_, rfl⟩
  obtain ⟨g2, hg2⟩ : ∃ g, (a2 != b2) = g := ⟨_, rfl⟩
  have e1 : (a1 == b1) = !g1 := by rw [← hg1]; simp [bne]
  have e2 : (a2 == b2) = !g2 := by rw [← hg2]; simp [bne]
  have HO := Lib.hid (show ob = (!g1 && !g2) from by rw [HOB.out, e1, e2])
  clear e1 e2 HOB
  cases g1
  all_goals cases g2
  all_goals
    go_upto_region 2 with fail
    go_quiet ((first | (go_at_call 49; first | with_reducible exact HNC.out _ | with_reducible exact HNO.out _) | (go_at_call 50; first | with_reducible exact HPC.out _ | with_reducible exact HPO.out _)))
    all_goals
      go_wp2
      first
        | exact bodyPost_ret (v := .tuple #[.int .i64 (-1), .bool false]) (by simp [results, Tryz.results43, go_sem]) rfl ⟨by rw [HJ.out, HO.out]; rfl, HBX.out _⟩
        | exact bodyPost_ret (v := .tuple #[.int .i64 (o : Int), .bool true]) (by simp [results, Tryz.results43, go_sem]) rfl ⟨by rw [HJ.out, HO.out]; rfl, HBX.out _⟩
/-- A table and values, in the boxes of a function's variables. -/
structure KCtx (w : World) (p : Nat) (N : Int) (T : List Tr) (tb kx : Nat) (ko : Option Addr) (kc : Nat) (K : List Int) : Prop where
  tab : Tab w p N T
  surf : Surf N T
  len : K.length = 3 * T.length
  vals : IntsAt w ko K
  tl : tb < w.heap.size
  kl : kx < w.heap.size
  tc : w.cell? ⟨tb, 0, none⟩ = some (.pointer (some ⟨p, 0, none⟩))
  kcl : w.cell? ⟨kx, 0, none⟩ = some (.slice ko K.length kc)
theorem KCtx.mono {w w' : World} {p : Nat} {N : Int} {T : List Tr} {tb kx : Nat} {ko : Option Addr} {kc B : Nat} {K : List Int} (h : KCtx w p N T tb kx ko kc K) (hB : w.heap.size ≤ B) (hb : Below B w w') : KCtx w' p N T tb kx ko kc K where
  tab := h.tab.mono hB hb
  surf := h.surf
  len := h.len
  vals := h.vals.mono hB hb
  tl := by have := hb.size; have := h.tl; omega
  kl := by have := hb.size; have := h.kl; omega
  tc := (hb.cell (p := ⟨tb, 0, none⟩) (show tb < B by have := h.tl; omega)).trans h.tc
  kcl := (hb.cell (p := ⟨kx, 0, none⟩) (show kx < B by have := h.kl; omega)).trans h.kcl
theorem owns_new {w : World} {base n : Nat} {a : Option Addr} {c : Nat} {xs : List Value} (h : w.ownsRow base 3 1 (.slice a n c) n xs) : New base a := by
  intro p hp
  subst hp
  exact (h.lt p.block rfl).1
theorem owns_nb {w : World} {base : Nat} {v : Value} {xs : List Int} (h : w.ownsRow base 3 1 v xs.length (ic xs)) : ∃ a c, v = .slice a xs.length c ∧ IntsAt w a xs ∧ New base a := by
  by_cases h0 : 0 < xs.length
  · obtain ⟨g, cap, rfl, hb, hlt, hc, hm, hcell, hfr⟩ := owns_block h h0
    refine ⟨_, cap, rfl, fun _ => ⟨g, 0, rfl, hlt, fun i hi => ?_⟩, fun p hp => by cases hp; exact hb⟩
    have := hcell i (.int .i64 (I! xs i)) (by simp [ic, I!, List.getD_eq_getElem?_getD, hi])
    simpa using this
  · have e : xs = [] := by cases xs with | nil => rfl | cons a l => simp at h0
    obtain ⟨a, c, rfl⟩ := owns_slice h
    exact ⟨a, c, rfl, fun hne => absurd e hne, owns_new h⟩
set_option maxRecDepth 100000 in
set_option maxHeartbeats 2000000 in
theorem tri_next (N : Int) (T : List Tr) (K : List Int) (p tb kx : Nat) (ko : Option Addr) (kc : Nat) (i : Nat) (hi : i < T.length) (X : World) (h : KCtx X p N T tb kx ko kc K) :
    NbCall 42 #[.pointer (some ⟨tb, 0, none⟩), .pointer (some ⟨kx, 0, none⟩)] (fun i => triN T K i 3) i X := by
  unfold NbCall
  dsimp only
  obtain ⟨i0, hi0, hz0, hz1, hz2⟩ := info_parts info3
  have H := Lib.hid h
  have ht1 := h.surf.t1
  have hil : i < 8192 := by omega
  obtain ⟨nT, hnT⟩ : ∃ n, n = K.length := ⟨_, rfl⟩
  have HI := Lib.hid hi
  clear h ht1 hi hnT
  go_enter Tryz.func42, Tryz.ntmps42
  go_wp2
  go_loopw [9, 5] (fun c v ws => ∃ j : Nat, j ≤ 3 ∧ c = .int .i64 j ∧ ws.ownsRow X.heap.size 3 1 v (triN T K i j).length (ic (triN T K i j)) ∧ Below X.heap.size X ws) (fun c _ _ => 3 - (intOf c).toNat)
  case atStart => exact ⟨0, by omega, rfl, World.ownsRow_nil _ _ _ _, Below.refl _ _⟩
  case round =>
  obtain ⟨j, hj, rfl, hown, hb⟩ := hrel
  obtain ⟨W, rfl⟩ : ∃ W : World, W = wr := ⟨_, rfl⟩
  have HOWN := Lib.hid hown
  have HB := Lib.hid hb
  by_cases hj3 : j < 3
  case neg =>
    have hje : j = 3 := by omega
    subst hje
    obtain ⟨a, c, rfl, h1, h2⟩ := owns_nb hown
    have HF := Lib.hid (show IntsAt W a (triN T K i 3) ∧ New X.heap.size a from ⟨h1, h2⟩)
    clear hown hb h1 h2
    go_wp2
    go_ret
    exact ⟨a, c, rfl, HF.out.1, HF.out.2, HB.out⟩
  case pos =>
  have hcx := H.out.mono (Nat.le_refl _) hb
  have xt := hcx.tc
  have xk := hcx.kcl
  obtain ⟨c, hc⟩ : ∃ c, c = 3 * i + j := ⟨_, rfl⟩
  have hcT : c < 3 * T.length := by have := HI.out; omega
  have hsum : (3 : Int) * (i : Int) + (j : Int) = (c : Int) := by omega
  have hc3 : c < 30000 := by omega
  have HJ := Lib.hid (joined_any c p N T ko kc K W hcx.tab hcx.surf hcx.vals hcx.len hcT)
  obtain ⟨ob, hob⟩ : ∃ ob, ob = openB T K c := ⟨_, rfl⟩
  obtain ⟨jv, hjv⟩ : ∃ jv, jv = if openB T K c = true then opp T (c : Int) else -1 := ⟨_, rfl⟩
  rw [← hjv, ← hob] at HJ
  obtain ⟨l, hl⟩ : ∃ l, l = triN T K i j := ⟨_, rfl⟩
  have hll : l.length ≤ 3 := by
    rw [hl]; unfold triN; rw [List.length_map]
    exact Nat.le_trans (List.length_filter_le _ _) (by simp; omega)
  have HS := Lib.hid (triN_succ T K i j)
  rw [← hl, ← hc] at HS
  rw [← hl] at HOWN
  have hv := owns_slice HOWN.out
  obtain ⟨va, vc, rfl⟩ := hv
  have HO := Lib.hid hob
  have HV := Lib.hid hjv
  have HC := Lib.hid hc
  have HCX := Lib.hid hcx
  have HCT := Lib.hid hcT
  clear hown hb hcx hob hjv hl hc hcT
  go_wp2_with fail
  refine HJ.out.mono ?_
  rintro e w2 ⟨rfl, hb2⟩
  have HB2 := Lib.hid (below_more HB.out hb2 HB.out.size)
  have HOW2 := Lib.hid (owns_below HOWN.out hb2)
  clear hb2
  cases ob
  case false =>
    have HR := Lib.hid (show triN T K i (j + 1) = l from by rw [HS.out, ← HO.out]; rfl)
    go_wp2
    go_roundw
    case rel => exact ⟨j + 1, by omega, by go_num, by rw [HR.out]; exact HOW2.out, HB2.out⟩
    case measure => simp [intOf]; omega
  case true =>
  obtain ⟨o, ho⟩ := openB_iff.1 HO.out.symm
  have hol := (ho.symm HCX.out.surf HCT.out).1
  have hjo : jv = (o : Int) := by rw [HV.out, ← HO.out, if_pos rfl]; exact ho.1
  subst hjo
  obtain ⟨o3, ho3⟩ : ∃ o3, o3 = o / 3 := ⟨_, rfl⟩
  have hq : (o : Int) / 3 = (o3 : Int) := by omega
  have HR := Lib.hid (show triN T K i (j + 1) = l ++ [(o3 : Int)] from by rw [HS.out, ← HO.out, if_pos rfl, ho.1, hq])
  have hol2 : o < 30000 := by have := HCX.out.surf.t1; omega
  have hxs := HB2.out.size
  clear ho hol ho3
  have HX := Lib.hid (HOW2.out.alloc (.cells #[.int .i64 (o3 : Int)] 3))
  go_wp2_with (at_builtin; refine wpList_append_lies _ rfl _ _ 25 rfl X.heap.size 3 i0 (.int .i64 0) 1 8 (by kernel_rfl) hi0 hz0 hz1 hz2 rfl (by decide) _ _ _ rfl HX.out ⟨w2.heap.size, 0, none⟩ 1 1 [.int .i64 (o3 : Int)] rfl rfl (World.news_of_block (heap_alloc_new w2 _)) (by intro u hu; simp at hu; subst hu; rfl) (by decide) (by unfold maxLen; omega) (by omega) (by simp; omega) _ rfl ?_)
  intro g2 cap2 w8 hown8 hgr8 hat8 hlt8
  have HB8 := Lib.hid (show Below X.heap.size X w8 from (HB2.out.alloc HB2.out.size (.cells #[.int .i64 (o3 : Int)] 3)).grown hgr8 (by simp; omega) (fun q hq => (HOW2.out.lt q hq).1))
  have HOW8 := Lib.hid (show w8.ownsRow X.heap.size 3 1 (.slice (some ⟨g2, 0, none⟩) (l.length + 1) cap2) (l ++ [(o3 : Int)]).length (ic (l ++ [(o3 : Int)])) from by
    rw [List.length_append, ic_snoc]; exact hown8)
  clear hown8 hgr8 hat8 hlt8
  go_wp2
  go_roundw
  case rel => exact ⟨j + 1, by omega, by go_num, by rw [HR.out]; exact HOW8.out, HB8.out⟩
  case measure => simp [intOf]; omega
/-- One more number, if there is one. -/
def optL (b : Bool) (x : Int) : List Int := if b = true then [x] else []
theorem corN_opt (T : List Tr) (K : List Int) (c : Nat) : corN T K c = optL (openB T K (nxn c)) (nx (opp T (nxn c : Nat))) ++ optL (openB T K (pvn c)) (pv (opp T (pvn c : Nat))) := rfl
/-- What chart.joined says at a corner. -/
theorem joined_says (c p : Nat) (N : Int) (T : List Tr) (ko : Option Addr) (kc : Nat) (K : List Int) (W : World) {tb kx : Nat} (h : KCtx W p N T tb kx ko kc K) (hc : c < 3 * T.length) :
    ∃ (ob : Bool) (o : Nat), openB T K c = ob ∧ (ob = true → opp T (c : Int) = (o : Int) ∧ o < 3 * T.length) ∧ ∀ X, Below W.heap.size W X → Calls Tryz.prog 43 #[.pointer (some ⟨p, 0, none⟩), .slice ko K.length kc, .int .i64 (c : Int)] X fun e w' => (∃ jv : Int, (ob = true → jv = (o : Int)) ∧ e = .returned (.tuple #[.int .i64 jv, .bool ob])) ∧ Below X.heap.size X w' := by
  have hj := fun X (hX : Below W.heap.size W X) => joined_any c p N T ko kc K X (h.tab.mono (Nat.le_refl _) hX) h.surf (h.vals.mono (Nat.le_refl _) hX) h.len hc
  cases hob : openB T K c with
  | false => exact ⟨false, 0, rfl, (fun e => by cases e), fun X hX => (hj X hX).mono fun e w' ⟨h1, h2⟩ => ⟨⟨-1, (fun e => by cases e), by rw [h1, hob, if_neg (by simp)]⟩, h2⟩⟩
  | true =>
    obtain ⟨o, ho⟩ := openB_iff.1 hob
    exact ⟨true, o, rfl, fun _ => ⟨ho.1, (ho.symm h.surf hc).1⟩, fun X hX => (hj X hX).mono fun e w' ⟨h1, h2⟩ => ⟨⟨(o : Int), fun _ => rfl, by rw [h1, hob, if_pos rfl, ho.1]⟩, h2⟩⟩
set_option maxRecDepth 100000 in
set_option maxHeartbeats 2000000 in
theorem cor_next (N : Int) (T : List Tr) (K : List Int) (p tb kx : Nat) (ko : Option Addr) (kc : Nat) (c : Nat) (hc : c < 3 * T.length) (X : World) (h : KCtx X p N T tb kx ko kc K) :
    NbCall 48 #[.pointer (some ⟨tb, 0, none⟩), .pointer (some ⟨kx, 0, none⟩)] (corN T K) c X := by
  unfold NbCall
  obtain ⟨i0, hi0, hz0, hz1, hz2⟩ := info_parts info3
  have H := Lib.hid h
  have ht1 := h.surf.t1
  have hnl := nxn_lt hc
  have hpl := pvn_lt hc
  obtain ⟨ob1, o1, b1, q1, HJ1⟩ := joined_says (nxn c) p N T ko kc K X h hnl
  obtain ⟨ob2, o2, b2, q2, HJ2⟩ := joined_says (pvn c) p N T ko kc K X h hpl
  have HJ1 := Lib.hid (fun Y (hY : Hid (Below X.heap.size X Y)) => (HJ1 Y hY.out).mono (R' := fun e w' => (∃ jv : Int, (ob1 = true → jv = (o1 : Int)) ∧ e = .returned (.tuple #[.int .i64 jv, .bool ob1])) ∧ Hid (Below X.heap.size X w')) fun e w' ⟨h1, h2⟩ => ⟨h1, Lib.hid (below_more hY.out h2 hY.out.size)⟩)
  have HJ2 := Lib.hid HJ2
  have HL := Lib.hid (show corN T K c = optL ob1 (nxn o1 : Nat) ++ optL ob2 (pvn o2 : Nat) from by
    rw [corN_opt, b1, b2]
    congr 1
    · cases ob1
      · rfl
      · rw [(q1 rfl).1, nx_nat]
    · cases ob2
      · rfl
      · rw [(q2 rfl).1, pv_nat])
  have HQ1 := Lib.hid (show ob1 = true → o1 < 3 * T.length from fun e => (q1 e).2)
  have HQ2 := Lib.hid (show ob2 = true → o2 < 3 * T.length from fun e => (q2 e).2)
  have HNX := Lib.hid (show ∀ Y, Hid (Below X.heap.size X Y) → Calls Tryz.prog 49 #[.pointer (some ⟨p, 0, none⟩), .int .i64 (c : Int)] Y fun e w' => e = .returned (.int .i64 (nxn c : Int)) ∧ Hid (Below X.heap.size X w') from fun Y hY => (nextN (h.tab.mono (Nat.le_refl _) hY.out) c hc).mono fun e w' ⟨h1, h2⟩ => ⟨h1, by rw [← h2]; exact hY⟩)
  have HPV := Lib.hid (show ∀ Y, Hid (Below X.heap.size X Y) → Calls Tryz.prog 50 #[.pointer (some ⟨p, 0, none⟩), .int .i64 (c : Int)] Y fun e w' => e = .returned (.int .i64 (pvn c : Int)) ∧ Y = w' from fun Y hY => prevN (h.tab.mono (Nat.le_refl _) hY.out) c hc)
  obtain ⟨res, hres⟩ : ∃ r, r = corN T K c := ⟨_, rfl⟩
  rw [← hres] at HL ⊢
  obtain ⟨kl, hkl⟩ : ∃ n, n = K.length := ⟨_, rfl⟩
  have HKS := Lib.hid (show ∀ Y, Hid (Below X.heap.size X Y) → Y.cell? ⟨tb, 0, none⟩ = some (.pointer (some ⟨p, 0, none⟩)) ∧ Y.cell? ⟨kx, 0, none⟩ = some (.slice ko kl kc) from fun Y hY => ⟨(h.mono (Nat.le_refl _) hY.out).tc, by rw [hkl]; exact (h.mono (Nat.le_refl _) hY.out).kcl⟩)
  rw [← hkl] at HJ1 HJ2
  have HRF := Lib.hid (Below.refl X.heap.size X)
  have HDR := Lib.hid (show Below X.heap.size X X.drew from ⟨rfl, rfl, rfl, Nat.le_refl _, fun _ _ => rfl⟩)
  have HNT := Lib.hid (show 3 * T.length ≤ 30000 by omega)
  generalize nxn c = nc at HJ1 HNX
  generalize pvn c = pc at HJ2 HPV
  clear h ht1 hnl hpl b1 b2 q1 q2 hres hkl hc
  go_enter Tryz.func48, Tryz.ntmps48
  go_upto_region 2 with fail
  go_region_held3 (fun Y => Y.cell? ⟨tb, 0, none⟩ = some (.pointer (some ⟨p, 0, none⟩)) ∧ Y.cell? ⟨kx, 0, none⟩ = some (.slice ko kl kc))
    (exact HKS.out _ (by assumption))
    (first
      | (go_at_call 49; (with_reducible refine (HNX.out _ (by assumption)).mono ?_); rintro e w2 ⟨rfl, hw2⟩)
      | (go_at_call 43; (with_reducible refine (HJ1.out _ (by assumption)).mono ?_); rintro e w3 ⟨⟨jv, hjv, rfl⟩, hb3⟩))
  have HW3 := Lib.hid (show Below X.heap.size X w3 from hb3.out)
  have hb3s := HW3.out.size
  have HJV := Lib.hid hjv
  obtain ⟨W3, rfl⟩ : ∃ W3 : World, W3 = w3 := ⟨_, rfl⟩
  have xt := (HKS.out W3 HW3).1
  have HNX1 := Lib.hid (show ob1 = true → ∀ Y, Below X.heap.size X Y → Calls Tryz.prog 49 #[.pointer (some ⟨p, 0, none⟩), .int .i64 (o1 : Int)] Y fun e w' => e = .returned (.int .i64 (nxn o1 : Int)) ∧ Y = w' from fun e Y hY => nextN (H.out.tab.mono (Nat.le_refl _) hY) o1 (HQ1.out e))
  have HPV2 := Lib.hid (show ob2 = true → ∀ Y, Below X.heap.size X Y → Calls Tryz.prog 50 #[.pointer (some ⟨p, 0, none⟩), .int .i64 (o2 : Int)] Y fun e w' => e = .returned (.int .i64 (pvn o2 : Int)) ∧ Y = w' from fun e Y hY => prevN (H.out.tab.mono (Nat.le_refl _) hY) o2 (HQ2.out e))
  have HBD := Lib.hid (show (ob1 = true → nxn o1 < 30000) ∧ (ob2 = true → pvn o2 < 30000) from ⟨fun e => by have := nxn_lt (HQ1.out e); have := HNT.out; omega, fun e => by have := pvn_lt (HQ2.out e); have := HNT.out; omega⟩)
  generalize nxn o1 = n1 at HL HNX1 HBD
  generalize pvn o2 = n2 at HL HPV2 HBD
  clear hjv hb3 hw2
  go_upto_if 19 with fail
  go_cut [5] (fun v wc => ∃ va vc, v = .slice va (optL ob1 n1).length vc ∧ wc.ownsRow X.heap.size 3 1 (.slice va (optL ob1 n1).length vc) (optL ob1 n1).length (ic (optL ob1 n1)) ∧ Below X.heap.size X wc)
  case first =>
    cases ob1
    case false =>
      go_wp2
      go_meet
      exact ⟨none, 0, rfl, World.ownsRow_nil _ _ _ _, HW3.out⟩
    case true =>
      have hje := HJV.out rfl
      subst hje
      have HN := Lib.hid (HNX1.out rfl W3 HW3.out)
      go_wp2_with fail
      refine HN.out.mono ?_
      rintro e w4 ⟨rfl, rfl⟩
      have HX := Lib.hid (World.ownsRow_nil (W3.alloc (.cells #[.int .i64 (n1 : Int)] 3)) X.heap.size 3 1)
      go_wp2_with (at_builtin; refine wpList_append_lies _ rfl _ _ 25 rfl X.heap.size 3 i0 (.int .i64 0) 1 8 (by kernel_rfl) hi0 hz0 hz1 hz2 rfl (by decide) _ _ _ rfl HX.out ⟨W3.heap.size, 0, none⟩ 1 1 [.int .i64 (n1 : Int)] rfl rfl (World.news_of_block (heap_alloc_new W3 _)) (by intro u hu; simp at hu; subst hu; rfl) (by decide) (by unfold maxLen; omega) (by omega) (by simp; omega) _ rfl ?_)
      intro g2 cap2 w8 hown8 hgr8 hat8 hlt8
      have HB8 := Lib.hid (show Below X.heap.size X w8 from (HW3.out.alloc HW3.out.size (.cells #[.int .i64 (n1 : Int)] 3)).grown hgr8 (by simp; omega) (fun q hq => by cases hq))
      have HOW8 := Lib.hid hown8
      clear hown8 hgr8 hat8 hlt8
      go_wp2
      go_meet
      exact ⟨_, cap2, rfl, HOW8.out, HB8.out⟩
  case rest =>
  obtain ⟨va, vc, rfl, hown, hb⟩ := hcut
  obtain ⟨W5, rfl⟩ : ∃ W5 : World, W5 = wc := ⟨_, rfl⟩
  obtain ⟨l1, hl1⟩ : ∃ l, l = optL ob1 (n1 : Int) := ⟨_, rfl⟩
  rw [← hl1] at HL hown ⊢
  have hll : l1.length ≤ 1 := by rw [hl1]; unfold optL; split <;> simp
  have HOW5 := Lib.hid hown
  have HB5 := Lib.hid hb
  have HRF := Lib.hid (Below.refl W5.heap.size W5)
  have HDR := Lib.hid (show Below W5.heap.size W5 W5.drew from ⟨rfl, rfl, rfl, Nat.le_refl _, fun _ _ => rfl⟩)
  have HKO := Lib.hid (show ∀ Y, Hid (Below W5.heap.size W5 Y) → Y.cell? ⟨tb, 0, none⟩ = some (.pointer (some ⟨p, 0, none⟩)) ∧ Y.cell? ⟨kx, 0, none⟩ = some (.slice ko kl kc) from fun Y hY => HKS.out Y (Lib.hid (below_more hb hY.out hb.size)))
  have HPV5 := Lib.hid (show ∀ Y, Hid (Below W5.heap.size W5 Y) → Calls Tryz.prog 50 #[.pointer (some ⟨p, 0, none⟩), .int .i64 (c : Int)] Y fun e w' => e = .returned (.int .i64 (pc : Int)) ∧ Hid (Below W5.heap.size W5 w') from fun Y hY => (HPV.out Y (Lib.hid (below_more hb hY.out hb.size))).mono fun e w' ⟨h1, h2⟩ => ⟨h1, by rw [← h2]; exact hY⟩)
  have HJ5 := Lib.hid (show ∀ Y, Hid (Below W5.heap.size W5 Y) → Calls Tryz.prog 43 #[.pointer (some ⟨p, 0, none⟩), .slice ko kl kc, .int .i64 (pc : Int)] Y fun e w' => (∃ jv : Int, (ob2 = true → jv = (o2 : Int)) ∧ e = .returned (.tuple #[.int .i64 jv, .bool ob2])) ∧ Hid (Below W5.heap.size W5 w') from fun Y hY => (HJ2.out Y (below_more hb hY.out hb.size)).mono fun e w' ⟨h1, h2⟩ => ⟨h1, Lib.hid (below_more hY.out h2 hY.out.size)⟩)
  clear hown hb hl1 xt HJ1 HNX HNX1 HPV HJ2 HW3 hb3s HJV
  clear HRF HDR
  have HRF := Lib.hid (Below.refl W5.heap.size W5)
  have HDR := Lib.hid (show Below W5.heap.size W5 W5.drew from ⟨rfl, rfl, rfl, Nat.le_refl _, fun _ _ => rfl⟩)
  go_upto_region 5 with fail
  go_region_held3 (fun Y => Y.cell? ⟨tb, 0, none⟩ = some (.pointer (some ⟨p, 0, none⟩)) ∧ Y.cell? ⟨kx, 0, none⟩ = some (.slice ko kl kc))
    (exact HKO.out _ (by assumption))
    (first
      | (go_at_call 50; (with_reducible refine (HPV5.out _ (by assumption)).mono ?_); rintro e w2 ⟨rfl, hw2⟩)
      | (go_at_call 43; (with_reducible refine (HJ5.out _ (by assumption)).mono ?_); rintro e w6 ⟨⟨jv2, hjv2, rfl⟩, hb6⟩))
  have HW6 := Lib.hid (show Below X.heap.size X w6 from below_more HB5.out hb6.out HB5.out.size)
  have HOW6 := Lib.hid (owns_below HOW5.out hb6.out)
  have hb6s := HW6.out.size
  have HJV := Lib.hid hjv2
  obtain ⟨W6, rfl⟩ : ∃ W6 : World, W6 = w6 := ⟨_, rfl⟩
  have xt := (HKS.out W6 HW6).1
  clear hjv2 hb6 hw2
  cases ob2
  case false =>
    have HR := Lib.hid (show res = l1 from by rw [HL.out]; simp [optL])
    go_wp2
    obtain ⟨a, c', e, h1, h2⟩ := owns_nb HOW6.out
    simp only [Value.slice.injEq, true_and] at e
    obtain ⟨rfl, rfl⟩ := e
    exact bodyPost_ret (v := .slice va l1.length vc) (by simp [results, Tryz.results48, go_sem]) rfl ⟨va, vc, by rw [HR.out], by rw [HR.out]; exact h1, h2, HW6.out⟩
  case true =>
    have HR := Lib.hid (show res = l1 ++ [(n2 : Int)] from by rw [HL.out]; simp [optL])
    have hje := HJV.out rfl
    subst hje
    have HN := Lib.hid (HPV2.out rfl W6 HW6.out)
    go_wp2_with fail
    refine HN.out.mono ?_
    rintro e w4 ⟨rfl, rfl⟩
    have HX := Lib.hid (HOW6.out.alloc (.cells #[.int .i64 (n2 : Int)] 3))
    go_wp2_with (at_builtin; refine wpList_append_lies _ rfl _ _ 25 rfl X.heap.size 3 i0 (.int .i64 0) 1 8 (by kernel_rfl) hi0 hz0 hz1 hz2 rfl (by decide) _ _ _ rfl HX.out ⟨W6.heap.size, 0, none⟩ 1 1 [.int .i64 (n2 : Int)] rfl rfl (World.news_of_block (heap_alloc_new W6 _)) (by intro u hu; simp at hu; subst hu; rfl) (by decide) (by unfold maxLen; omega) (by omega) (by simp; omega) _ rfl ?_)
    intro g2 cap2 w8 hown8 hgr8 hat8 hlt8
    have HB8 := Lib.hid (show Below X.heap.size X w8 from (HW6.out.alloc HW6.out.size (.cells #[.int .i64 (n2 : Int)] 3)).grown hgr8 (by simp; omega) (fun q hq => (HOW6.out.lt q hq).1))
    have HOW8 := Lib.hid (show w8.ownsRow X.heap.size 3 1 (.slice (some ⟨g2, 0, none⟩) (l1 ++ [(n2 : Int)]).length cap2) (l1 ++ [(n2 : Int)]).length (ic (l1 ++ [(n2 : Int)])) from by
      rw [List.length_append, ic_snoc]; exact hown8)
    clear hown8 hgr8 hat8 hlt8
    go_wp2
    obtain ⟨a, c', e, h1, h2⟩ := owns_nb HOW8.out
    simp only [Value.slice.injEq, true_and] at e
    obtain ⟨rfl, rfl⟩ := e
    exact bodyPost_ret (v := .slice (some ⟨g2, 0, none⟩) (l1.length + 1) cap2) (by simp [results, Tryz.results48, go_sem]) rfl ⟨_, cap2, by rw [HR.out, List.length_append]; rfl, by rw [HR.out]; exact h1, h2, HB8.out⟩
/-- len of a map. -/
theorem wpList_len_mapis {ops : Array Oper} {rest : List Oper} {o : Oper} {a : Act} {Q : Exit → Act → World → Prop} {w : World} {k : TypeId} {κ : Type} {F : KeyFam k κ} {m n : Nat} {C : κ → Option Value} (hg : o.guard = none) (mo : Operand) (t e : TypeId)
    (hop : o.op = Op.call { callee := Callee.builtin Builtin.len, args := #[mo], argTypes := #[t] }) (ht : Tryz.prog.underlying t = some (.map k e)) (hm : a.eval mo = .map (some m)) (h : MapIs F w m n C)
    (hK : wpList Tryz.prog ops Q rest (a.put o.dst (.int .i64 (n : Int))) w) : wpList Tryz.prog ops Q (o :: rest) a w := by
  refine wpList_plain hg fun K' hK' => ?_
  obtain ⟨es, clock, h1, h2, -⟩ := h
  have hlen : (Builtin.len_ #[t] o.type #[.map (some m)]).run Tryz.prog w = .ok (.int .i64 (n : Int)) w := by
    simp [Builtin.len_, run_underlying ht, MapKept.run_getObj_map h1, Result.andThen, h2, goInt]
  unfold Oper.wp
  simp [execOp, hop, resolve, invoke, builtin, hm, hlen, Result.andThen]
  exact hK' _ _ hK
set_option maxHeartbeats 400000 in
theorem fits_nil (ko : Option Addr) (n kc : Nat) (w : World) :
    Calls Tryz.prog 39 #[.pointer none, .slice ko n kc] w fun e w' => e = .returned (.bool false) ∧ w = w' := by
  go_enter Tryz.func39, Tryz.ntmps39
  go_wp2
  go_ret
  exact ⟨rfl, rfl⟩
set_option maxHeartbeats 400000 in
theorem fits_tab (ko : Option Addr) (n kc p : Nat) (N : Int) (T : List Tr) (w : World) (h : TabS w p N T) (hl : T.length ≤ 10000) :
    Calls Tryz.prog 39 #[.pointer (some ⟨p, 0, none⟩), .slice ko n kc] w fun e w' => e = .returned (.bool (decide (n = 3 * T.length))) ∧ w = w' := by
  have HT := Lib.hid (triangles_any _ _ _ _ h)
  obtain ⟨g, hg⟩ : ∃ g, g = decide (n = 3 * T.length) := ⟨_, rfl⟩
  rw [← hg]
  obtain ⟨t, ht⟩ : ∃ t, t = T.length := ⟨_, rfl⟩
  rw [← ht] at hg hl HT
  have hgi : ((n : Int) == 3 * (t : Int)) = g := by
    rw [hg, Bool.eq_iff_iff]; simp; omega
  clear hg ht h
  go_enter Tryz.func39, Tryz.ntmps39
  go_wp2_with fail
  refine HT.out.mono ?_
  rintro e w1 ⟨rfl, rfl⟩
  go_wp2
  go_ret
  exact ⟨rfl, rfl⟩
set_option maxHeartbeats 400000 in
theorem csides_nil (ko : Option Addr) (n kc : Nat) (w : World) :
    Calls Tryz.prog 16 #[.pointer none, .slice ko n kc] w fun e w' => e = .returned (.tuple #[.slice none 0 0, .int .i64 1]) ∧ Below w.heap.size w w' := by
  have HB := Lib.hid (show Below w.heap.size w ((w.alloc (.cells #[.pointer none] 31)).alloc (.cells #[.slice ko n kc] 25)) from ((Below.refl _ _).alloc (Nat.le_refl _) _).alloc (by simp) _)
  go_enter Tryz.func16, Tryz.ntmps16
  go_wp2_with fail
  refine (fits_nil ko n kc _).mono ?_
  rintro e w1 ⟨rfl, rfl⟩
  go_wp2
  exact bodyPost_ret (v := .tuple #[.slice none 0 0, .int .i64 1]) (by simp [results, Tryz.results16, go_sem]) rfl ⟨rfl, HB.out⟩
set_option maxHeartbeats 400000 in
theorem csides_bad (ko : Option Addr) (n kc p : Nat) (N : Int) (T : List Tr) (w : World) (h : TabS w p N T) (hl : T.length ≤ 10000) (hn : n ≠ 3 * T.length) :
    Calls Tryz.prog 16 #[.pointer (some ⟨p, 0, none⟩), .slice ko n kc] w fun e w' => e = .returned (.tuple #[.slice none 0 0, .int .i64 1]) ∧ Below w.heap.size w w' := by
  have hb : Below w.heap.size w ((w.alloc (.cells #[.pointer (some ⟨p, 0, none⟩)] 31)).alloc (.cells #[.slice ko n kc] 25)) := ((Below.refl _ _).alloc (Nat.le_refl _) _).alloc (by simp) _
  have HF := fits_tab ko n kc p N T _ (h.mono (Nat.le_refl _) hb) hl
  rw [decide_eq_false hn] at HF
  have HF := Lib.hid HF
  have HB := Lib.hid hb
  clear hb h hn
  go_enter Tryz.func16, Tryz.ntmps16
  go_wp2_with fail
  refine HF.out.mono ?_
  rintro e w1 ⟨rfl, rfl⟩
  go_wp2
  exact bodyPost_ret (v := .tuple #[.slice none 0 0, .int .i64 1]) (by simp [results, Tryz.results16, go_sem]) rfl ⟨rfl, HB.out⟩
set_option maxHeartbeats 400000 in
theorem cof_nil (ko : Option Addr) (n kc : Nat) (w : World) :
    Calls Tryz.prog 13 #[.pointer none, .slice ko n kc] w fun e w' => e = .returned (.tuple #[.slice none 0 0, .int .i64 1]) ∧ Below w.heap.size w w' := by
  have HB := Lib.hid (show Below w.heap.size w ((w.alloc (.cells #[.pointer none] 31)).alloc (.cells #[.slice ko n kc] 25)) from ((Below.refl _ _).alloc (Nat.le_refl _) _).alloc (by simp) _)
  go_enter Tryz.func13, Tryz.ntmps13
  go_wp2_with fail
  refine (fits_nil ko n kc _).mono ?_
  rintro e w1 ⟨rfl, rfl⟩
  go_wp2
  exact bodyPost_ret (v := .tuple #[.slice none 0 0, .int .i64 1]) (by simp [results, Tryz.results13, go_sem]) rfl ⟨rfl, HB.out⟩
set_option maxHeartbeats 400000 in
theorem cof_bad (ko : Option Addr) (n kc p : Nat) (N : Int) (T : List Tr) (w : World) (h : TabS w p N T) (hl : T.length ≤ 10000) (hn : n ≠ 3 * T.length) :
    Calls Tryz.prog 13 #[.pointer (some ⟨p, 0, none⟩), .slice ko n kc] w fun e w' => e = .returned (.tuple #[.slice none 0 0, .int .i64 1]) ∧ Below w.heap.size w w' := by
  have hb : Below w.heap.size w ((w.alloc (.cells #[.pointer (some ⟨p, 0, none⟩)] 31)).alloc (.cells #[.slice ko n kc] 25)) := ((Below.refl _ _).alloc (Nat.le_refl _) _).alloc (by simp) _
  have HF := fits_tab ko n kc p N T _ (h.mono (Nat.le_refl _) hb) hl
  rw [decide_eq_false hn] at HF
  have HF := Lib.hid HF
  have HB := Lib.hid hb
  clear hb h hn
  go_enter Tryz.func13, Tryz.ntmps13
  go_wp2_with fail
  refine HF.out.mono ?_
  rintro e w1 ⟨rfl, rfl⟩
  go_wp2
  exact bodyPost_ret (v := .tuple #[.slice none 0 0, .int .i64 1]) (by simp [results, Tryz.results13, go_sem]) rfl ⟨rfl, HB.out⟩
/-- The boxes of a table and of values. -/
theorem kctx_new {w : World} {p : Nat} {N : Int} {T : List Tr} {ko : Option Addr} {kc : Nat} {K : List Int} (h : Tab w p N T) (hs : Surf N T) (hl : K.length = 3 * T.length) (hK : IntsAt w ko K) :
    KCtx ((w.alloc (.cells #[.pointer (some ⟨p, 0, none⟩)] 31)).alloc (.cells #[.slice ko K.length kc] 25)) p N T w.heap.size (w.heap.size + 1) ko kc K ∧ Below w.heap.size w ((w.alloc (.cells #[.pointer (some ⟨p, 0, none⟩)] 31)).alloc (.cells #[.slice ko K.length kc] 25)) := by
  have hb : Below w.heap.size w ((w.alloc (.cells #[.pointer (some ⟨p, 0, none⟩)] 31)).alloc (.cells #[.slice ko K.length kc] 25)) := ((Below.refl _ _).alloc (Nat.le_refl _) _).alloc (by simp) _
  refine ⟨⟨h.mono (Nat.le_refl _) hb, hs, hl, hK.mono (Nat.le_refl _) hb, by simp; omega, by simp, ?_, ?_⟩, hb⟩
  · exact ((RowIs.made w 31 [.pointer (some ⟨p, 0, none⟩)]).alloc _).cell (i := 0) rfl
  · exact (RowIs.made' (w.alloc (.cells #[.pointer (some ⟨p, 0, none⟩)] 31)) 25 [.slice ko K.length kc] (w.heap.size + 1) (by simp)).cell (i := 0) rfl
def SidesP (w : World) (T : List Tr) (K : List Int) (e : Ending) (w' : World) : Prop :=
  ∃ g L, e = .returned (.tuple #[.slice (some ⟨g, 0, none⟩) (3 * T.length) (3 * T.length), .int .i64 0]) ∧ w.heap.size ≤ g ∧ RowIs w' g 3 (iv L (3 * T.length)) ∧ IsLeast (KSAdj T K) (3 * T.length) L ∧ Below w.heap.size w w'
set_option maxRecDepth 100000 in
set_option maxHeartbeats 2000000 in
theorem csides_ok (p : Nat) (N : Int) (T : List Tr) (ko : Option Addr) (kc : Nat) (K : List Int) (w : World) (h : Tab w p N T) (hs : Surf N T) (hl : K.length = 3 * T.length) (hK : IntsAt w ko K) :
    Calls Tryz.prog 16 #[.pointer (some ⟨p, 0, none⟩), .slice ko K.length kc] w (SidesP w T K) := by
  obtain ⟨hcx, hb⟩ := kctx_new (kc := kc) h hs hl hK
  obtain ⟨W0, hW0⟩ : ∃ W0, W0 = (w.alloc (.cells #[.pointer (some ⟨p, 0, none⟩)] 31)).alloc (.cells #[.slice ko K.length kc] 25) := ⟨_, rfl⟩
  obtain ⟨B, hB⟩ : ∃ B, B = w.heap.size := ⟨_, rfl⟩
  rw [← hW0] at hcx hb
  have ht1 := hs.t1
  have HF := fits_tab ko K.length kc p N T W0 hcx.tab.s (by omega)
  rw [decide_eq_true hl] at HF
  have HF := Lib.hid HF
  have HG := groups_ok (KSAdj T K) (3 * T.length) (by omega) (corN T K) (corN_ok hs) (ksadj_symm hs) 48 #[.pointer (some ⟨w.heap.size, 0, none⟩), .pointer (some ⟨w.heap.size + 1, 0, none⟩)] (enters_of Tryz.func48 (by kernel_rfl) rfl) W0 (fun x X hx hX => cor_next N T K p _ _ ko kc x hx X (hcx.mono (Nat.le_refl _) hX))
  have hxt := hcx.tc
  have hxk := hcx.kcl
  have HB := Lib.hid hb
  have HL := Lib.hid hl
  rw [← hB] at hxt hxk HG
  have HBB := Lib.hid hB
  rw [← hl] at HG
  have HG := Lib.hid HG
  obtain ⟨n, hn⟩ : ∃ n, n = K.length := ⟨_, rfl⟩
  have hn3 : n ≤ 30000 := by omega
  have HN := Lib.hid (show n = 3 * T.length by omega)
  rw [← hn] at HF HG hxk hW0 ⊢
  have hmf : ∀ (fn : Fn) (first cap : Array Value) (w : World), (Instr.makeFunc fn first cap).run Tryz.prog w = .ok (.func fn first cap) w := fun _ _ _ _ => rfl
  clear h hs hl hK hcx hb ht1 hn
  go_enter Tryz.func16, Tryz.ntmps16
  go_upto_region 1 with fail
  rw [← hW0, ← hB]
  clear hW0 hB
  go_wp2_with fail
  refine HF.out.mono ?_
  rintro e w1 ⟨rfl, rfl⟩
  go_wp2_with fail
  refine HG.out.mono ?_
  rintro e w2 ⟨L, rfl, hrow, hlst, hb2⟩
  have HP := Lib.hid (show SidesP w T K (.returned (.tuple #[.slice (some ⟨W0.heap.size, 0, none⟩) n n, .int .i64 0])) w2 from ⟨W0.heap.size, L, by rw [HN.out], by have := HB.out.size; omega, by rw [← HN.out]; exact hrow, by rw [← HN.out]; exact hlst, below_more HB.out hb2 HB.out.size⟩)
  clear hrow hlst hb2
  go_wp2
  exact bodyPost_ret (v := .tuple #[.slice (some ⟨W0.heap.size, 0, none⟩) n n, .int .i64 0]) (by simp [results, Tryz.results16, go_sem]) rfl HP.out
theorem IsLeast.rep {A : Nat → Nat → Prop} {n : Nat} {L : Nat → Int} (h : IsLeast A n L) (hA : ∀ i j, A i j → i < n ∧ j < n) : Rep A n fun i => (L i).toNat where
  sp i hi := ⟨by have := h.le i hi; show (L i).toNat ≤ i; omega, h.con i hi⟩
  eq i j hi hj c := by rw [(h.iff hA hi hj).2 c]
/-- What chart.Of's map holds: of the least ones the numbers. -/
def numM (L M : Nat → Int) (i : Nat) : Int → Option Value := fun x => if 0 ≤ x ∧ x.toNat < i ∧ L x.toNat = x then some (.int .i64 (M x.toNat)) else none
theorem numM_zero (L M : Nat → Int) : numM L M 0 = fun _ => none := by
  funext x
  unfold numM
  rw [if_neg (by omega)]
theorem numM_fresh {L M : Nat → Int} {i : Nat} {c : Int} (h : L i = i) : (fun b : Int => if b = (i : Int) then some (Value.int .i64 c) else numM L M i b) = numM L (upd M i c) (i + 1) := by
  funext x
  unfold numM upd
  by_cases e : x = (i : Int)
  · subst e
    rw [if_pos rfl, if_pos ⟨by omega, by omega, by rw [Int.toNat_natCast]; exact h⟩, Int.toNat_natCast, if_pos rfl]
  · rw [if_neg e]
    by_cases q : 0 ≤ x ∧ x.toNat < i ∧ L x.toNat = x
    · rw [if_pos q, if_pos ⟨q.1, by omega, q.2.2⟩, if_neg (by omega)]
    · rw [if_neg q, if_neg (by
        rintro ⟨q1, q2, q3⟩
        exact q ⟨q1, by omega, q3⟩)]
theorem numM_same {L M : Nat → Int} {i : Nat} {c : Int} (h : L i ≠ i) : numM L (upd M i c) (i + 1) = numM L M i := by
  funext x
  unfold numM upd
  by_cases q : 0 ≤ x ∧ x.toNat < i ∧ L x.toNat = x
  · rw [if_pos q, if_pos ⟨q.1, by omega, q.2.2⟩, if_neg (by omega)]
  · rw [if_neg q, if_neg (by
      rintro ⟨q1, q2, q3⟩
      by_cases e : x.toNat = i
      · rw [e] at q3; exact h (by omega)
      · exact q ⟨q1, by omega, q3⟩)]
theorem numM_at {L M : Nat → Int} {i j : Nat} (hj : j < i) (h : L j = j) : numM L M i (j : Int) = some (.int .i64 (M j)) := by
  unfold numM
  rw [if_pos ⟨by omega, by omega, by rw [Int.toNat_natCast]; exact h⟩, Int.toNat_natCast]
theorem numM_no {L M : Nat → Int} {i : Nat} : numM L M i (i : Int) = none := by
  unfold numM
  rw [if_neg (by omega)]
def OfP (w : World) (T : List Tr) (K : List Int) (e : Ending) (w' : World) : Prop :=
  ∃ g M, e = .returned (.tuple #[.slice (some ⟨g, 0, none⟩) T.length T.length, .int .i64 0]) ∧ w.heap.size ≤ g ∧ RowIs w' g 3 (iv M T.length) ∧ IsShells (KAdj T K) T.length M ∧ Below w.heap.size w w'
set_option maxRecDepth 100000 in
set_option maxHeartbeats 2000000 in
theorem cof_ok (p : Nat) (N : Int) (T : List Tr) (ko : Option Addr) (kc : Nat) (K : List Int) (w : World) (h : Tab w p N T) (hs : Surf N T) (hl : K.length = 3 * T.length) (hK : IntsAt w ko K) :
    Calls Tryz.prog 13 #[.pointer (some ⟨p, 0, none⟩), .slice ko K.length kc] w (OfP w T K) := by
  obtain ⟨i0, hi0, hz0, hz1, hz2⟩ := info_parts info3
  obtain ⟨hcx, hb⟩ := kctx_new (kc := kc) h hs hl hK
  obtain ⟨W0, hW0⟩ : ∃ W0, W0 = (w.alloc (.cells #[.pointer (some ⟨p, 0, none⟩)] 31)).alloc (.cells #[.slice ko K.length kc] 25) := ⟨_, rfl⟩
  obtain ⟨B, hB⟩ : ∃ B, B = w.heap.size := ⟨_, rfl⟩
  rw [← hW0] at hcx hb
  have ht1 := hs.t1
  have HF := fits_tab ko K.length kc p N T W0 hcx.tab.s (by omega)
  rw [decide_eq_true hl] at HF
  have HF := Lib.hid HF
  have HT := triangles_any _ _ _ _ hcx.tab.s
  have HG := groups_ok (KAdj T K) T.length (by omega) (fun i => triN T K i 3) (triN_ok hs) (kadj_symm hs) 42 #[.pointer (some ⟨w.heap.size, 0, none⟩), .pointer (some ⟨w.heap.size + 1, 0, none⟩)] (enters_of Tryz.func42 (by kernel_rfl) rfl) W0 (fun x X hx hX => tri_next N T K p _ _ ko kc x hx X (hcx.mono (Nat.le_refl _) hX))
  have hxt := hcx.tc
  have hxk := hcx.kcl
  have HB := Lib.hid hb
  rw [← hB] at hxt hxk HG
  have HBB := Lib.hid hB
  obtain ⟨n, hn⟩ : ∃ n, n = T.length := ⟨_, rfl⟩
  have HN := Lib.hid hn
  have hn3 : n ≤ 8192 := by omega
  rw [← hn] at HT HG
  have HT := Lib.hid HT
  have HG := Lib.hid HG
  have hmf : ∀ (fn : Fn) (first cap : Array Value) (w : World), (Instr.makeFunc fn first cap).run Tryz.prog w = .ok (.func fn first cap) w := fun _ _ _ _ => rfl
  have hmm := @run_makeMap Tryz.prog
  obtain ⟨kn, hkn⟩ : ∃ n, n = K.length := ⟨_, rfl⟩
  rw [← hkn] at HF hxk hW0 ⊢
  clear h hs hl hK hcx hb ht1 hn hkn
  go_enter Tryz.func13, Tryz.ntmps13
  go_upto_region 1 with fail
  rw [← hW0, ← hB]
  clear hW0 hB
  go_wp2_with fail
  refine HF.out.mono ?_
  rintro e w1 ⟨rfl, rfl⟩
  go_wp2_with fail
  refine HT.out.mono ?_
  rintro e w1 ⟨rfl, rfl⟩
  go_wp2_with fail
  refine HG.out.mono ?_
  rintro e w2 ⟨L, rfl, hrow, hlst, hb2⟩
  have HROW := Lib.hid hrow
  have HLS := Lib.hid hlst
  have HB2 := Lib.hid hb2
  have HRP := Lib.hid (hlst.rep (by have := @kadj_in T K; rw [← HN.out] at this; exact this))
  clear hrow hlst hb2 HF HT HG hxt hxk
  go_wp2_with (at_make; refine wpList_make_full _ rfl _ _ _ rfl (w2.heap.size + 1) 3 i0 (.int .i64 0) 1 (by kernel_rfl) hi0 hz0 hz1 _ _ _ _ n rfl rfl rfl rfl (by rw [hz2]; omega) (by unfold maxLen; omega) (by simp) ?_)
  intro W3 hown hgr
  rw [madeCells_iv] at hown
  have hrw := RowIs.of_owns hown
  obtain ⟨mb, hmb⟩ : ∃ m, m = w2.heap.size := ⟨_, rfl⟩
  have hba : Below w2.heap.size w2 (w2.alloc (.map #[] 0)) := (Below.refl _ _).alloc (Nat.le_refl _) _
  have hb3 : Below w2.heap.size w2 W3 := hba.grown hgr (by simp) (fun q hq => by cases hq)
  have HB3 := Lib.hid hb3
  have hm3 : MapIs intFam W3 w2.heap.size 0 (numM L (fun _ => 0) 0) := by
    rw [numM_zero]
    exact (MapIs.made w2).same (hgr.block w2.heap.size (by simp) (by simp))
  rw [← hmb] at hrw hm3
  have HMB := Lib.hid hmb
  have HST := Lib.hid (show MapIs intFam W3 mb 0 (numM L (fun _ => 0) 0) ∧ RowIs W3 (mb + 1) 3 (iv (fun _ => 0) n) ∧ RowIs W3 W0.heap.size 3 (iv L n) ∧ Below W0.heap.size W0 W3 from ⟨hm3, hrw, HROW.out.after hb3, HB2.out.trans (hb3.mono HB2.out.size)⟩)
  have HLT := Lib.hid (show W0.heap.size < mb from by rw [hmb]; exact HROW.out.lt)
  have hlt3 := hrw.lt
  simp only [← hmb]
  clear hown hgr hrw hba hb3 hm3 HROW HB2 hmb
  go_wp2
  go_loopw [27] (fun v ws => ∃ (i c : Nat) (M : Nat → Int), i ≤ n ∧ v = .int .i64 i ∧ NInv (fun i => (L i).toNat) i c M ∧ MapIs intFam ws mb c (numM L M i) ∧ RowIs ws (mb + 1) 3 (iv M n) ∧ RowIs ws W0.heap.size 3 (iv L n) ∧ Below W0.heap.size W0 ws ∧ mb + 1 < ws.heap.size) (fun v _ => n - (intOf v).toNat)
  case atStart => exact ⟨0, 0, fun _ => 0, by omega, rfl, NInv.start _ _, HST.out.1, HST.out.2.1, HST.out.2.2.1, HST.out.2.2.2, hlt3⟩
  case round =>
  obtain ⟨i, c, M, hi, rfl, hni, hmp, hrw, hrl, hbl, hsz⟩ := hrel
  obtain ⟨X, rfl⟩ : ∃ X : World, X = wr := ⟨_, rfl⟩
  have HNI := Lib.hid hni
  have HMP := Lib.hid hmp
  have HRW := Lib.hid hrw
  have HRL := Lib.hid hrl
  have HBL := Lib.hid hbl
  clear HST HB3 hlt3
  by_cases hin : i < n
  case neg =>
    have hie : i = n := by omega
    have HP := Lib.hid (show OfP w T K (.returned (.tuple #[.slice (some ⟨mb + 1, 0, none⟩) n n, .int .i64 0])) X from ⟨mb + 1, M, by rw [HN.out], by have := HB.out.size; have := HLT.out; omega, by rw [← HN.out]; exact hrw, by rw [hie] at hni; rw [← HN.out]; exact hni.done HRP.out, below_more HB.out hbl HB.out.size⟩)
    clear hni hmp hrw hrl hbl
    go_wp2
    exact bodyPost_ret (v := .tuple #[.slice (some ⟨mb + 1, 0, none⟩) n n, .int .i64 0]) (by simp [results, Tryz.results13, go_sem]) rfl HP.out
  case pos =>
  have hcl := hrl.cell (iv_get L hin)
  have hfr := hrw.free i
  have h0 := HLS.out.nonneg i hin
  have h1 := HLS.out.le i hin
  obtain ⟨l, hl⟩ := Int.eq_ofNat_of_zero_le h0
  rw [hl] at hcl
  have hli : l ≤ i := by omega
  have hl64 : I64 (l : Int) := ⟨by omega, by omega⟩
  have hcn := hni.le
  have hlkA := hmp.look 73 3 (by kernel_rfl) (z := .int .i64 0) (fun _ => by kernel_rfl) (l : Int) hl64 true
  simp only [intFam] at hlkA
  by_cases hq : l = i
  case pos =>
    have hLi : L i = (i : Int) := by rw [hl, hq]
    rw [hq, numM_no] at hlkA
    obtain ⟨Y, hst, hmY, hgY⟩ := hmp.store 73 3 (by kernel_rfl) (i : Int) (by rw [← hq]; exact hl64) (.int .i64 (c : Int))
    rw [numM_no, numM_fresh hLi] at hmY
    have hmY : MapIs intFam Y mb (c + 1) (numM L (upd M i c) (i + 1)) := hmY
    have hlkB := hmY.look 73 3 (by kernel_rfl) (z := .int .i64 0) (fun _ => by kernel_rfl) (i : Int) (by rw [← hq]; exact hl64) false
    have hat : numM L (upd M i c) (i + 1) (i : Int) = some (.int .i64 (c : Int)) := by
      have := numM_at (M := upd M i c) (show i < i + 1 by omega) hLi
      rwa [show upd M i c i = c by simp [upd]] at this
    rw [hat] at hlkB
    simp only [intFam] at hlkB hst
    have hrwY : RowIs Y (mb + 1) 3 (iv M n) := (hgY.block _ hrw.lt (by intro e; simp at e)).trans hrw
    have hrlY : RowIs Y W0.heap.size 3 (iv L n) := (hgY.block _ hrl.lt (by have := HLT.out; intro e; simp at e; omega)).trans hrl
    have hblY : Below W0.heap.size W0 Y := hbl.grown hgY hbl.size (fun q hq => by cases hq; have := HLT.out; omega)
    have hfrY := hrwY.free i
    have hcY := hrwY.cell (iv_get M hin)
    have hset := hrwY.set i (.int .i64 (c : Int))
    rw [iv_set] at hset
    have hNI : NInv (fun i => (L i).toNat) (i + 1) (c + 1) (upd M i c) := hni.fresh HRP.out hin (by rw [hLi]; simp)
    have HF := Lib.hid (show MapIs intFam (Y.setCell ⟨mb + 1, i, none⟩ (.int .i64 (c : Int))) mb (c + 1) (numM L (upd M i c) (i + 1)) ∧ RowIs (Y.setCell ⟨mb + 1, i, none⟩ (.int .i64 (c : Int))) (mb + 1) 3 (iv (upd M i c) n) ∧ RowIs (Y.setCell ⟨mb + 1, i, none⟩ (.int .i64 (c : Int))) W0.heap.size 3 (iv L n) ∧ Below W0.heap.size W0 (Y.setCell ⟨mb + 1, i, none⟩ (.int .i64 (c : Int))) ∧ mb + 1 < (Y.setCell ⟨mb + 1, i, none⟩ (.int .i64 (c : Int))).heap.size from
      ⟨hmY.same ((grown_set Y (mb + 1) i (.int .i64 (c : Int))).block mb hmY.lt (by simp)), hset, hrlY.other (by show mb + 1 ≠ _; have := HLT.out; omega) _, hblY.setCell (by show W0.heap.size ≤ mb + 1; have := HLT.out; omega) _, by simp [World.setCell]; exact hrwY.lt⟩)
    have HNX := Lib.hid hNI
    have hi0 : (0 : Int) ≤ (i : Int) ∧ (i : Int) < (n : Int) := by omega
    rw [hq] at hcl
    clear hmp hrw hrl hbl hni hgY hmY hat hrwY hrlY hblY hset hNI h0 h1 hl hli hl64 hLi hfr
    clear hq
    go_wp2_with (at_len; refine wpList_len_mapis rfl _ 73 3 rfl (by kernel_rfl) rfl HMP.out ?_)
    go_roundw
    case rel => exact ⟨i + 1, c + 1, upd M i c, by omega, by go_num, HNX.out, HF.out.1, HF.out.2.1, HF.out.2.2.1, HF.out.2.2.2.1, HF.out.2.2.2.2⟩
    case measure => simp [intOf]; omega
  case neg =>
    have hlt : l < i := by omega
    have hLl : L l = (l : Int) := by
      have := HRP.out.eq l i (by omega) hin (by have := HLS.out.con i hin; rw [hl, Int.toNat_natCast] at this; exact this)
      have h2 := HLS.out.nonneg l (by omega)
      have h3 : (L l).toNat = (L i).toNat := this
      rw [hl, Int.toNat_natCast] at h3
      omega
    have hMl := hni.rng l hlt
    obtain ⟨v, hv⟩ : ∃ v, v = M l := ⟨_, rfl⟩
    rw [numM_at hlt hLl, ← hv] at hlkA
    have hlkB := hmp.look 73 3 (by kernel_rfl) (z := .int .i64 0) (fun _ => by kernel_rfl) (l : Int) hl64 false
    rw [numM_at hlt hLl, ← hv] at hlkB
    simp only [intFam] at hlkB
    have hcX := hrw.cell (iv_get M hin)
    have hset := hrw.set i (.int .i64 v)
    rw [iv_set] at hset
    have hLi : L i ≠ i := by rw [hl]; omega
    have hNI : NInv (fun i => (L i).toNat) (i + 1) c (upd M i v) := by
      have := (hni.same HRP.out hin (by show (L i).toNat ≠ i; rw [hl, Int.toNat_natCast]; omega)).2
      simp only [hl, Int.toNat_natCast] at this
      rwa [← hv] at this
    have HF := Lib.hid (show MapIs intFam (X.setCell ⟨mb + 1, i, none⟩ (.int .i64 v)) mb c (numM L (upd M i v) (i + 1)) ∧ RowIs (X.setCell ⟨mb + 1, i, none⟩ (.int .i64 v)) (mb + 1) 3 (iv (upd M i v) n) ∧ RowIs (X.setCell ⟨mb + 1, i, none⟩ (.int .i64 v)) W0.heap.size 3 (iv L n) ∧ Below W0.heap.size W0 (X.setCell ⟨mb + 1, i, none⟩ (.int .i64 v)) ∧ mb + 1 < (X.setCell ⟨mb + 1, i, none⟩ (.int .i64 v)).heap.size from
      ⟨by rw [numM_same hLi]; exact hmp.same ((grown_set X (mb + 1) i (.int .i64 v)).block mb hmp.lt (by simp)), hset, hrl.other (by show mb + 1 ≠ _; have := HLT.out; omega) _, hbl.setCell (by show W0.heap.size ≤ mb + 1; have := HLT.out; omega) _, by simp [World.setCell]; exact hsz⟩)
    have HNX := Lib.hid hNI
    have hi0 : (0 : Int) ≤ (i : Int) ∧ (i : Int) < (n : Int) := by omega
    have hv64 : 0 ≤ v ∧ v ≤ 10000 := by omega
    clear hmp hrw hrl hbl hni hset hNI h0 h1 hl hli hl64 hLi hLl hMl hv hq
    go_wp2
    go_roundw
    case rel => exact ⟨i + 1, c, upd M i v, by omega, by go_num, HNX.out, HF.out.1, HF.out.2.1, HF.out.2.2.1, HF.out.2.2.2.1, HF.out.2.2.2.2⟩
    case measure => simp [intOf]; omega
end Go.Proofs.YtfbpjlfimmjieaaGreat

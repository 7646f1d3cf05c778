/- rim.Cut: the walk, where all fits. -/
import Derived.Test.YtfbpjlfimmjieaaGreatCutSpec
import Derived.StillTailTactics
import Derived.BigRegion
import Derived.Deep.RegionHeldLaw
namespace Go.Proofs.YtfbpjlfimmjieaaGreat
set_option linter.unusedVariables false
set_option linter.unusedSimpArgs false
open Go.RowKit Go.Lib
theorem infoPt : (Tryz.prog.info? 108).map (fun i => (i.zero, i.size, i.bytes)) = some (some (.agg #[.int .i64 0, .int .i64 0, .int .i64 0]), 3, 24) := by kernel_rfl
theorem wrapN (n : Nat) (h : n ≤ 100000) : IntKind.i64.wrap (n : Int) = (n : Int) := by simp [IntKind.wrap, IntKind.bits, IntKind.signed]; omega
theorem take_snoc {α : Type} {F : List α} {k : Nat} {c : α} (h : F[k]? = some c) : F.take (k + 1) = F.take k ++ [c] := by rw [List.take_add_one, h]; rfl
set_option maxRecDepth 100000 in
set_option maxHeartbeats 8000000 in
theorem cut_ok (n : Nat) (ao : Option Addr) (cap : Nat) (T : List Tr) (po : Option Addr) (pcap : Nat) (P : List Tr) (ko : Option Addr) (kcap : Nat) (K : List Int) (bo : Option Addr) (bcap : Nat) (bays : List Int) (bay : Int) (w : World)
    (hT : TrisAt w ao T) (hP : TrisAt w po P) (hK : IntsAt w ko K) (hB : IntsAt w bo bays) (hs : Surf n T) (hok : BaysOK T.length bays) (hPl : P.length = n) (hKl : K.length = 0 ∨ K.length = 3 * T.length) (hKc : K.length ≤ kcap) :
    Calls Tryz.prog 37 #[.agg #[.int .i64 (n : Int), .slice ao T.length cap, .slice po P.length pcap, .slice ko K.length kcap], .slice bo bays.length bcap, .int .i64 bay] w (CutPost n T P K bays bay w) := by
  obtain ⟨W0, hW0⟩ : ∃ W0, W0 = (w.alloc (.cells #[.int .i64 (n : Int), .slice ao T.length cap, .slice po P.length pcap, .slice ko K.length kcap] 61)).alloc (.cells #[.int .i64 0, .slice none 0 0, .slice none 0 0, .slice none 0 0, .slice none 0 0, .slice none 0 0] 63) := ⟨_, rfl⟩
  have hb0 : Below w.heap.size w W0 := by rw [hW0]; exact ((Below.refl _ _).alloc (Nat.le_refl _) _).alloc (by simp) _
  have hs0 : W0.heap.size = w.heap.size + 2 := by rw [hW0]; simp
  have hr0 : RowIs W0 w.heap.size 61 [.int .i64 (n : Int), .slice ao T.length cap, .slice po P.length pcap, .slice ko K.length kcap] := by rw [hW0]; exact (RowIs.made w 61 [.int .i64 (n : Int), .slice ao T.length cap, .slice po P.length pcap, .slice ko K.length kcap]).alloc _
  have hz0' : RowIs W0 (w.heap.size + 1) 63 zeroLocal.toList := by rw [hW0]; exact RowIs.made' _ _ zeroLocal.toList _ (by simp)
  have hbl : bays.length ≤ 100000 := by have := hok.1; have := hs.t1; omega
  have HTAB := Lib.hid (table_ok n ao cap T bo bcap bays W0 (hT.mono (Nat.le_refl _) hb0) (hB.mono (Nat.le_refl _) hb0) hs hbl)
  have HCON := Lib.hid (fun (X : World) (h : IntsAt X bo bays) => contains_any bo bcap bays bay X h hbl)
  have HT := Lib.hid (hT.mono (Nat.le_refl _) hb0)
  have HP := Lib.hid (hP.mono (Nat.le_refl _) hb0)
  have HKI := Lib.hid (hK.mono (Nat.le_refl _) hb0)
  have HBY := Lib.hid (hB.mono (Nat.le_refl _) hb0)
  have HS := Lib.hid hs
  have HOK := Lib.hid hok
  have HB0 := Lib.hid hb0
  have HSZ0 := Lib.hid hs0
  have HR0 := Lib.hid hr0
  have HZ0 := Lib.hid hz0'
  obtain ⟨len, hlen⟩ : ∃ l, l = T.length := ⟨_, rfl⟩
  obtain ⟨kl, hkl⟩ : ∃ l, l = K.length := ⟨_, rfl⟩
  obtain ⟨bl, hbl'⟩ : ∃ l, l = bays.length := ⟨_, rfl⟩
  have hl : len ≤ 8192 := by rw [hlen]; exact hs.t1
  have hn : n ≤ 4096 := by have := hs.n1; omega
  have hklb : kl = 0 ∨ kl = 3 * len := by rw [hkl, hlen]; exact hKl
  have hblen : bl = len := by rw [hbl', hlen]; exact hok.1
  rw [hPl]
  rw [hPl] at hW0 HR0
  rw [← hlen] at hW0 HTAB HR0 ⊢
  rw [← hkl] at hW0 HR0 ⊢
  rw [← hbl'] at HTAB HCON ⊢
  subst hblen
  have HL := Lib.hid hlen
  have HBL := Lib.hid hbl'
  have HPL := Lib.hid hPl
  have HKL := Lib.hid hkl
  have HKLB := Lib.hid hklb
  have HKC := Lib.hid (show kl ≤ kcap from by rw [hkl]; exact hKc)
  have HW0 := Lib.hid hW0
  have HLB := Lib.hid hl
  clear hW0 hb0 hs0 hr0 hz0' hbl hT hP hK hB hs hok hPl hKl hKc hlen hkl hbl' hklb
  go_enter Tryz.func37, Tryz.ntmps37
  go_upto_region 1 with fail
  rw [show (w.alloc (.cells #[.int .i64 (n : Int), .slice ao bl cap, .slice po n pcap, .slice ko kl kcap] 61)).alloc (.cells #[.int .i64 0, .slice none 0 0, .slice none 0 0, .slice none 0 0, .slice none 0 0, .slice none 0 0] 63) = W0 from HW0.out.symm]
  have c0 := HR0.out.cell (i := 0) rfl
  have c1 := HR0.out.cell (i := 1) rfl
  go_wp2_with fail
  refine HTAB.out.mono ?_
  rintro e w1 ⟨hcase, hb1⟩
  obtain ⟨p, rfl, hp, htab⟩ := (hcase.resolve_right (fun h => h.1 HOK.out)).2
  have hsz1 := hb1.size
  obtain ⟨W2, hW2⟩ : ∃ W2, W2 = w1.alloc (.cells #[.pointer (some ⟨p, 0, none⟩)] 31) := ⟨_, rfl⟩
  have hb12 : Below w1.heap.size w1 W2 := by rw [hW2]; exact (Below.refl _ _).alloc (Nat.le_refl _) _
  have HBX2 := Lib.hid (show Below W0.heap.size W0 W2 from below_more hb1 hb12 hsz1)
  have HTBX := Lib.hid (show RowIs W2 w1.heap.size 31 [.pointer (some ⟨p, 0, none⟩)] from by rw [hW2]; exact RowIs.made w1 31 [.pointer (some ⟨p, 0, none⟩)])
  have HTAB2 := Lib.hid (htab.mono (Nat.le_refl _) hb12)
  have HW2 := Lib.hid hW2
  have HHP := Lib.hid hp
  obtain ⟨tb, htb⟩ : ∃ tb, tb = w1.heap.size := ⟨_, rfl⟩
  have HTBE := Lib.hid htb
  clear hcase hb1 hp htab hb12 hW2 c0 c1 htb
  have hsz2 := HBX2.out.size
  have hs0 := HSZ0.out
  have hr2 := HR0.out.below HBX2.out HR0.out.lt
  have c0 := hr2.cell (i := 0) rfl
  have c1 := hr2.cell (i := 1) rfl
  have c2 := hr2.cell (i := 2) rfl
  have c3 := hr2.cell (i := 3) rfl
  have HSZ2 := Lib.hid (show w.heap.size + 2 ≤ W2.heap.size from by omega)
  clear hr2 hs0 hsz2 hsz1
  go_upto_region 4 with fail
  rw [← HW2.out]
  go_cut [33] (fun s33 wc => s33 = .bool false ∧ wc = W2)
  case first =>
    have hk := HKLB.out
    by_cases k0 : kl = 0
    · have d0 : ((kl : Int) != 0) = false := by simp [k0]
      have d1 : (kl != 0) = false := by simp [k0]
      clear k0 hk
      go_wp2
      go_meet
      exact ⟨rfl, rfl⟩
    · have d0 : ((kl : Int) != 0) = true := by simp; omega
      have d1 : (kl != 0) = true := by simpa using k0
      have d2 : (3 : Int) * (bl : Int) = (kl : Int) := by omega
      clear k0 hk
      go_wp2
      go_meet
      exact ⟨rfl, rfl⟩
  case rest =>
  obtain ⟨rfl, hwc⟩ := hcut
  rw [hwc]
  clear hwc c0 c1 c2 c3
  have HCN := Lib.hid (HCON.out W2 (HBY.out.mono (Nat.le_refl _) HBX2.out))
  cases hcb : bays.contains bay
  · rw [hcb] at HCN
    have HNB := Lib.hid (show bay ∉ bays from by simpa using hcb)
    have hz2 := HZ0.out.below HBX2.out HZ0.out.lt
    have hz0 := hz2.cell (i := 0) rfl
    have hz1 := hz2.cell (i := 1) rfl
    have hz2' := hz2.cell (i := 2) rfl
    have hz3 := hz2.cell (i := 3) rfl
    have hz4 := hz2.cell (i := 4) rfl
    have hz5 := hz2.cell (i := 5) rfl
    have hf := fun i => hz2.free i
    clear hcb
    go_wp2_with fail
    refine HCN.out.mono ?_
    rintro e w3 ⟨rfl, rfl⟩
    go_wp2
    have HF := Lib.hid HNB.out
    have HRZ := Lib.hid ((((((hz2.set 0 (.int .i64 0)).set 1 (.slice none 0 0)).set 2 (.slice none 0 0)).set 3 (.slice none 0 0)).set 4 (.slice none 0 0)).set 5 (.slice none 0 0))
    have HBF := Lib.hid (((((((below_more HB0.out HBX2.out HB0.out.size).setCell (p := ⟨w.heap.size + 1, 0, none⟩) (by show _ ≤ w.heap.size + 1; omega) (.int .i64 0)).setCell (p := ⟨w.heap.size + 1, 1, none⟩) (by show _ ≤ w.heap.size + 1; omega) (.slice none 0 0)).setCell (p := ⟨w.heap.size + 1, 2, none⟩) (by show _ ≤ w.heap.size + 1; omega) (.slice none 0 0)).setCell (p := ⟨w.heap.size + 1, 3, none⟩) (by show _ ≤ w.heap.size + 1; omega) (.slice none 0 0)).setCell (p := ⟨w.heap.size + 1, 4, none⟩) (by show _ ≤ w.heap.size + 1; omega) (.slice none 0 0)).setCell (p := ⟨w.heap.size + 1, 5, none⟩) (by show _ ≤ w.heap.size + 1; omega) (.slice none 0 0))
    have y0 := HRZ.out.cell (i := 0) rfl
    have y1 := HRZ.out.cell (i := 1) rfl
    have y2 := HRZ.out.cell (i := 2) rfl
    have y3 := HRZ.out.cell (i := 3) rfl
    have y4 := HRZ.out.cell (i := 4) rfl
    have y5 := HRZ.out.cell (i := 5) rfl
    exact bodyPost_ret (v := .tuple #[.agg zeroLocal, .int .i64 8]) (by simp [results, Tryz.results37, go_sem, y0, y1, y2, y3, y4, y5, zeroLocal]) rfl ⟨.inl ⟨HF.out, rfl⟩, HBF.out⟩
  · rw [hcb] at HCN
    have HIN := Lib.hid (show bay ∈ bays from by simpa using hcb)
    have HSD := Lib.hid (sides_ok W2 p n T bo bcap bays HTAB2.out HS.out (HBY.out.mono (Nat.le_refl _) HBX2.out) HOK.out)
    rw [← HBL.out] at HSD
    have htc := HTBX.out.cell (i := 0) rfl
    clear hcb
    go_wp2_with fail
    refine HCN.out.mono ?_
    rintro e W2 ⟨rfl, rfl⟩
    go_wp2_with fail
    refine HSD.out.mono ?_
    rintro e w3 ⟨n3, L, hn3, rfl, hrs, hleast, hb23⟩
    have HN3 := Lib.hid hn3
    have HRS := Lib.hid hrs
    have HLE := Lib.hid hleast
    have HB23 := Lib.hid hb23
    have hn3b : n3 ≤ 24576 := by have := HL.out; omega
    have hn3d : ∀ k, k < n3 → k / 3 < bl := fun k hk => by have := HL.out; omega
    have HD3 := Lib.hid hn3d
    have hsz23 := hb23.size
    obtain ⟨W3, rfl⟩ : ∃ W3 : World, W3 = w3 := ⟨_, rfl⟩
    obtain ⟨i0, hi, hz0, hz1, hz2⟩ := info_parts info3
    clear hn3 hrs hleast hb23 hn3d htc
    go_wp2
    go_loopw [74, 11] (fun c u ws => ∃ k : Nat, k ≤ n3 ∧ c = .int .i64 k ∧ ws.ownsRow W3.heap.size 3 1 u (reps bays bay L k).length (nv (reps bays bay L k)) ∧ Below W3.heap.size W3 ws) (fun c _ _ => n3 - (intOf c).toNat)
    case atStart => exact ⟨0, by omega, rfl, by exact World.ownsRow_nil _ _ _ _, Below.refl _ _⟩
    case round =>
      obtain ⟨k, hk, rfl, hown, hb⟩ := hrel
      have hle := reps_le bays bay L k
      by_cases hkn : k < n3
      · have hcl := (HRS.out.below hb HRS.out.lt).cell (iv_get L hkn)
        obtain ⟨lk, hlk⟩ : ∃ l, Hid (L k = l) := ⟨_, rfl⟩
        rw [hlk.out] at hcl
        obtain ⟨k3, hk3⟩ : ∃ q, q = k / 3 := ⟨_, rfl⟩
        have s3 : (k : Int) / 3 = (k3 : Int) := by omega
        have hk3b : k3 < bl := by rw [hk3]; exact HD3.out k hkn
        obtain ⟨bb, boff, q, hE, hq, hcq, -, -⟩ := HBY.out.get (Nat.le_refl _) (below_more (below_more HBX2.out HB23.out (by have := HBX2.out.size; omega)) hb (by have := HBX2.out.size; have := HB23.out.size; omega)) (i := k3) (by rw [← HBL.out]; exact hk3b)
        subst hE
        have HE := Lib.hid (show reps bays bay L (k + 1) = if q = bay ∧ lk = k then reps bays bay L k ++ [k] else reps bays bay L k from by
          rw [reps_succ, ← hk3, hq.out, hlk.out])
        have HW := Lib.hid hown
        have HB5 := Lib.hid hb
        have hs5 := hb.size
        clear hown hb hk3 hq hlk
        cases e1 : q == bay
        · have HE2 := Lib.hid (show reps bays bay L (k + 1) = reps bays bay L k from by rw [HE.out, if_neg (fun h => by simp [h.1] at e1)])
          go_wp2
          go_roundw
          case rel => exact ⟨k + 1, by omega, by go_num, by rw [HE2.out]; exact HW.out, HB5.out⟩
          case measure => simp [intOf]; omega
        · cases e2 : lk == (k : Int)
          · have HE2 := Lib.hid (show reps bays bay L (k + 1) = reps bays bay L k from by rw [HE.out, if_neg (fun h => by simp [h.2] at e2)])
            go_wp2
            go_roundw
            case rel => exact ⟨k + 1, by omega, by go_num, by rw [HE2.out]; exact HW.out, HB5.out⟩
            case measure => simp [intOf]; omega
          · have HE2 := Lib.hid (show reps bays bay L (k + 1) = reps bays bay L k ++ [k] from by rw [HE.out, if_pos ⟨by simpa using e1, by simpa using e2⟩])
            go_wp2_with (at_builtin; refine wpList_append_new _ rfl _ _ 25 rfl W3.heap.size 3 i0 _ 1 8 (by kernel_rfl) hi hz0 hz1 hz2 rfl (by decide) _ _ _ rfl HW.out _ _ _ rfl (by first | rfl | simp) rfl ?_ ?_ ?_ ?_ ?_)
            all_goals first | rfl | omega | (unfold maxLen; omega) | skip
            · intro v' w5 hown5 hbel hgr
              have HW5 := Lib.hid hown5
              have HB6 := Lib.hid (hbel W3.heap.size _ (Nat.le_refl _) HB5.out)
              clear hown5 hbel hgr
              go_wp2
              go_roundw
              case rel => exact ⟨k + 1, by omega, by go_num, by
                rw [HE2.out, nv_snoc, List.length_append]
                exact HW5.out, HB6.out⟩
              case measure => simp [intOf]; omega
      · obtain rfl : k = n3 := by omega
        have hne : 0 < (reps bays bay L k).length := by
          obtain ⟨t, ht1, ht2⟩ := List.mem_iff_getElem.1 HIN.out
          have htb : t < T.length := by rw [← HOK.out.1]; exact ht1
          have h3 : 3 * t < 3 * T.length := by omega
          have hA : ∀ i j, SAdj T (I! bays) i j → i < 3 * T.length ∧ j < 3 * T.length := fun i j h => ⟨h.1, h.2.1⟩
          have hle' : IsLeast (SAdj T (I! bays)) (3 * T.length) L := by rw [← HN3.out]; exact HLE.out
          have htop := hle'.top hA h3
          have hcn := hle'.con (3 * t) h3
          have hbay := side_bay hcn
          refine List.length_pos_of_mem (a := (L (3 * t)).toNat) (reps_mem.2 ⟨by rw [HN3.out]; exact htop.1, ?_, ?_⟩)
          · rw [← hbay, show 3 * t / 3 = t by omega]
            unfold I!
            rw [List.getD_eq_getElem?_getD, List.getElem?_eq_getElem ht1, ht2]; rfl
          · have h0 := hle'.nonneg _ h3
            rw [htop.2]; omega
        obtain ⟨F0, hF0⟩ : ∃ F0, F0 = reps bays bay L k := ⟨_, rfl⟩
        rw [← hF0] at hown hne hle
        obtain ⟨gf, capf, rfl, hbg, hgl, -, -, -, -⟩ := owns_block hown hne
        have HF0 := Lib.hid hF0
        have HB5 := Lib.hid hb
        have hs5 := hb.size
        have HT3 := Lib.hid (HTAB2.out.s.mono (Nat.le_refl _) HB23.out)
        have hrt3 := HTBX.out.below HB23.out HTBX.out.lt
        have HSO := Lib.hid (sort_first W3 wr W3.heap.size w1.heap.size p gf capf n T F0 (by rw [← HL.out]; omega) (by omega) HT3.out hrt3.lt (hrt3.cell rfl) (Nat.le_refl _) hb hown)
        have HBG := Lib.hid hbg
        have HNE := Lib.hid hne
        clear hown hb hrt3 hF0 hbg hgl hne
        go_wp2_with fail
        refine HSO.out.mono ?_
        rintro e w5 ⟨rfl, F, hperm, hsort, hFI, hgr, -, -⟩
        obtain ⟨W5, rfl⟩ : ∃ W5 : World, W5 = w5 := ⟨_, rfl⟩
        have hb35 : Below W3.heap.size W3 W5 := HB5.out.grown hgr hs5 (fun q hq => by cases hq; exact HBG.out)
        have hs35 := hb35.size
        have hb25 : Below W2.heap.size W2 W5 := below_more HB23.out hb35 HB23.out.size
        have hb05 : Below W0.heap.size W0 W5 := below_more HBX2.out hb25 HBX2.out.size
        have hlF : F.length = F0.length := hperm.length_eq
        have HCI := Lib.hid (show CutIs T bays bay L F from ⟨by rw [← HN3.out]; exact HLE.out, by rw [← HN3.out, ← HF0.out]; exact hperm, hsort⟩)
        have HFM := Lib.hid (show ∀ c, c ∈ F → c < 3 * T.length ∧ I! bays (c / 3) = bay ∧ L c = c from fun c hc => by
          have := hperm.mem_iff.1 hc
          rw [HF0.out, HN3.out] at this
          exact reps_mem.1 this)
        have HFN := Lib.hid (show F.Nodup from hperm.nodup_iff.2 (by rw [HF0.out]; exact List.Pairwise.filter _ List.nodup_range))
        have HALL := Lib.hid (show ∀ X, Below W5.heap.size W5 X → RowIs X w.heap.size 61 [.int .i64 (n : Int), .slice ao bl cap, .slice po n pcap, .slice ko kl kcap] ∧ TabS X p n T ∧ X.cell? ⟨w1.heap.size, 0, none⟩ = some (.pointer (some ⟨p, 0, none⟩)) ∧ IntsAt X bo bays ∧ TrisAt X po P ∧ IntsAt X ko K ∧ IntsAt X (some ⟨gf, 0, none⟩) (nl F) ∧ RowIs X W2.heap.size 3 (iv L k) ∧ TrisAt X ao T ∧ Below w.heap.size w X from fun X hX => by
          have h0X := below_more hb05 hX hb05.size
          have h2X := below_more hb25 hX hb25.size
          have h3X := below_more hb35 hX hs35
          exact ⟨HR0.out.below h0X HR0.out.lt, HTAB2.out.s.mono (Nat.le_refl _) h2X, (HTBX.out.below h2X HTBX.out.lt).cell rfl, HBY.out.mono (Nat.le_refl _) h0X, HP.out.mono (Nat.le_refl _) h0X, HKI.out.mono (Nat.le_refl _) h0X, hFI.mono (Nat.le_refl _) hX, HRS.out.below h3X HRS.out.lt, HT.out.mono (Nat.le_refl _) h0X, below_more HB0.out h0X HB0.out.size⟩)
        have HR1Z := Lib.hid (show ∀ X, Below W5.heap.size W5 X → RowIs X (w.heap.size + 1) 63 zeroLocal.toList from fun X hX => HZ0.out.below (below_more hb05 hX hb05.size) HZ0.out.lt)
        have HSZWB := Lib.hid (show w.heap.size + 1 < W5.heap.size from by have h1 := HSZ2.out; have h3 := hb25.size; omega)
        have HSZW := Lib.hid (show w.heap.size < W5.heap.size ∧ w1.heap.size < W5.heap.size from by
          have h1 := HTBX.out.lt
          have h2 := HSZ2.out
          have h3 := hb25.size
          omega)
        have HSZ25 := Lib.hid (show W2.heap.size < W5.heap.size from by have := HRS.out.lt; omega)
        rw [← hlF] at hle ⊢
        obtain ⟨fl, hfl⟩ : ∃ fl, fl = F.length := ⟨_, rfl⟩
        have HFL := Lib.hid hfl
        rw [← hfl] at hle ⊢
        clear hfl hlF hperm hsort hFI hgr hb35 hs35 hb25 hb05 HF0 HBG HNE HB5 HSO HT3
        obtain ⟨W6, hW6⟩ : ∃ W6, W6 = W5.alloc (.cells #[.int .i64 0, .slice none 0 0, .slice none 0 0, .slice none 0 0, .slice none 0 0, .slice none 0 0] 63) := ⟨_, rfl⟩
        have hb56 : Below W5.heap.size W5 W6 := by rw [hW6]; exact (Below.refl _ _).alloc (Nat.le_refl _) _
        have hs56 : W6.heap.size = W5.heap.size + 1 := by rw [hW6]; simp
        have HRO := Lib.hid (show RowIs W6 W5.heap.size 63 zeroLocal.toList from by rw [hW6]; exact RowIs.made W5 63 zeroLocal.toList)
        obtain ⟨hr6, -, -, hby6, -, -, -, -, ht6, -⟩ := HALL.out W6 hb56
        have HRM := Lib.hid (rims_ok n ao cap T bo bcap bays W6 ht6 hby6 HS.out HOK.out)
        rw [← HL.out, ← HBL.out] at HRM
        have HW6 := Lib.hid hW6
        have HB56 := Lib.hid hb56
        have HS56 := Lib.hid hs56
        have c0 := hr6.cell (i := 0) rfl
        have c1 := hr6.cell (i := 1) rfl
        clear hW6 hb56 hs56 hr6 hby6 ht6
        go_upto_region 18 with fail
        rw [← HW6.out]
        go_wp2_with fail
        refine HRM.out.mono ?_
        rintro e w7 ⟨v7, rfl, hown7, hb67⟩
        obtain ⟨W7, rfl⟩ : ∃ W7 : World, W7 = w7 := ⟨_, rfl⟩
        obtain ⟨W8, hW8⟩ : ∃ W8, W8 = W7.alloc (.map #[] 0) := ⟨_, rfl⟩
        have hs78 : W8.heap.size = W7.heap.size + 1 := by rw [hW8]; simp
        have hb78 : Below W7.heap.size W7 W8 := by rw [hW8]; exact (Below.refl _ _).alloc (Nat.le_refl _) _
        have hs56 := HS56.out
        have hs67 := hb67.size
        have HST := Lib.hid (show CSt W8 W8 W5.heap.size W7.heap.size W8.heap.size 63 [.int .i64 0, .slice none 0 0, .slice none 0 0, .slice none 0 0, .slice none 0 0, .slice none 0 0] 0 (numC F 0) [⟨108, 3, .slice none 0 0, 0, tcells (cutP P T (F.take 0))⟩, ⟨3, 1, .slice none 0 0, 0, ic (cutV T (F.take 0))⟩, ⟨3, 1, .slice none 0 0, 0, ic (cutR T bays n (F.take 0))⟩] from by
          refine ⟨(HRO.out.below hb67 HRO.out.lt).below hb78 (by omega), ?_, ⟨?_, ?_⟩, Below.refl _ _, fun _ _ _ _ => rfl, by omega, by omega, Nat.le_refl _⟩
          · rw [numC_zero, hW8]
            exact MapIs.made W7
          · intro r hr
            simp only [List.mem_cons, List.not_mem_nil, or_false] at hr
            rcases hr with rfl | rfl | rfl <;> exact World.ownsRow_nil _ _ _ _
          · simp [Apart, Value.ownBlock])
        have HB58 := Lib.hid (show Below W5.heap.size W5 W8 from below_more HB56.out (hb67.trans (hb78.mono (by omega))) (by omega))
        have HO7 := Lib.hid (owns_below hown7 hb78)
        obtain ⟨a7, c7, rfl⟩ := owns_slice hown7
        have HO7L := Lib.hid (show ∀ q, (Value.slice a7 (rimL T bays n).length c7).ownBlock = some q → q < W8.heap.size ∧ q ≠ W5.heap.size ∧ q ≠ W7.heap.size from fun q hq => by
          have := hown7.lt q hq
          omega)
        have HRN := Lib.hid (rimL_le T bays n)
        obtain ⟨m, hm⟩ : ∃ m, m = W7.heap.size := ⟨_, rfl⟩
        obtain ⟨ob, hob⟩ : ∃ ob, ob = W5.heap.size := ⟨_, rfl⟩
        have HW8 := Lib.hid hW8
        clear hown7 hb67 hW8 hs78 hb78 hs56 hs67 c0 c1 HRM HRO HS56 HB56 HW6
        have hmm := @run_makeMap Tryz.prog
        go_upto_region 20 with fail
        rw [← HW8.out]
        clear hmm
        go_wp2
        go_loopw [106] (fun c ws => ∃ (k : Nat) (vP vV vR : Value), k ≤ fl ∧ c = .int .i64 k ∧ CSt W8 ws W5.heap.size W7.heap.size W8.heap.size 63 [.int .i64 0, .slice none 0 0, vP, .slice none 0 0, vV, vR] k (numC F k) [⟨108, 3, vP, k, tcells (cutP P T (F.take k))⟩, ⟨3, 1, vV, k, ic (cutV T (F.take k))⟩, ⟨3, 1, vR, k, ic (cutR T bays n (F.take k))⟩]) (fun c _ => fl - (intOf c).toNat)
        case atStart => exact ⟨0, _, _, _, by omega, rfl, HST.out⟩
        case round =>
          clear HST
          obtain ⟨j, vP, vV, vR, hj, rfl, hst⟩ := hrel
          obtain ⟨X, rfl⟩ : ∃ X : World, X = wr := ⟨_, rfl⟩
          by_cases hjf : j < fl
          · obtain ⟨c, hc⟩ : ∃ c, F[j]? = some c := ⟨_, List.getElem?_eq_getElem (by rw [← HFL.out]; exact hjf)⟩
            have HC := Lib.hid hc
            obtain ⟨hc3, hcb, hcl⟩ := HFM.out c (List.mem_of_getElem? hc)
            have hvt : vtx T c = vt T (c : Int) := by unfold vtx; rw [if_pos hc3]
            have hvin := HS.out.vin.vt (c := (c : Int)) (by omega) (by omega)
            obtain ⟨v, hv⟩ := Int.eq_ofNat_of_zero_le hvin.1
            have HV := Lib.hid (show vtx T c = (v : Int) from hvt.trans hv)
            have hvn : v < n := by omega
            have HCB := Lib.hid hc3
            have hc64 : I64 (c : Int) := ⟨by have := HL.out; omega, by have := HL.out; omega⟩
            have hX5 : Below W5.heap.size W5 X := HB58.out.trans hst.low
            obtain ⟨hr6, hts, htbc, hby6, hP6, hK6, hF6, hS6, ht6, -⟩ := HALL.out X hX5
            obtain ⟨fb, foff, fx, hE, hfx, hcf, -, -⟩ := hF6.get (Nat.le_refl _) (Below.refl _ _) (i := j) (by rw [nl_length, ← HFL.out]; exact hjf)
            cases hE
            rw [nl_get hc] at hfx
            rw [Nat.zero_add] at hcf
            obtain rfl : (c : Int) = fx := hfx.out
            have HVX := Lib.hid (vertexN c X p n T (by rw [← HL.out]; omega) hts)
            rw [HV.out] at HVX
            have hCno : numC F j (c : Int) = none := by
              unfold numC
              rw [if_neg]
              rintro ⟨-, hm⟩
              simp only [Int.toNat_natCast] at hm
              obtain ⟨i, hi2⟩ := List.mem_iff_getElem?.1 hm
              rw [List.getElem?_take] at hi2
              split at hi2
              · have h1 := (List.getElem?_eq_some_iff.1 hi2)
                have h2 := (List.getElem?_eq_some_iff.1 hc)
                have a := HFN.out.idxOf_getElem i h1.1
                have b := HFN.out.idxOf_getElem j h2.1
                rw [h1.2] at a
                rw [h2.2] at b
                omega
              · cases hi2
            obtain ⟨X2, hst2, hm2, hg2⟩ := hst.map.store 73 3 (by kernel_rfl) (c : Int) hc64 (.int .i64 (j : Int))
            rw [hCno, numC_step HFN.out hc] at hm2
            simp only [Option.isSome_none, Bool.false_eq_true, if_false] at hm2
            simp only [intFam] at hst2
            have HST2 := Lib.hid (hst.mapped hm2 hg2)
            have HX5 := Lib.hid hX5
            clear hc hvt hvin hv hr6 hts hby6 hP6 hK6 hF6 hS6 ht6 hfx hCno hm2 hg2 hst hcb hcl hX5
            go_wp2_with fail
            refine HVX.out.mono ?_
            rintro e X' ⟨rfl, rfl⟩
            clear htbc hcf
            go_upto_region 25 with fail
            have hrl := hj
            have hrow2 := HST2.out.row
            have d4 := hrow2.cell (i := 4) (v := vV) rfl
            have HOV := Lib.hid (HST2.out.rows.own ⟨3, 1, vV, j, ic (cutV T (F.take j))⟩ (by simp))
            have hmx2 := HST2.out.mx
            clear hrow2 hst2
            go_wp2_with (at_builtin; refine wpList_append_lies _ rfl _ _ 25 rfl W8.heap.size 3 i0 (.int .i64 0) 1 8 (by kernel_rfl) hi hz0 hz1 hz2 rfl (by decide) vV j (ic (cutV T (F.take j))) rfl (HOV.out.alloc _) ⟨X2.heap.size, 0, none⟩ 1 1 [.int .i64 (v : Int)] rfl rfl (World.news_of_block (heap_alloc_new X2 _)) (by intro u hu; simp at hu; subst hu; rfl) (by decide) (by unfold maxLen; omega) (by omega) (by simp; omega) _ rfl ?_)
            intro g1 cap1 X3 hown3 hgr3 hat3 hlt3
            have hst3 := (HST2.out.alloc (.cells #[.int .i64 (v : Int)] 3)).push 1 ⟨3, 1, vV, j, ic (cutV T (F.take j))⟩ rfl hown3 hgr3 (hat3.imp id fun e => by simp; omega)
            have e4 := hst3.row.cell (i := 4) (v := vV) rfl
            have f4 := hst3.row.free 4
            obtain ⟨v1, hv1⟩ : ∃ v1, v1 = Value.slice (some ⟨g1, 0, none⟩) (j + 1) cap1 := ⟨_, rfl⟩
            obtain ⟨X4, hX4⟩ : ∃ X4, X4 = X3.setCell ⟨W5.heap.size, 4, none⟩ (.slice (some ⟨g1, 0, none⟩) (j + 1) cap1) := ⟨_, rfl⟩
            have hst4 : CSt W8 X4 W5.heap.size W7.heap.size W8.heap.size 63 [.int .i64 0, .slice none 0 0, vP, .slice none 0 0, v1, vR] (j + 1) (numC F (j + 1)) [⟨108, 3, vP, j, tcells (cutP P T (F.take j))⟩, ⟨3, 1, v1, j + 1, ic (cutV T (F.take (j + 1)))⟩, ⟨3, 1, vR, j, ic (cutR T bays n (F.take j))⟩] := by
              have := hst3.store 4 (.slice (some ⟨g1, 0, none⟩) (j + 1) cap1)
              rw [← hX4] at this
              rw [show ic (cutV T (F.take (j + 1))) = ic (cutV T (F.take j)) ++ [.int .i64 (v : Int)] from by
                rw [take_snoc HC.out]; unfold cutV; rw [List.map_append, List.map_singleton, HV.out, ic_snoc], hv1]
              exact this
            have HST4 := Lib.hid hst4
            have HX4 := Lib.hid hX4
            have hrow4 := hst4.row
            have hmx4 := hst4.mx
            have d5 := hrow4.cell (i := 5) (v := vR) rfl
            have f5 := hrow4.free 5
            have d5' : ∀ o, (X4.alloc o).cell? ⟨W5.heap.size, 5, none⟩ = some vR := fun o => (hrow4.alloc o).cell (i := 5) (v := vR) rfl
            have HOR := Lib.hid (hst4.rows.own ⟨3, 1, vR, j, ic (cutR T bays n (F.take j))⟩ (by simp))
            have HRI := Lib.hid (owns_nl (hst4.old HO7.out HO7L.out))
            obtain ⟨ri, hri⟩ : ∃ r, r = Lib.idxOf (nl (rimL T bays n)) (v : Int) := ⟨_, rfl⟩
            have HIX := Lib.hid (show ∀ Y, Hid (Below X4.heap.size X4 Y) → Calls Tryz.prog 81 #[.slice a7 (rimL T bays n).length c7, .int .i64 (v : Int)] Y fun e w' => e = .returned (.int .i64 ri) ∧ w' = Y from fun Y hY => by
              have := index_any a7 c7 (nl (rimL T bays n)) (v : Int) Y (HRI.out.mono (Nat.le_refl _) hY.out) (by rw [nl_length]; have := HRN.out; omega)
              rw [nl_length, ← hri] at this
              exact this)
            have HRV := Lib.hid hri
            have hbel4 : Below X4.heap.size X4 X4 := Below.refl _ _
            clear d4 hown3 hgr3 hat3 hlt3 hst3 hst4 hv1 hX4 hri hrow4
            go_upto_region 26 with fail
            rw [← HX4.out]
            clear e4 f4
            go_cut [19] (fun s19 wc => s19 = .int .i64 (v : Int) ∧ ∃ v2, CSt W8 wc W5.heap.size W7.heap.size W8.heap.size 63 [.int .i64 0, .slice none 0 0, vP, .slice none 0 0, v1, v2] (j + 1) (numC F (j + 1)) [⟨108, 3, vP, j, tcells (cutP P T (F.take j))⟩, ⟨3, 1, v1, j + 1, ic (cutV T (F.take (j + 1)))⟩, ⟨3, 1, v2, j + 1, ic (cutR T bays n (F.take (j + 1)))⟩])
            case first =>
              go_region_law (first | (go_simp; go_at_call 81; (with_reducible refine (HIX.out _ (hidB (by repeat (first | exact hbel4 | with_reducible apply bel_alloc | with_reducible apply bel_drew)))).mono ?_); rintro e Y ⟨rfl, rfl⟩) | (refine step_append_lies _ (by rfl) _ _ _ (by rfl) W8.heap.size 3 i0 (.int .i64 0) 1 8 (by kernel_rfl) hi hz0 hz1 hz2 rfl (by decide) vR j (ic (cutR T bays n (F.take j))) (by rfl) (HOR.out.alloc _) ⟨X4.heap.size, 0, none⟩ 1 1 [.int .i64 ri] (by rfl) rfl (World.news_of_block (heap_alloc_new X4 _)) (by intro u hu; simp at hu; subst hu; rfl) (by decide) (by unfold maxLen; omega) (by omega) (by simp; omega) (X4.heap.size + 1) (by simp) ?_; intro g2 cap2 X5 hown5 hgr5 hat5 hlt5; have hst5 := (show CSt W8 (X4.alloc (.cells #[.int .i64 ri] 3)).drew W5.heap.size W7.heap.size W8.heap.size 63 [.int .i64 0, .slice none 0 0, vP, .slice none 0 0, v1, vR] (j + 1) (numC F (j + 1)) [⟨108, 3, vP, j, tcells (cutP P T (F.take j))⟩, ⟨3, 1, v1, j + 1, ic (cutV T (F.take (j + 1)))⟩, ⟨3, 1, vR, j, ic (cutR T bays n (F.take j))⟩] from (HST4.out.alloc _).drew).push 2 ⟨3, 1, vR, j, ic (cutR T bays n (F.take j))⟩ rfl hown5 hgr5 (hat5.imp id fun e => by simp; omega); have HST5 := Lib.hid hst5; have k5 := hst5.row.cell (i := 5) (v := vR) rfl; have l5 := hst5.row.free 5; clear hst5))
              all_goals
                go_wp2
                go_meet
                refine ⟨rfl, .slice (some ⟨g2, 0, none⟩) (j + 1) cap2, ?_⟩
                have := HST5.out.store 5 (.slice (some ⟨g2, 0, none⟩) (j + 1) cap2)
                rw [show ic (cutR T bays n (F.take (j + 1))) = ic (cutR T bays n (F.take j)) ++ [.int .i64 ri] from by
                  rw [take_snoc HC.out]; unfold cutR; rw [List.map_append, List.map_singleton, HV.out, ic_snoc, HRV.out]]
                first | exact this | exact this.drew
            case rest =>
            obtain ⟨rfl, v2, hst6⟩ := hcut
            obtain ⟨X6, rfl⟩ : ∃ X6 : World, X6 = wc := ⟨_, rfl⟩
            have HST6 := Lib.hid hst6
            have hrow6 := hst6.row
            have d2 := hrow6.cell (i := 2) (v := vP) rfl
            have d2' : ∀ o, (X6.alloc o).cell? ⟨W5.heap.size, 2, none⟩ = some vP := fun o => (hrow6.alloc o).cell (i := 2) (v := vP) rfl
            have HOP := Lib.hid (hst6.rows.own ⟨108, 3, vP, j, tcells (cutP P T (F.take j))⟩ (by simp))
            have hmx6 := hst6.mx
            obtain ⟨iq, hiq, hy0, hy1, hy2⟩ := info_parts infoPt
            have hX65 : Below W5.heap.size W5 X6 := HB58.out.trans hst6.low
            obtain ⟨hr6, -, -, -, hP6, -, -, -, -, -⟩ := HALL.out X6 hX65
            have e2 := hr6.cell (i := 2) rfl
            obtain ⟨pb, poff, px, py, pz, hE, hpt, q0, q1, q2, -, -⟩ := hP6.get (Nat.le_refl _) (Below.refl _ _) (i := v) (by rw [HPL.out]; exact hvn)
            subst hE
            have HPT := Lib.hid (show T! P (vtx T c).toNat = (px, py, pz) from by rw [HV.out]; exact hpt.out)
            clear hst6 hrow6 hr6 hP6 hX65 hpt d5 f5 d5' hbel4 hmx4
            go_upto_region 27 with fail
            go_region_law (refine step_append_lies _ (by rfl) _ _ _ (by rfl) W8.heap.size 108 iq (.agg #[.int .i64 0, .int .i64 0, .int .i64 0]) 3 24 (by kernel_rfl) hiq hy0 hy1 hy2 rfl (by decide) vP j (tcells (cutP P T (F.take j))) (by rfl) (HOP.out.alloc _) ⟨X6.heap.size, 0, none⟩ 1 1 [.int .i64 px, .int .i64 py, .int .i64 pz] (by rfl) rfl (World.news_of_block (heap_alloc_new X6 _)) (by intro u hu; simp at hu; rcases hu with rfl | rfl | rfl <;> rfl) (by decide) (by unfold maxLen; omega) (by omega) (by simp; omega) (X6.heap.size + 1) (by simp) ?_; intro g2 cap2 X7 hown7 hgr7 hat7 hlt7; have hst7 := (show CSt W8 (X6.alloc (.cells #[.int .i64 px, .int .i64 py, .int .i64 pz] 108)).drew W5.heap.size W7.heap.size W8.heap.size 63 [.int .i64 0, .slice none 0 0, vP, .slice none 0 0, v1, v2] (j + 1) (numC F (j + 1)) [⟨108, 3, vP, j, tcells (cutP P T (F.take j))⟩, ⟨3, 1, v1, j + 1, ic (cutV T (F.take (j + 1)))⟩, ⟨3, 1, v2, j + 1, ic (cutR T bays n (F.take (j + 1)))⟩] from (HST6.out.alloc _).drew).push 0 ⟨108, 3, vP, j, tcells (cutP P T (F.take j))⟩ rfl hown7 hgr7 (hat7.imp id fun e => by simp; omega); have HST7 := Lib.hid hst7; have k2 := hst7.row.cell (i := 2) (v := vP) rfl; have l2 := hst7.row.free 2; clear hst7)
            all_goals
              go_wp2
              go_roundw
              case rel =>
                refine ⟨j + 1, .slice (some ⟨g2, 0, none⟩) (j + 1) cap2, v1, v2, by omega, by go_num, ?_⟩
                have := HST7.out.store 2 (.slice (some ⟨g2, 0, none⟩) (j + 1) cap2)
                rw [show tcells (cutP P T (F.take (j + 1))) = tcells (cutP P T (F.take j)) ++ [.int .i64 px, .int .i64 py, .int .i64 pz] from by
                  rw [take_snoc HC.out]; unfold cutP; rw [List.map_append, List.map_singleton, tcells_snoc, HPT.out]]
                first | exact this | exact this.drew
              case measure => simp [intOf]; omega
          · obtain rfl : j = fl := by omega
            have hFt : F.take j = F := List.take_of_length_le (by rw [← HFL.out]; exact Nat.le_refl _)
            rw [hFt] at hst
            have d0 := hst.row.cell (i := 0) rfl
            have f0 := hst.row.free 0
            obtain ⟨W9, hW9⟩ : ∃ W9, W9 = X.setCell ⟨W5.heap.size, 0, none⟩ (.int .i64 (j : Int)) := ⟨_, rfl⟩
            have hst9 : CSt W8 W9 W5.heap.size W7.heap.size W8.heap.size 63 [.int .i64 (j : Int), .slice none 0 0, vP, .slice none 0 0, vV, vR] j (numC F j) [⟨108, 3, vP, j, tcells (cutP P T F)⟩, ⟨3, 1, vV, j, ic (cutV T F)⟩, ⟨3, 1, vR, j, ic (cutR T bays n F)⟩] := by
              rw [hW9]; exact hst.store 0 (.int .i64 (j : Int))
            have hX9 : Below W5.heap.size W5 W9 := HB58.out.trans hst9.low
            have HX9 := Lib.hid hX9
            obtain ⟨hr9, -, -, -, -, -, -, -, -, -⟩ := HALL.out W9 hX9
            have b1 := hr9.cell (i := 1) rfl
            have HST := Lib.hid (show CSt W9 W9 W5.heap.size W7.heap.size W9.heap.size 63 [.int .i64 (j : Int), .slice none 0 0, vP, .slice none 0 0, vV, vR] j (numC F j) [⟨49, 3, .slice none 0 0, 0, tcells (cutT bays bay L F 0)⟩, ⟨3, 1, .slice none 0 0, 0, ic (cutK K bays bay 0)⟩] from by
              refine ⟨hst9.row, hst9.map, ⟨?_, ?_⟩, Below.refl _ _, fun _ _ _ _ => rfl, hst9.obm, by have := hst9.map.lt; omega, Nat.le_refl _⟩
              · intro r hr
                simp only [List.mem_cons, List.not_mem_nil, or_false] at hr
                rcases hr with rfl | rfl
                · exact World.ownsRow_nil _ _ _ _
                · have : cutK K bays bay 0 = [] := by unfold cutK sel; simp
                  rw [this]
                  exact World.ownsRow_nil _ _ _ _
              · simp [Apart, Value.ownBlock])
            have HST9 := Lib.hid hst9
            have HW9 := Lib.hid hW9
            have HKF := Lib.hid (show (cutK K bays bay 0).length = 0 from by unfold cutK sel; simp)
            obtain ⟨iq, hiq, hy0, hy1, hy2⟩ := info_parts info49
            clear hst hst9 hW9 hX9 hr9
            go_upto_region 30 with fail
            rw [← HW9.out]
            clear d0 f0
            go_wp2
            clear b1
            go_loopw [153] (fun c ws => ∃ (i nT nK : Nat) (vT vK : Value), i ≤ bl ∧ c = .int .i64 i ∧ nT = (sel bays bay i).length ∧ nK = (cutK K bays bay i).length ∧ nK ≤ 3 * i ∧ CSt W9 ws W5.heap.size W7.heap.size W9.heap.size 63 [.int .i64 (j : Int), vT, vP, vK, vV, vR] j (numC F j) [⟨49, 3, vT, nT, tcells (cutT bays bay L F i)⟩, ⟨3, 1, vK, nK, ic (cutK K bays bay i)⟩]) (fun c _ => bl - (intOf c).toNat)
            case atStart => exact ⟨0, 0, 0, _, _, by omega, rfl, rfl, HKF.out.symm, by omega, HST.out⟩
            case round =>
              clear HST
              obtain ⟨i, nT, nK, vT, vK, hil, rfl, hnT, hnK, hnKb, hst⟩ := hrel
              obtain ⟨X, rfl⟩ : ∃ X : World, X = wr := ⟨_, rfl⟩
              have hX5 : Below W5.heap.size W5 X := HX9.out.trans hst.low
              obtain ⟨hr6, -, -, hby6, -, hK6, -, hS6, -, hbwX⟩ := HALL.out X hX5
              by_cases hib : i < bl
              · obtain ⟨bb, boff, q, hE, hq, hcq, -, -⟩ := hby6.get (Nat.le_refl _) (Below.refl _ _) (i := i) (by rw [← HBL.out]; exact hib)
                subst hE
                have HSEL := Lib.hid (sel_succ bays bay i)
                have hsle := sel_le bays bay i
                cases e1 : q == bay
                · have hne : (q != bay) = true := by simp [bne, e1]
                  have HS2 := Lib.hid (show sel bays bay (i + 1) = sel bays bay i from by rw [HSEL.out, hq.out, if_neg (by simpa using e1)])
                  have HST := Lib.hid hst
                  have HNT := Lib.hid hnT
                  have HNK := Lib.hid hnK
                  clear hst hr6 hby6 hK6 hS6 hbwX hX5 hnT hnK hq
                  go_wp2
                  go_roundw
                  case rel => exact ⟨i + 1, nT, nK, vT, vK, by omega, by go_num, by rw [HS2.out]; exact HNT.out, by unfold cutK; rw [HS2.out]; exact HNK.out, by omega, by unfold cutT cutK; rw [HS2.out]; exact HST.out⟩
                  case measure => simp [intOf]; omega
                · have hne : (q != bay) = false := by simp [bne, e1]
                  have hqb : q = bay := by simpa using e1
                  have HS2 := Lib.hid (show sel bays bay (i + 1) = sel bays bay i ++ [i] from by rw [HSEL.out, hq.out, if_pos hqb])
                  have HCT := Lib.hid (show cutT bays bay L F (i + 1) = cutT bays bay L F i ++ [cutTri L F i] from by unfold cutT; rw [HS2.out, List.map_append]; rfl)
                  obtain ⟨i0', hi0⟩ : ∃ a, a = 3 * i := ⟨_, rfl⟩
                  obtain ⟨i1', hi1⟩ : ∃ a, a = 3 * i + 1 := ⟨_, rfl⟩
                  obtain ⟨i2', hi2⟩ : ∃ a, a = 3 * i + 2 := ⟨_, rfl⟩
                  have HI0 := Lib.hid hi0.symm
                  have hk3 : k = 3 * bl := by have := HN3.out; have := HL.out; omega
                  have s0 : (3 : Int) * (i : Int) = (i0' : Int) := by omega
                  have s1 : (i0' : Int) + 1 = (i1' : Int) := by omega
                  have s2 : (i0' : Int) + 2 = (i2' : Int) := by omega
                  have lb0 : i0' < k := by omega
                  have lb1 : i1' < k := by omega
                  have lb2 : i2' < k := by omega
                  have wr0 : IntKind.i64.wrap (i0' : Int) = (i0' : Int) := wrapN _ (by omega)
                  have wr1 : IntKind.i64.wrap (i1' : Int) = (i1' : Int) := wrapN _ (by omega)
                  have wr2 : IntKind.i64.wrap (i2' : Int) = (i2' : Int) := wrapN _ (by omega)
                  have wb0 : (i0' : Int) < (k : Int) := by omega
                  have wb1 : (i1' : Int) < (k : Int) := by omega
                  have wb2 : (i2' : Int) < (k : Int) := by omega
                  have g0 := hS6.cell (iv_get L lb0)
                  have g1 := hS6.cell (iv_get L lb1)
                  have g2 := hS6.cell (iv_get L lb2)
                  have HMEM := Lib.hid (show ∀ c, c < k → c / 3 = i → 0 ≤ L c ∧ (L c).toNat ∈ F ∧ I64 (L c) from fun c hc hci => by
                    have hA : ∀ i j, SAdj T (I! bays) i j → i < 3 * T.length ∧ j < 3 * T.length := fun i j h => ⟨h.1, h.2.1⟩
                    have hcT : c < 3 * T.length := by rw [← HN3.out]; exact hc
                    have hle := HCI.out.least
                    have h0 := hle.nonneg c hcT
                    have h1 := hle.top hA hcT
                    refine ⟨h0, HCI.out.perm.mem_iff.2 (reps_mem.2 ⟨h1.1, ?_, ?_⟩), ⟨by omega, ?_⟩⟩
                    · rw [← side_bay (hle.con c hcT), hci, hq.out, hqb]
                    · rw [h1.2]; omega
                    · have := hle.le c hcT
                      omega)
                  obtain ⟨m0, n0, q0⟩ := HMEM.out i0' lb0 (by omega)
                  obtain ⟨m1, n1, q1⟩ := HMEM.out i1' lb1 (by omega)
                  obtain ⟨m2, n2, q2⟩ := HMEM.out i2' lb2 (by omega)
                  have HTR0 := Lib.hid (show cutTri L F i = (ixF F (L i0'), ixF F (L i1'), ixF F (L i2')) from by rw [hi0, hi1, hi2]; rfl)
                  obtain ⟨l0, hl0⟩ : ∃ l, Hid (L i0' = l) := ⟨_, rfl⟩
                  obtain ⟨l1, hl1⟩ : ∃ l, Hid (L i1' = l) := ⟨_, rfl⟩
                  obtain ⟨l2, hl2⟩ : ∃ l, Hid (L i2' = l) := ⟨_, rfl⟩
                  rw [hl0.out] at g0 m0 n0 q0
                  rw [hl1.out] at g1 m1 n1 q1
                  rw [hl2.out] at g2 m2 n2 q2
                  rw [hl0.out, hl1.out, hl2.out] at HTR0
                  obtain ⟨r0, hr0⟩ : ∃ r, Hid (ixF F l0 = r) := ⟨_, rfl⟩
                  obtain ⟨r1, hr1⟩ : ∃ r, Hid (ixF F l1 = r) := ⟨_, rfl⟩
                  obtain ⟨r2, hr2⟩ : ∃ r, Hid (ixF F l2 = r) := ⟨_, rfl⟩
                  have HTR := Lib.hid (show cutTri L F i = (r0, r1, r2) from by rw [HTR0.out, hr0.out, hr1.out, hr2.out])
                  have hjF : j = F.length := HFL.out
                  have HLK := Lib.hid (show ∀ (l r : Int), 0 ≤ l → l.toNat ∈ F → I64 l → ixF F l = r → ∀ Y, MapIs intFam Y W7.heap.size j (numC F j) → (Instr.lookup 73 (.map (some W7.heap.size)) (.int .i64 l) false).run Tryz.prog Y = .ok (.int .i64 r) Y from fun l r h0 h1 h2 h3 Y hY => by
                    have := hY.look 73 3 (by kernel_rfl) zero_int l h2 false
                    simp only [intFam, Bool.false_eq_true, if_false] at this
                    rw [hjF, numC_all h0 h1, h3] at this
                    exact this)
                  have hmap := hst.map
                  have hWlt := hS6.lt
                  have HKM := Lib.hid (show ∀ Y, RowIs Y W2.heap.size 3 (iv L k) → MapIs intFam Y W7.heap.size j (numC F j) → Y.cell? ⟨W2.heap.size, i0', none⟩ = some (.int .i64 l0) ∧ Y.cell? ⟨W2.heap.size, i1', none⟩ = some (.int .i64 l1) ∧ Y.cell? ⟨W2.heap.size, i2', none⟩ = some (.int .i64 l2) ∧ (Instr.lookup 73 (.map (some W7.heap.size)) (.int .i64 l0) false).run Tryz.prog Y = .ok (.int .i64 r0) Y ∧ (Instr.lookup 73 (.map (some W7.heap.size)) (.int .i64 l1) false).run Tryz.prog Y = .ok (.int .i64 r1) Y ∧ (Instr.lookup 73 (.map (some W7.heap.size)) (.int .i64 l2) false).run Tryz.prog Y = .ok (.int .i64 r2) Y from fun Y hR hM =>
                    ⟨by rw [← hl0.out]; exact hR.cell (iv_get L lb0), by rw [← hl1.out]; exact hR.cell (iv_get L lb1), by rw [← hl2.out]; exact hR.cell (iv_get L lb2), HLK.out l0 r0 m0 n0 q0 hr0.out Y hM, HLK.out l1 r1 m1 n1 q1 hr1.out Y hM, HLK.out l2 r2 m2 n2 q2 hr2.out Y hM⟩)
                  have HKS := Lib.hid (show ∀ Y, Below X.heap.size X Y → Y.cell? ⟨W2.heap.size, i0', none⟩ = some (.int .i64 l0) ∧ Y.cell? ⟨W2.heap.size, i1', none⟩ = some (.int .i64 l1) ∧ Y.cell? ⟨W2.heap.size, i2', none⟩ = some (.int .i64 l2) ∧ (Instr.lookup 73 (.map (some W7.heap.size)) (.int .i64 l0) false).run Tryz.prog Y = .ok (.int .i64 r0) Y ∧ (Instr.lookup 73 (.map (some W7.heap.size)) (.int .i64 l1) false).run Tryz.prog Y = .ok (.int .i64 r1) Y ∧ (Instr.lookup 73 (.map (some W7.heap.size)) (.int .i64 l2) false).run Tryz.prog Y = .ok (.int .i64 r2) Y from fun Y hY => HKM.out Y (hS6.below hY hWlt) (hmap.below (Nat.le_refl _) hY))
                  have hbelX : Below X.heap.size X X := Below.refl _ _
                  have HST := Lib.hid hst
                  have HOT := Lib.hid (hst.rows.own ⟨49, 3, vT, nT, tcells (cutT bays bay L F i)⟩ (by simp))
                  have t1 := hst.row.cell (i := 1) (v := vT) rfl
                  have t1' : ∀ o, (X.alloc o).cell? ⟨W5.heap.size, 1, none⟩ = some vT := fun o => (hst.row.alloc o).cell (i := 1) (v := vT) rfl
                  have hmxX := hst.mx
                  have HNT := Lib.hid hnT
                  have HNK := Lib.hid hnK
                  have hnTb : nT ≤ i := by omega
                  clear hst hr6 hby6 hK6 hS6 hbwX hX5 hq g0 g1 g2 m0 n0 q0 m1 n1 q1 m2 n2 q2 hmap hWlt hi0 hi1 hi2 hjF hk3 hnT hnK
                  go_upto_region 34 with fail
                  go_cut [20] (fun s20 wc => s20 = .int .i64 (i : Int) ∧ ∃ vT2, CSt W9 wc W5.heap.size W7.heap.size W9.heap.size 63 [.int .i64 (j : Int), vT2, vP, vK, vV, vR] j (numC F j) [⟨49, 3, vT2, nT + 1, tcells (cutT bays bay L F (i + 1))⟩, ⟨3, 1, vK, nK, ic (cutK K bays bay i)⟩])
                  case first =>
                    refine wp_region_held_drew (S := (fun w' => w'.cell? ⟨W2.heap.size, i0', none⟩ = some (.int .i64 l0) ∧ w'.cell? ⟨W2.heap.size, i1', none⟩ = some (.int .i64 l1) ∧ w'.cell? ⟨W2.heap.size, i2', none⟩ = some (.int .i64 l2) ∧ (Instr.lookup 73 (.map (some W7.heap.size)) (.int .i64 l0) false).run Tryz.prog w' = .ok (.int .i64 r0) w' ∧ (Instr.lookup 73 (.map (some W7.heap.size)) (.int .i64 l1) false).run Tryz.prog w' = .ok (.int .i64 r1) w' ∧ (Instr.lookup 73 (.map (some W7.heap.size)) (.int .i64 l2) false).run Tryz.prog w' = .ok (.int .i64 r2) w')) (by kernel_rfl) ?_ (fun hHeld0 => ?_)
                    · ((try dsimp only); exact HKS.out _ (by repeat (first | exact hbelX | with_reducible apply bel_alloc | with_reducible apply bel_drew)))
                    refine wpAnyH_take (i := 0) (v := ?_) rfl (by kernel_rfl) (by kernel_rfl) (by kernel_rfl) (fun _ _ _ h => h) (Or.inl ⟨by rfl, ?_⟩) (by assumption) ?_
                    rotate_left
                    · (intro w hSw; (try dsimp only at hSw); go_simp; try with_reducible rfl)
                    try simp only [List.getElem_toArray, List.getElem_cons_succ, List.getElem_cons_zero, Act.put, List.setIfInBounds_toArray, List.set_cons_zero, List.set_cons_succ]
                    refine wpAnyH_take (i := 1) (v := ?_) rfl (by kernel_rfl) (by kernel_rfl) (by kernel_rfl) (fun _ _ _ h => h) (Or.inl ⟨by rfl, ?_⟩) (by assumption) ?_
                    rotate_left
                    · (intro w hSw; (try dsimp only at hSw); go_simp; try with_reducible rfl)
                    try simp only [List.getElem_toArray, List.getElem_cons_succ, List.getElem_cons_zero, Act.put, List.setIfInBounds_toArray, List.set_cons_zero, List.set_cons_succ]
                    refine wpAnyH_take (i := 2) (v := ?_) rfl (by kernel_rfl) (by kernel_rfl) (by kernel_rfl) (fun _ _ _ h => h) (Or.inl ⟨by rfl, ?_⟩) (by assumption) ?_
                    rotate_left
                    · (intro w hSw; (try dsimp only at hSw); go_simp; try with_reducible rfl)
                    try simp only [List.getElem_toArray, List.getElem_cons_succ, List.getElem_cons_zero, Act.put, List.setIfInBounds_toArray, List.set_cons_zero, List.set_cons_succ]
                    refine wpAnyH_take (i := 4) (v := ?_) rfl (by kernel_rfl) (by kernel_rfl) (by kernel_rfl) (fun _ _ _ h => h) (Or.inl ⟨by rfl, ?_⟩) (by assumption) ?_
                    rotate_left
                    · (intro w hSw; (try dsimp only at hSw); go_simp; try with_reducible rfl)
                    try simp only [List.getElem_toArray, List.getElem_cons_succ, List.getElem_cons_zero, Act.put, List.setIfInBounds_toArray, List.set_cons_zero, List.set_cons_succ]
                    refine wpAnyH_take (i := 5) (v := ?_) rfl (by kernel_rfl) (by kernel_rfl) (by kernel_rfl) (fun _ _ _ h => h) (Or.inl ⟨by rfl, ?_⟩) (by assumption) ?_
                    rotate_left
                    · (intro w hSw; (try dsimp only at hSw); go_simp; try with_reducible rfl)
                    try simp only [List.getElem_toArray, List.getElem_cons_succ, List.getElem_cons_zero, Act.put, List.setIfInBounds_toArray, List.set_cons_zero, List.set_cons_succ]
                    refine wpAnyH_take (i := 6) (v := ?_) rfl (by kernel_rfl) (by kernel_rfl) (by kernel_rfl) (fun _ _ _ h => h) (Or.inl ⟨by rfl, ?_⟩) (by assumption) ?_
                    rotate_left
                    · (intro w hSw; (try dsimp only at hSw); go_simp; try with_reducible rfl)
                    try simp only [List.getElem_toArray, List.getElem_cons_succ, List.getElem_cons_zero, Act.put, List.setIfInBounds_toArray, List.set_cons_zero, List.set_cons_succ]
                    refine wpAnyH_take (i := 7) (v := ?_) rfl (by kernel_rfl) (by kernel_rfl) (by kernel_rfl) (fun _ _ _ h => h) (Or.inl ⟨by rfl, ?_⟩) (by assumption) ?_
                    rotate_left
                    · (intro w hSw; (try dsimp only at hSw); go_simp; try with_reducible rfl)
                    try simp only [List.getElem_toArray, List.getElem_cons_succ, List.getElem_cons_zero, Act.put, List.setIfInBounds_toArray, List.set_cons_zero, List.set_cons_succ]
                    refine wpAnyH_take (i := 8) (v := ?_) rfl (by kernel_rfl) (by kernel_rfl) (by kernel_rfl) (fun _ _ _ h => h) (Or.inl ⟨by rfl, ?_⟩) (by assumption) ?_
                    rotate_left
                    · (intro w hSw; (try dsimp only at hSw); go_simp; try with_reducible rfl)
                    try simp only [List.getElem_toArray, List.getElem_cons_succ, List.getElem_cons_zero, Act.put, List.setIfInBounds_toArray, List.set_cons_zero, List.set_cons_succ]
                    refine wpAnyH_take (i := 9) (v := ?_) rfl (by kernel_rfl) (by kernel_rfl) (by kernel_rfl) (fun _ _ _ h => h) (Or.inl ⟨by rfl, ?_⟩) (by assumption) ?_
                    rotate_left
                    · (intro w hSw; (try dsimp only at hSw); go_simp; try with_reducible rfl)
                    try simp only [List.getElem_toArray, List.getElem_cons_succ, List.getElem_cons_zero, Act.put, List.setIfInBounds_toArray, List.set_cons_zero, List.set_cons_succ]
                    refine wpAnyH_take (i := 10) (v := ?_) rfl (by kernel_rfl) (by kernel_rfl) (by kernel_rfl) (fun _ _ _ h => h) (Or.inl ⟨by rfl, ?_⟩) (by assumption) ?_
                    rotate_left
                    · (intro w hSw; (try dsimp only at hSw); go_simp; try with_reducible rfl)
                    try simp only [List.getElem_toArray, List.getElem_cons_succ, List.getElem_cons_zero, Act.put, List.setIfInBounds_toArray, List.set_cons_zero, List.set_cons_succ]
                    refine wpAnyH_take (i := 11) (v := ?_) rfl (by kernel_rfl) (by kernel_rfl) (by kernel_rfl) (fun _ _ _ h => h) (Or.inl ⟨by rfl, ?_⟩) (by assumption) ?_
                    rotate_left
                    · (intro w hSw; (try dsimp only at hSw); go_simp; try with_reducible rfl)
                    try simp only [List.getElem_toArray, List.getElem_cons_succ, List.getElem_cons_zero, Act.put, List.setIfInBounds_toArray, List.set_cons_zero, List.set_cons_succ]
                    refine wpAnyH_take (i := 12) (v := ?_) rfl (by kernel_rfl) (by kernel_rfl) (by kernel_rfl) (fun _ _ _ h => h) (Or.inl ⟨by rfl, ?_⟩) (by assumption) ?_
                    rotate_left
                    · (intro w hSw; (try dsimp only at hSw); go_simp; try with_reducible rfl)
                    try simp only [List.getElem_toArray, List.getElem_cons_succ, List.getElem_cons_zero, Act.put, List.setIfInBounds_toArray, List.set_cons_zero, List.set_cons_succ]
                    refine wpAnyH_take (i := 13) (v := ?_) rfl (by kernel_rfl) (by kernel_rfl) (by kernel_rfl) (fun _ _ _ h => h) (Or.inl ⟨by rfl, ?_⟩) (by assumption) ?_
                    rotate_left
                    · (intro w hSw; (try dsimp only at hSw); go_simp; try with_reducible rfl)
                    try simp only [List.getElem_toArray, List.getElem_cons_succ, List.getElem_cons_zero, Act.put, List.setIfInBounds_toArray, List.set_cons_zero, List.set_cons_succ]
                    refine wpAnyH_take (i := 14) (v := ?_) rfl (by kernel_rfl) (by kernel_rfl) (by kernel_rfl) (fun _ _ _ h => h) (Or.inl ⟨by rfl, ?_⟩) (by assumption) ?_
                    rotate_left
                    · (intro w hSw; (try dsimp only at hSw); go_simp; try with_reducible rfl)
                    try simp only [List.getElem_toArray, List.getElem_cons_succ, List.getElem_cons_zero, Act.put, List.setIfInBounds_toArray, List.set_cons_zero, List.set_cons_succ]
                    refine wpAnyH_take (i := 15) (v := ?_) rfl (by kernel_rfl) (by kernel_rfl) (by kernel_rfl) (fun _ _ _ h => h) (Or.inl ⟨by rfl, ?_⟩) (by assumption) ?_
                    rotate_left
                    · (intro w hSw; (try dsimp only at hSw); go_simp; try with_reducible rfl)
                    try simp only [List.getElem_toArray, List.getElem_cons_succ, List.getElem_cons_zero, Act.put, List.setIfInBounds_toArray, List.set_cons_zero, List.set_cons_succ]
                    refine wpAnyH_take (i := 16) (v := ?_) rfl (by kernel_rfl) (by kernel_rfl) (by kernel_rfl) (fun _ _ _ h => h) (Or.inl ⟨by rfl, ?_⟩) (by assumption) ?_
                    rotate_left
                    · (intro w hSw; (try dsimp only at hSw); go_simp; try with_reducible rfl)
                    try simp only [List.getElem_toArray, List.getElem_cons_succ, List.getElem_cons_zero, Act.put, List.setIfInBounds_toArray, List.set_cons_zero, List.set_cons_succ]
                    refine wpAnyH_take (i := 17) (v := ?_) rfl (by kernel_rfl) (by kernel_rfl) (by kernel_rfl) (fun _ _ _ h => h) (Or.inl ⟨by rfl, ?_⟩) (by assumption) ?_
                    rotate_left
                    · (intro w hSw; (try dsimp only at hSw); go_simp; try with_reducible rfl)
                    try simp only [List.getElem_toArray, List.getElem_cons_succ, List.getElem_cons_zero, Act.put, List.setIfInBounds_toArray, List.set_cons_zero, List.set_cons_succ]
                    refine wpAnyH_take (i := 18) (v := ?_) rfl (by kernel_rfl) (by kernel_rfl) (by kernel_rfl) (fun _ _ _ h => h) (Or.inl ⟨by rfl, ?_⟩) (by assumption) ?_
                    rotate_left
                    · (intro w hSw; (try dsimp only at hSw); go_simp; try with_reducible rfl)
                    try simp only [List.getElem_toArray, List.getElem_cons_succ, List.getElem_cons_zero, Act.put, List.setIfInBounds_toArray, List.set_cons_zero, List.set_cons_succ]
                    refine wpAnyH_take (i := 19) (v := ?_) rfl (by kernel_rfl) (by kernel_rfl) (by kernel_rfl) (fun _ _ _ h => h) (Or.inl ⟨by rfl, ?_⟩) (by assumption) ?_
                    rotate_left
                    · (intro w hSw; (try dsimp only at hSw); go_simp; try with_reducible rfl)
                    try simp only [List.getElem_toArray, List.getElem_cons_succ, List.getElem_cons_zero, Act.put, List.setIfInBounds_toArray, List.set_cons_zero, List.set_cons_succ]
                    refine wpAnyH_take (i := 20) (v := ?_) rfl (by kernel_rfl) (by kernel_rfl) (by kernel_rfl) (fun _ _ _ h => h) (Or.inl ⟨by rfl, ?_⟩) (by assumption) ?_
                    rotate_left
                    · (intro w hSw; (try dsimp only at hSw); go_simp; try with_reducible rfl)
                    try simp only [List.getElem_toArray, List.getElem_cons_succ, List.getElem_cons_zero, Act.put, List.setIfInBounds_toArray, List.set_cons_zero, List.set_cons_succ]
                    refine wpAnyH_take (i := 21) (v := ?_) rfl (by kernel_rfl) (by kernel_rfl) (by kernel_rfl) (fun _ _ _ h => h) (Or.inl ⟨by rfl, ?_⟩) (by assumption) ?_
                    rotate_left
                    · (intro w hSw; (try dsimp only at hSw); go_simp; try with_reducible rfl)
                    try simp only [List.getElem_toArray, List.getElem_cons_succ, List.getElem_cons_zero, Act.put, List.setIfInBounds_toArray, List.set_cons_zero, List.set_cons_succ]
                    refine wpAnyH_take (i := 22) (v := ?_) rfl (by kernel_rfl) (by kernel_rfl) (by kernel_rfl) (fun _ _ _ h => h) (Or.inl ⟨by rfl, ?_⟩) (by assumption) ?_
                    rotate_left
                    · (intro w hSw; (try dsimp only at hSw); go_simp; try with_reducible rfl)
                    try simp only [List.getElem_toArray, List.getElem_cons_succ, List.getElem_cons_zero, Act.put, List.setIfInBounds_toArray, List.set_cons_zero, List.set_cons_succ]
                    refine wpAnyH_take (i := 23) (v := ?_) rfl (by kernel_rfl) (by kernel_rfl) (by kernel_rfl) (fun _ _ _ h => h) (Or.inl ⟨by rfl, ?_⟩) (by assumption) ?_
                    rotate_left
                    · (intro w hSw; (try dsimp only at hSw); go_simp; try with_reducible rfl)
                    try simp only [List.getElem_toArray, List.getElem_cons_succ, List.getElem_cons_zero, Act.put, List.setIfInBounds_toArray, List.set_cons_zero, List.set_cons_succ]
                    refine wpAnyH_take (i := 24) (v := ?_) rfl (by kernel_rfl) (by kernel_rfl) (by kernel_rfl) (fun _ _ _ h => h) (Or.inl ⟨by rfl, ?_⟩) (by assumption) ?_
                    rotate_left
                    · (intro w hSw; (try dsimp only at hSw); go_simp; try with_reducible rfl)
                    try simp only [List.getElem_toArray, List.getElem_cons_succ, List.getElem_cons_zero, Act.put, List.setIfInBounds_toArray, List.set_cons_zero, List.set_cons_succ]
                    refine wpAnyH_take (i := 25) (v := ?_) rfl (by kernel_rfl) (by kernel_rfl) (by kernel_rfl) (fun _ _ _ h => h) (Or.inl ⟨by rfl, ?_⟩) (by assumption) ?_
                    rotate_left
                    · (intro w hSw; (try dsimp only at hSw); go_simp; try with_reducible rfl)
                    try simp only [List.getElem_toArray, List.getElem_cons_succ, List.getElem_cons_zero, Act.put, List.setIfInBounds_toArray, List.set_cons_zero, List.set_cons_succ]
                    refine wpAnyH_take (i := 26) (v := ?_) rfl (by kernel_rfl) (by kernel_rfl) (by kernel_rfl) (fun _ _ _ h => h) (Or.inl ⟨by rfl, ?_⟩) (by assumption) ?_
                    rotate_left
                    · (intro w hSw; (try dsimp only at hSw); go_simp; try with_reducible rfl)
                    try simp only [List.getElem_toArray, List.getElem_cons_succ, List.getElem_cons_zero, Act.put, List.setIfInBounds_toArray, List.set_cons_zero, List.set_cons_succ]
                    refine wpAnyH_take (i := 27) (v := ?_) rfl (by kernel_rfl) (by kernel_rfl) (by kernel_rfl) (fun _ _ _ h => h) (Or.inl ⟨by rfl, ?_⟩) (by assumption) ?_
                    rotate_left
                    · (intro w hSw; (try dsimp only at hSw); go_simp; try with_reducible rfl)
                    try simp only [List.getElem_toArray, List.getElem_cons_succ, List.getElem_cons_zero, Act.put, List.setIfInBounds_toArray, List.set_cons_zero, List.set_cons_succ]
                    refine wpAnyH_ready (rs := [3, 28]) (by kernel_rfl) (by simp) ?_
                    refine AllReadyH.cons rfl (fun Kk hK => ?_) (AllReadyH.cons rfl (fun Kk hK => ?_) AllReadyH.nil)
                    · skip
                      go_simp
                      refine hK.out _ _ ?_ (fun hHa => ?_)
                      · ((try dsimp only); exact HKS.out _ (by repeat (first | exact hbelX | with_reducible apply bel_alloc | with_reducible apply bel_drew)))
                      clear hK Kk
                      try simp only [List.getElem_toArray, List.getElem_cons_succ, List.getElem_cons_zero, Act.put, List.setIfInBounds_toArray, List.set_cons_zero, List.set_cons_succ]
                      refine wpAnyH_ready (rs := [28]) (by kernel_rfl) (by simp) ?_
                      refine (AllReadyH.cons rfl (fun Kk hK => ?_) AllReadyH.nil)
                      go_simp
                      refine hK.out _ _ ?_ (fun hHx28 => ?_)
                      · ((try dsimp only); exact HKS.out _ (by repeat (first | exact hbelX | with_reducible apply bel_alloc | with_reducible apply bel_drew)))
                      clear hK Kk
                      try simp only [List.getElem_toArray, List.getElem_cons_succ, List.getElem_cons_zero, Act.put, List.setIfInBounds_toArray, List.set_cons_zero, List.set_cons_succ]
                      refine wpAnyH_ready (rs := [29]) (by kernel_rfl) (by simp) ?_
                      refine (AllReadyH.cons rfl (fun Kk hK => ?_) AllReadyH.nil)
                      (refine step_append_lies _ (by rfl) _ _ _ (by rfl) W9.heap.size 49 iq (.agg #[.int .i64 0, .int .i64 0, .int .i64 0]) 3 24 (by kernel_rfl) hiq hy0 hy1 hy2 rfl (by decide) vT nT (tcells (cutT bays bay L F i)) (by rfl) (HOT.out.alloc _) ⟨X.heap.size, 0, none⟩ 1 1 [.int .i64 r0, .int .i64 r1, .int .i64 r2] (by rfl) rfl (World.news_of_block (heap_alloc_new X _)) (by intro u hu; simp at hu; rcases hu with rfl | rfl | rfl <;> rfl) (by decide) (by unfold maxLen; omega) (by omega) (by simp; omega) (X.heap.size + 1) (by simp) ?_)
                      intro g2 cap2 X7 hown7 hgr7 hat7 hlt7
                      have HST7 := Lib.hid ((show CSt W9 (X.alloc (.cells #[.int .i64 r0, .int .i64 r1, .int .i64 r2] 49)).drew W5.heap.size W7.heap.size W9.heap.size 63 [.int .i64 (j : Int), vT, vP, vK, vV, vR] j (numC F j) [⟨49, 3, vT, nT, tcells (cutT bays bay L F i)⟩, ⟨3, 1, vK, nK, ic (cutK K bays bay i)⟩] from (HST.out.alloc _).drew).push 0 ⟨49, 3, vT, nT, tcells (cutT bays bay L F i)⟩ rfl hown7 hgr7 (hat7.imp id fun e => by simp; omega))
                      have k1 := HST7.out.row.cell (i := 1) (v := vT) rfl
                      have l1' := HST7.out.row.free 1
                      refine hK.out _ _ ?_ (fun hHx29 => ?_)
                      · ((try dsimp only); exact HKM.out _ (HALL.out X7 (HX9.out.trans HST7.out.low)).2.2.2.2.2.2.2.1 HST7.out.map)
                      clear hK Kk
                      try simp only [List.getElem_toArray, List.getElem_cons_succ, List.getElem_cons_zero, Act.put, List.setIfInBounds_toArray, List.set_cons_zero, List.set_cons_succ]
                      refine wpAnyH_take (i := 30) (v := ?_) rfl (by kernel_rfl) (by kernel_rfl) (by kernel_rfl) (fun _ _ _ h => h) (Or.inl ⟨by rfl, ?_⟩) (by assumption) ?_
                      rotate_left
                      · (intro w hSw; (try dsimp only at hSw); go_simp; try with_reducible rfl)
                      try simp only [List.getElem_toArray, List.getElem_cons_succ, List.getElem_cons_zero, Act.put, List.setIfInBounds_toArray, List.set_cons_zero, List.set_cons_succ]
                      refine wpAnyH_take (i := 31) (v := ?_) rfl (by kernel_rfl) (by kernel_rfl) (by kernel_rfl) (fun _ _ _ h => h) (Or.inl ⟨by rfl, ?_⟩) (by assumption) ?_
                      rotate_left
                      · (intro w hSw; (try dsimp only at hSw); go_simp; try with_reducible rfl)
                      try simp only [List.getElem_toArray, List.getElem_cons_succ, List.getElem_cons_zero, Act.put, List.setIfInBounds_toArray, List.set_cons_zero, List.set_cons_succ]
                      refine wpAnyH_take (i := 32) (v := ?_) rfl (by kernel_rfl) (by kernel_rfl) (by kernel_rfl) (fun _ _ _ h => h) (Or.inl ⟨by rfl, ?_⟩) (by assumption) ?_
                      rotate_left
                      · (intro w hSw; (try dsimp only at hSw); go_simp; try with_reducible rfl)
                      try simp only [List.getElem_toArray, List.getElem_cons_succ, List.getElem_cons_zero, Act.put, List.setIfInBounds_toArray, List.set_cons_zero, List.set_cons_succ]
                      refine wpAnyH_ready (rs := [33]) (by kernel_rfl) (by simp) ?_
                      refine (AllReadyH.cons rfl (fun Kk hK => ?_) AllReadyH.nil)
                      go_simp
                      refine hK.out _ _ ?_ (fun hHx33 => ?_)
                      · ((try dsimp only); exact HKM.out _ (HALL.out _ (HX9.out.trans (HST7.out.store 1 _).low)).2.2.2.2.2.2.2.1 (HST7.out.store 1 _).map)
                      clear hK Kk
                      try simp only [List.getElem_toArray, List.getElem_cons_succ, List.getElem_cons_zero, Act.put, List.setIfInBounds_toArray, List.set_cons_zero, List.set_cons_succ]
                      refine wpAnyH_done (by kernel_rfl) ?_ _
                      go_wp2
                      go_meet
                      refine ⟨rfl, .slice (some ⟨g2, 0, none⟩) (nT + 1) cap2, ?_⟩
                      have := HST7.out.store 1 (.slice (some ⟨g2, 0, none⟩) (nT + 1) cap2)
                      rw [HCT.out, tcells_snoc, HTR.out]
                      first | exact this | exact this.drew
                    · skip
                      go_simp
                      refine hK.out _ _ ?_ (fun hHa => ?_)
                      · ((try dsimp only); exact HKS.out _ (by repeat (first | exact hbelX | with_reducible apply bel_alloc | with_reducible apply bel_drew)))
                      clear hK Kk
                      try simp only [List.getElem_toArray, List.getElem_cons_succ, List.getElem_cons_zero, Act.put, List.setIfInBounds_toArray, List.set_cons_zero, List.set_cons_succ]
                      refine wpAnyH_ready (rs := [3]) (by kernel_rfl) (by simp) ?_
                      refine (AllReadyH.cons rfl (fun Kk hK => ?_) AllReadyH.nil)
                      go_simp
                      refine hK.out _ _ ?_ (fun hHx3 => ?_)
                      · ((try dsimp only); exact HKS.out _ (by repeat (first | exact hbelX | with_reducible apply bel_alloc | with_reducible apply bel_drew)))
                      clear hK Kk
                      try simp only [List.getElem_toArray, List.getElem_cons_succ, List.getElem_cons_zero, Act.put, List.setIfInBounds_toArray, List.set_cons_zero, List.set_cons_succ]
                      refine wpAnyH_ready (rs := [29]) (by kernel_rfl) (by simp) ?_
                      refine (AllReadyH.cons rfl (fun Kk hK => ?_) AllReadyH.nil)
                      (refine step_append_lies _ (by rfl) _ _ _ (by rfl) W9.heap.size 49 iq (.agg #[.int .i64 0, .int .i64 0, .int .i64 0]) 3 24 (by kernel_rfl) hiq hy0 hy1 hy2 rfl (by decide) vT nT (tcells (cutT bays bay L F i)) (by rfl) (HOT.out.alloc _) ⟨X.heap.size, 0, none⟩ 1 1 [.int .i64 r0, .int .i64 r1, .int .i64 r2] (by rfl) rfl (World.news_of_block (heap_alloc_new X _)) (by intro u hu; simp at hu; rcases hu with rfl | rfl | rfl <;> rfl) (by decide) (by unfold maxLen; omega) (by omega) (by simp; omega) (X.heap.size + 1) (by simp) ?_)
                      intro g2 cap2 X7 hown7 hgr7 hat7 hlt7
                      have HST7 := Lib.hid ((show CSt W9 (X.alloc (.cells #[.int .i64 r0, .int .i64 r1, .int .i64 r2] 49)).drew W5.heap.size W7.heap.size W9.heap.size 63 [.int .i64 (j : Int), vT, vP, vK, vV, vR] j (numC F j) [⟨49, 3, vT, nT, tcells (cutT bays bay L F i)⟩, ⟨3, 1, vK, nK, ic (cutK K bays bay i)⟩] from (HST.out.alloc _).drew).push 0 ⟨49, 3, vT, nT, tcells (cutT bays bay L F i)⟩ rfl hown7 hgr7 (hat7.imp id fun e => by simp; omega))
                      have k1 := HST7.out.row.cell (i := 1) (v := vT) rfl
                      have l1' := HST7.out.row.free 1
                      refine hK.out _ _ ?_ (fun hHx29 => ?_)
                      · ((try dsimp only); exact HKM.out _ (HALL.out X7 (HX9.out.trans HST7.out.low)).2.2.2.2.2.2.2.1 HST7.out.map)
                      clear hK Kk
                      try simp only [List.getElem_toArray, List.getElem_cons_succ, List.getElem_cons_zero, Act.put, List.setIfInBounds_toArray, List.set_cons_zero, List.set_cons_succ]
                      refine wpAnyH_take (i := 30) (v := ?_) rfl (by kernel_rfl) (by kernel_rfl) (by kernel_rfl) (fun _ _ _ h => h) (Or.inl ⟨by rfl, ?_⟩) (by assumption) ?_
                      rotate_left
                      · (intro w hSw; (try dsimp only at hSw); go_simp; try with_reducible rfl)
                      try simp only [List.getElem_toArray, List.getElem_cons_succ, List.getElem_cons_zero, Act.put, List.setIfInBounds_toArray, List.set_cons_zero, List.set_cons_succ]
                      refine wpAnyH_take (i := 31) (v := ?_) rfl (by kernel_rfl) (by kernel_rfl) (by kernel_rfl) (fun _ _ _ h => h) (Or.inl ⟨by rfl, ?_⟩) (by assumption) ?_
                      rotate_left
                      · (intro w hSw; (try dsimp only at hSw); go_simp; try with_reducible rfl)
                      try simp only [List.getElem_toArray, List.getElem_cons_succ, List.getElem_cons_zero, Act.put, List.setIfInBounds_toArray, List.set_cons_zero, List.set_cons_succ]
                      refine wpAnyH_take (i := 32) (v := ?_) rfl (by kernel_rfl) (by kernel_rfl) (by kernel_rfl) (fun _ _ _ h => h) (Or.inl ⟨by rfl, ?_⟩) (by assumption) ?_
                      rotate_left
                      · (intro w hSw; (try dsimp only at hSw); go_simp; try with_reducible rfl)
                      try simp only [List.getElem_toArray, List.getElem_cons_succ, List.getElem_cons_zero, Act.put, List.setIfInBounds_toArray, List.set_cons_zero, List.set_cons_succ]
                      refine wpAnyH_ready (rs := [33]) (by kernel_rfl) (by simp) ?_
                      refine (AllReadyH.cons rfl (fun Kk hK => ?_) AllReadyH.nil)
                      go_simp
                      refine hK.out _ _ ?_ (fun hHx33 => ?_)
                      · ((try dsimp only); exact HKM.out _ (HALL.out _ (HX9.out.trans (HST7.out.store 1 _).low)).2.2.2.2.2.2.2.1 (HST7.out.store 1 _).map)
                      clear hK Kk
                      try simp only [List.getElem_toArray, List.getElem_cons_succ, List.getElem_cons_zero, Act.put, List.setIfInBounds_toArray, List.set_cons_zero, List.set_cons_succ]
                      refine wpAnyH_done (by kernel_rfl) ?_ _
                      go_wp2
                      go_meet
                      refine ⟨rfl, .slice (some ⟨g2, 0, none⟩) (nT + 1) cap2, ?_⟩
                      have := HST7.out.store 1 (.slice (some ⟨g2, 0, none⟩) (nT + 1) cap2)
                      rw [HCT.out, tcells_snoc, HTR.out]
                      first | exact this | exact this.drew
                  case rest =>
                  obtain ⟨rfl, vT2, hst10⟩ := hcut
                  obtain ⟨X10, rfl⟩ : ∃ X10 : World, X10 = wc := ⟨_, rfl⟩
                  have hX10 : Below W5.heap.size W5 X10 := HX9.out.trans hst10.low
                  obtain ⟨hr10, -, -, -, -, hK10, -, -, -, -⟩ := HALL.out X10 hX10
                  have b3 := hr10.cell (i := 3) rfl
                  have HNT2 := Lib.hid (show nT + 1 = (sel bays bay (i + 1)).length from by rw [HS2.out, List.length_append, ← HNT.out]; rfl)
                  have HST10 := Lib.hid hst10
                  by_cases k0 : kl = 0
                  · have d0 : decide ((kl : Int) > 0) = false := by simp [k0]
                    have d1 : decide (0 < (kl : Int)) = false := by simp [k0]
                    have d2 : decide (0 < kl) = false := by simp [k0]
                    have HKE := Lib.hid (show cutK K bays bay (i + 1) = cutK K bays bay i from by unfold cutK; rw [if_pos (by rw [← HKL.out]; exact k0), if_pos (by rw [← HKL.out]; exact k0)])
                    clear hst10 hX10 hr10 hK10 t1 t1' k0
                    go_wp2
                    go_roundw
                    case rel => exact ⟨i + 1, nT + 1, nK, vT2, vK, by omega, by go_num, HNT2.out, by rw [HKE.out]; exact HNK.out, by omega, by rw [HKE.out]; exact HST10.out⟩
                    case measure => simp [intOf]; omega
                  · have hkl : kl = 3 * bl := HKLB.out.resolve_left k0
                    have d0 : decide ((kl : Int) > 0) = true := by simp; omega
                    have d1 : decide (0 < (kl : Int)) = true := by simp; omega
                    have d2 : decide (0 < kl) = true := by simp; omega
                    have hkc := HKC.out
                    obtain ⟨kb, koff, kx, hE, hkx, hck0, hkbl, -⟩ := hK10.get (Nat.le_refl _) (Below.refl _ _) (i := i0') (by rw [← HKL.out]; omega)
                    subst hE
                    have HKX := Lib.hid (show ∀ t, t < 3 → X10.cell? ⟨kb, koff + (i0' + t), none⟩ = some (.int .i64 (I! K (i0' + t))) from fun t ht => by
                      obtain ⟨kb', koff', kx', hE, hkx', hck', -, -⟩ := hK10.get (Nat.le_refl _) (Below.refl _ _) (i := i0' + t) (by rw [← HKL.out]; omega)
                      cases hE
                      rw [hkx'.out]
                      exact hck')
                    have HKE := Lib.hid (show cutK K bays bay (i + 1) = cutK K bays bay i ++ [I! K i0', I! K (i0' + 1), I! K (i0' + 2)] from by
                      have hne : ¬ K.length = 0 := by rw [← HKL.out]; exact k0
                      unfold cutK
                      rw [if_neg hne, if_neg hne, HS2.out, List.flatMap_append, show i0' = 3 * i from HI0.out.symm]
                      simp)
                    obtain ⟨i3', hi3⟩ : ∃ a, a = i0' + 3 := ⟨_, rfl⟩
                    have s3 : (i0' : Int) + 3 = (i3' : Int) := by omega
                    have s4 : i3' ≤ kcap := by omega
                    have s5 : i0' ≤ i3' := by omega
                    have s6 : i3' - i0' = 3 := by omega
                    have s7 : ¬ kcap = i0' := by omega
                    have wr3 : IntKind.i64.wrap (i3' : Int) = (i3' : Int) := wrapN _ (by omega)
                    have t3 := hst10.row.cell (i := 3) (v := vK) rfl
                    have HOK2 := Lib.hid (hst10.rows.own ⟨3, 1, vK, nK, ic (cutK K bays bay i)⟩ (by simp))
                    have hmx10 := hst10.mx
                    clear hst10 hX10 hr10 hK10 t1 t1' k0 hck0 hi3 hkl
                    go_upto_region 36 with fail
                    go_still_tail 11, (by kernel_rfl)
                    change wpList _ _ _ _ _ X10.drew
                    obtain ⟨Y, hY⟩ : ∃ Y, Y = X10.drew := ⟨_, rfl⟩
                    rw [← hY]
                    have HSTY := Lib.hid (show CSt W9 Y W5.heap.size W7.heap.size W9.heap.size 63 [.int .i64 (j : Int), vT2, vP, vK, vV, vR] j (numC F j) [⟨49, 3, vT2, nT + 1, tcells (cutT bays bay L F (i + 1))⟩, ⟨3, 1, vK, nK, ic (cutK K bays bay i)⟩] from by rw [hY]; exact HST10.out.drew)
                    have HKY := Lib.hid (show ∀ t, t < 3 → Y.cell? ⟨kb, koff + (i0' + t), none⟩ = some (.int .i64 (I! K (i0' + t))) from fun t ht => by rw [hY]; exact HKX.out t ht)
                    have hmy := HSTY.out.mx
                    have HOKY := Lib.hid (HSTY.out.rows.own ⟨3, 1, vK, nK, ic (cutK K bays bay i)⟩ (by simp))
                    have HNEWS := Lib.hid (show ∀ (t : Nat) (u : Value), ([.int .i64 (I! K i0'), .int .i64 (I! K (i0' + 1)), .int .i64 (I! K (i0' + 2))] : List Value)[t]? = some u → Y.cell? ((⟨kb, koff + i0', none⟩ : Addr).add t) = some u from fun t u hu => by
                      have hadd : (⟨kb, koff + i0', none⟩ : Addr).add t = ⟨kb, koff + i0' + t, none⟩ := by unfold Addr.add; split <;> simp_all
                      have ht : t < 3 := by have := (List.getElem?_eq_some_iff.1 hu).1; simpa using this
                      rw [hadd, Nat.add_assoc, HKY.out t ht]
                      match t, ht, hu with
                      | 0, _, hu => exact hu
                      | 1, _, hu => exact hu
                      | 2, _, hu => exact hu)
                    clear hY b3 t3 hmx10
                    go_wp2_with (at_builtin; refine wpList_append_lies _ rfl _ _ 25 rfl W9.heap.size 3 i0 (.int .i64 0) 1 8 (by kernel_rfl) hi hz0 hz1 hz2 rfl (by decide) vK nK (ic (cutK K bays bay i)) rfl HOKY.out ⟨kb, koff + i0', none⟩ 3 _ [.int .i64 (I! K i0'), .int .i64 (I! K (i0' + 1)), .int .i64 (I! K (i0' + 2))] rfl rfl HNEWS.out (by intro u hu; simp at hu; rcases hu with rfl | rfl | rfl <;> rfl) (by decide) (by unfold maxLen; omega) (by omega) (by first | exact hmy | omega) _ rfl ?_)
                    intro g3 cap3 X11 hown11 hgr11 hat11 hlt11
                    have HST11 := Lib.hid (HSTY.out.push 1 ⟨3, 1, vK, nK, ic (cutK K bays bay i)⟩ rfl hown11 hgr11 (hat11.imp id fun e => by omega))
                    have k3 := HST11.out.row.cell (i := 3) (v := vK) rfl
                    have l3 := HST11.out.row.free 3
                    clear hown11 hgr11 hat11 hlt11
                    go_wp2
                    go_roundw
                    case rel =>
                      refine ⟨i + 1, nT + 1, nK + 3, vT2, .slice (some ⟨g3, 0, none⟩) (nK + 3) cap3, by omega, by go_num, HNT2.out, by rw [HKE.out, List.length_append, ← HNK.out]; rfl, by omega, ?_⟩
                      have := HST11.out.store 3 (.slice (some ⟨g3, 0, none⟩) (nK + 3) cap3)
                      rw [show ic (cutK K bays bay (i + 1)) = ic (cutK K bays bay i) ++ [.int .i64 (I! K i0'), .int .i64 (I! K (i0' + 1)), .int .i64 (I! K (i0' + 2))] from by rw [HKE.out]; simp [ic]]
                      first | exact this | exact this.drew
                    case measure => simp [intOf]; omega
              · obtain rfl : i = bl := by omega
                have HB9 := Lib.hid hbwX
                obtain ⟨aT, cT, rfl⟩ : ∃ a c, vT = .slice a nT c := owns_slice (hst.rows.own ⟨49, 3, vT, nT, tcells (cutT bays bay L F i)⟩ (by simp))
                obtain ⟨aK, cK, rfl⟩ : ∃ a c, vK = .slice a nK c := owns_slice (hst.rows.own ⟨3, 1, vK, nK, ic (cutK K bays bay i)⟩ (by simp))
                have hst9 := HST9.out
                obtain ⟨aP, cP, rfl⟩ : ∃ a c, vP = .slice a j c := owns_slice (hst9.rows.own ⟨108, 3, vP, j, tcells (cutP P T F)⟩ (by simp))
                obtain ⟨aV, cV, rfl⟩ : ∃ a c, vV = .slice a j c := owns_slice (hst9.rows.own ⟨3, 1, vV, j, ic (cutV T F)⟩ (by simp))
                obtain ⟨aR, cR, rfl⟩ : ∃ a c, vR = .slice a j c := owns_slice (hst9.rows.own ⟨3, 1, vR, j, ic (cutR T bays n F)⟩ (by simp))
                clear hst9
                have hr1 := HR1Z.out X hX5
                have z0 := hr1.cell (i := 0) rfl
                have z1 := hr1.cell (i := 1) rfl
                have z2 := hr1.cell (i := 2) rfl
                have z3 := hr1.cell (i := 3) rfl
                have z4 := hr1.cell (i := 4) rfl
                have z5 := hr1.cell (i := 5) rfl
                have zf := hr1.free
                have p0 := hst.row.cell (i := 0) rfl
                have p1 := hst.row.cell (i := 1) (v := .slice aT nT cT) rfl
                have p2 := hst.row.cell (i := 2) (v := .slice aP j cP) rfl
                have p3 := hst.row.cell (i := 3) (v := .slice aK nK cK) rfl
                have p4 := hst.row.cell (i := 4) (v := .slice aV j cV) rfl
                have p5 := hst.row.cell (i := 5) (v := .slice aR j cR) rfl
                have HST := Lib.hid hst
                have HR1F := Lib.hid hr1
                have HNT := Lib.hid hnT
                have HNK := Lib.hid hnK
                clear hst hr6 hby6 hK6 hS6 hbwX hX5 hr1 hnT hnK
                go_wp2
                have hgF := grown_set6 X (w.heap.size + 1) (.int .i64 (j : Int)) (.slice aT nT cT) (.slice aP j cP) (.slice aK nK cK) (.slice aV j cV) (.slice aR j cR)
                have HF := Lib.hid (cut_done (b := w.heap.size + 1) HST.out HST9.out HNT.out HNK.out HFL.out HL.out hgF (by have := HSZWB.out; omega))
                have hRF := (((((HR1F.out.set 0 (.int .i64 (j : Int))).set 1 (.slice aT nT cT)).set 2 (.slice aP j cP)).set 3 (.slice aK nK cK)).set 4 (.slice aV j cV)).set 5 (.slice aR j cR)
                have y0 := hRF.cell (i := 0) (v := .int .i64 (j : Int)) rfl
                have y1 := hRF.cell (i := 1) (v := .slice aT nT cT) rfl
                have y2 := hRF.cell (i := 2) (v := .slice aP j cP) rfl
                have y3 := hRF.cell (i := 3) (v := .slice aK nK cK) rfl
                have y4 := hRF.cell (i := 4) (v := .slice aV j cV) rfl
                have y5 := hRF.cell (i := 5) (v := .slice aR j cR) rfl
                have HBF := Lib.hid (HB9.out.grown hgF (by have := HB9.out.size; omega) (fun q hq => by cases hq; omega))
                obtain ⟨YF, hYF⟩ : ∃ Y, Y = (((((X.setCell ⟨w.heap.size + 1, 0, none⟩ (.int .i64 (j : Int))).setCell ⟨w.heap.size + 1, 1, none⟩ (.slice aT nT cT)).setCell ⟨w.heap.size + 1, 2, none⟩ (.slice aP j cP)).setCell ⟨w.heap.size + 1, 3, none⟩ (.slice aK nK cK)).setCell ⟨w.heap.size + 1, 4, none⟩ (.slice aV j cV)).setCell ⟨w.heap.size + 1, 5, none⟩ (.slice aR j cR) := ⟨_, rfl⟩
                rw [← hYF] at HF HBF y0 y1 y2 y3 y4 y5
                have HFIN := Lib.hid (show CutPost n T P K bays bay w (.returned (.tuple #[.agg #[.int .i64 (j : Int), .slice aT nT cT, .slice aP j cP, .slice aK nK cK, .slice aV j cV, .slice aR j cR], .int .i64 0])) YF from by
                  obtain ⟨a1, a2, a3, a4, a5, c1, c2, c3, c4, c5, ⟨x1, x2, x3, x4, x5⟩, e1, h1, e2, h2, e3, h3, e4, h4, e5, h5⟩ := HF.out
                  refine ⟨.inr ⟨HIN.out, L, F, aT, aP, aK, aV, aR, cT, cP, cK, cV, cR, nT, j, nK, j, j, HCI.out, by rw [HFL.out], ?_, ?_⟩, HBF.out⟩
                  all_goals simp only [Value.slice.injEq] at e1 e2 e3 e4 e5
                  · exact ⟨fun p hp => Nat.le_of_succ_le (x1 p (e1.1.symm.trans hp)), fun p hp => Nat.le_of_succ_le (x2 p (e2.1.symm.trans hp)), fun p hp => Nat.le_of_succ_le (x3 p (e3.1.symm.trans hp)), fun p hp => Nat.le_of_succ_le (x4 p (e4.1.symm.trans hp)), fun p hp => Nat.le_of_succ_le (x5 p (e5.1.symm.trans hp))⟩
                  exact ⟨e1.2.1, by rw [e1.1]; exact h1, e2.2.1, by rw [e2.1]; exact h2, e3.2.1, by rw [e3.1]; exact h3, e4.2.1, by rw [e4.1]; exact h4, e5.2.1, by rw [e5.1]; exact h5⟩)
                rw [← hYF]
                clear HF HBF hgF hRF hYF p0 p1 p2 p3 p4 p5 z0 z1 z2 z3 z4 z5 zf
                exact bodyPost_ret (v := .tuple #[.agg #[.int .i64 (j : Int), .slice aT nT cT, .slice aP j cP, .slice aK nK cK, .slice aV j cV, .slice aR j cR], .int .i64 0]) (by simp [results, Tryz.results37, go_sem, y0, y1, y2, y3, y4, y5]) rfl HFIN.out
end Go.Proofs.YtfbpjlfimmjieaaGreat

/- The layout of slices.SortFunc at api.Edge. slices.SortFunc of edges, by any comparison of both ends. -/
import Derived.Test.YtkjamheoihlekaaGreatShelf
import Derived.Shelf.SlSortCmp.WholeK
import Derived.Test.YtkjamheoihlekaaGreatPairBase
namespace Go.Proofs.YtkjamheoihlekaaGreat
set_option linter.unusedVariables false
set_option linter.unusedSimpArgs false
open Go.RowKit Go.Maps
open Go.RowKit Go.Shelf
open Go.RowKit Go.Lib Go.Sort
open Go.RowKit
def laysSortE_ren : Go.Shelf.Ren := ⟨fun | 6 => 86 | 15 => 97 | 14 => 108 | 28 => 119 | 29 => 120 | 20 => 134 | 21 => 135 | 22 => 136 | 23 => 137 | 24 => 138 | 25 => 139 | 26 => 140 | 27 => 141 | 46 => 161 | 47 => 152 | 48 => 153 | 49 => 162 | 50 => 163 | 57 => 176 | n => n, fun | 22 => 34 | 24 => 40 | 25 => 81 | 3 => 3 | 39 => 127 | 0 => 0 | 53 => 150 | 55 => 152 | 4 => 4 | 46 => 144 | 45 => 143 | 50 => 128 | 5 => 5 | 9 => 9 | 66 => 173 | 70 => 177 | 76 => 188 | 77 => 189 | n => n, fun | n => n⟩
theorem laysSortE : Go.Proofs.SlLaysF0.n6 Tryz.prog laysSortE_ren := {
  mixed := by kernel_rfl
  f6 := ⟨Tryz.f86.name, by decide, Tryz.func86.trans (congrArg some (by kernel_rfl))⟩
  f14 := ⟨Tryz.f108.name, by decide, Tryz.func108.trans (congrArg some (by kernel_rfl))⟩
  f15 := Tryz.func97.trans (congrArg some (by kernel_rfl))
  f20 := ⟨Tryz.f134.name, by decide, Tryz.func134.trans (congrArg some (by kernel_rfl))⟩
  f21 := ⟨Tryz.f135.name, by decide, Tryz.func135.trans (congrArg some (by kernel_rfl))⟩
  f22 := ⟨Tryz.f136.name, by decide, Tryz.func136.trans (congrArg some (by kernel_rfl))⟩
  f23 := ⟨Tryz.f137.name, by decide, Tryz.func137.trans (congrArg some (by kernel_rfl))⟩
  f24 := ⟨Tryz.f138.name, by decide, Tryz.func138.trans (congrArg some (by kernel_rfl))⟩
  f25 := ⟨Tryz.f139.name, by decide, Tryz.func139.trans (congrArg some (by kernel_rfl))⟩
  f26 := ⟨Tryz.f140.name, by decide, Tryz.func140.trans (congrArg some (by kernel_rfl))⟩
  f27 := ⟨Tryz.f141.name, by decide, Tryz.func141.trans (congrArg some (by kernel_rfl))⟩
  f28 := Tryz.func119.trans (congrArg some (by kernel_rfl))
  f29 := Tryz.func120.trans (congrArg some (by kernel_rfl))
  f46 := ⟨Tryz.f161.name, by decide, Tryz.func161.trans (congrArg some (by kernel_rfl))⟩
  f47 := Tryz.func152.trans (congrArg some (by kernel_rfl))
  f48 := Tryz.func153.trans (congrArg some (by kernel_rfl))
  f49 := ⟨Tryz.f162.name, by decide, Tryz.func162.trans (congrArg some (by kernel_rfl))⟩
  f50 := ⟨Tryz.f163.name, by decide, Tryz.func163.trans (congrArg some (by kernel_rfl))⟩
  f57 := ⟨Tryz.f176.name, by decide, Tryz.func176.trans (congrArg some (by kernel_rfl))⟩
  t0 := Tryz.underlying0
  a0 := Tryz.isAgg0
  z0 := Tryz.sizeOf0
  v0 := Tryz.zeroValue0
  t3 := Tryz.underlying3
  a3 := Tryz.isAgg3
  z3 := Tryz.sizeOf3
  v3 := Tryz.zeroValue3
  t4 := Tryz.underlying4
  a4 := Tryz.isAgg4
  z4 := Tryz.sizeOf4
  v4 := Tryz.zeroValue4
  t5 := Tryz.underlying5
  a5 := Tryz.isAgg5
  z5 := Tryz.sizeOf5
  v5 := Tryz.zeroValue5
  t9 := Tryz.underlying9
  a9 := Tryz.isAgg9
  z9 := Tryz.sizeOf9
  v9 := Tryz.zeroValue9
  t22 := Tryz.underlying34
  a22 := Tryz.isAgg34
  z22 := Tryz.sizeOf34
  v22 := Tryz.zeroValue34
  t25 := Tryz.underlying81
  a25 := Tryz.isAgg81
  z25 := Tryz.sizeOf81
  v25 := Tryz.zeroValue81
  t39 := Tryz.underlying127
  a39 := Tryz.isAgg127
  z39 := Tryz.sizeOf127
  v39 := Tryz.zeroValue127
  t45 := Tryz.underlying143
  a45 := Tryz.isAgg143
  z45 := Tryz.sizeOf143
  v45 := Tryz.zeroValue143
  t46 := Tryz.underlying144
  a46 := Tryz.isAgg144
  z46 := Tryz.sizeOf144
  v46 := Tryz.zeroValue144
  t50 := Tryz.underlying128
  a50 := Tryz.isAgg128
  z50 := Tryz.sizeOf128
  v50 := Tryz.zeroValue128
  t53 := Tryz.underlying150
  a53 := Tryz.isAgg150
  z53 := Tryz.sizeOf150
  v53 := Tryz.zeroValue150
  t55 := Tryz.underlying152
  a55 := Tryz.isAgg152
  z55 := Tryz.sizeOf152
  v55 := Tryz.zeroValue152
  t66 := Tryz.underlying173
  a66 := Tryz.isAgg173
  z66 := Tryz.sizeOf173
  v66 := Tryz.zeroValue173
  t70 := Tryz.underlying177
  a70 := Tryz.isAgg177
  z70 := Tryz.sizeOf177
  v70 := Tryz.zeroValue177
  t76 := Tryz.underlying188
  a76 := Tryz.isAgg188
  z76 := Tryz.sizeOf188
  v76 := Tryz.zeroValue188
  t77 := Tryz.underlying189
  a77 := Tryz.isAgg189
  z77 := Tryz.sizeOf189
  v77 := Tryz.zeroValue189 }
theorem or_cmpP (x y : Int × Int) : orI (Lib.compareInt x.1 y.1) (Lib.compareInt x.2 y.2) = cmpP x y := by
  unfold orI cmpP
  by_cases h : Lib.compareInt x.1 y.1 = 0 <;> simp [h]
/-- A function that compares edges by both ends. -/
def CmpE (K : Nat) : Prop := ∀ (a0 a1 b0 b1 : Int) (w : World), Calls Tryz.prog K #[.agg #[.int .i64 a0, .int .i64 a1], .agg #[.int .i64 b0, .int .i64 b1]] w fun e w' => e = .returned (.int .i64 (cmpP (a0, a1) (b0, b1))) ∧ Gr w w'
theorem sort_edges (K : Nat) (hK : CmpE K) (hE : ∀ args w, (callFunc K args).run Tryz.prog w = .ok (.enter K args) w) (w : World) (base : Nat) (v : Value) (L : List (Int × Int)) (hL : L.length ≤ 1000000000) (hown : w.ownsRow base 40 2 v L.length (ecells L)) :
    Calls Tryz.prog 86 #[v, .func (.func K) #[] #[]] w fun e w' => e = .returned (.tuple #[]) ∧
      ∃ ao cap, v = .slice ao L.length cap ∧ EdgesAt w' ao (sortP L) ∧ Below base w w' := by
  by_cases h0 : L = []
  · subst h0
    obtain ⟨ao, cap, rfl, hE⟩ := owns_edges hown
    refine (Go.Proofs.AnyF.slices_SortFunc_none laysSortE ao cap _ w).mono fun e w' ⟨he, hw⟩ => ⟨he, ao, cap, rfl, ?_, ?_⟩
    · exact fun hne => absurd (List.length_eq_zero_iff.1 (by rw [sortP_length]; rfl)) hne
    · rw [hw]; exact Below.refl _ _
  have hpos := List.length_pos_iff.2 h0
  obtain ⟨gf, capf, rfl, hbg, hgl, -, -, hcl, hfr⟩ := owns_block hown hpos
  have hH : HoldsK encP 2 w gf 0 L.toArray := fun j hj => by
    simp at hj
    rw [Nat.zero_add]
    exact ⟨hcl j _ (flat_getP hj), hfr j⟩
  have hcmp : Go.Proofs.CmpLays Tryz.prog K #[] encP 2 cmpP gf 0 L.toArray.size w := fun m os dk _ x y => by
    have := hK x.1 x.2 y.1 y.2 (Go.Proofs.sortWorldK encP 2 w gf 0 m dk os)
    exact this.mono fun e w' ⟨h1, q, os', h2⟩ => ⟨h1, q, os', h2⟩
  have hs := Go.Proofs.AnyQ.slices_SortFunc_total laysSortE 2 Tryz.isAgg40 Tryz.sizeOf40 encP (fun _ => rfl) (fun x v hv => by simp [encP] at hv; rcases hv with rfl | rfl <;> rfl) cmpP swo_cmpP K #[] gf 0 capf L.toArray w hE hcmp hH hgl (by simp; omega) tot_cmpP
  have e0 : L.toArray.size = L.length := by simp
  rw [e0] at hs
  refine Calls.mono hs fun e w' ⟨he, n, os, hw⟩ => ⟨he, some ⟨gf, 0, none⟩, capf, rfl, ?_, ?_⟩
  · have hw : w' = Go.Proofs.sortWorldK encP 2 w gf 0 n (sortP L).toArray os := hw
    rw [hw]
    have hd : (sortP L).toArray.size = L.toArray.size := by simp [sortP_length]
    have hg := grown_sortK' w gf 0 n (sortP L).toArray os hgl
    have hh := Go.Proofs.holdsK_sortWorldK_c encP 2 w gf 0 L.toArray (sortP L).toArray n os hH hgl hd
    refine fun _ => ⟨gf, 0, rfl, by have := hg.size; omega, fun i hi => ?_⟩
    have get : ∀ q, q < 2 → (Go.Proofs.sortWorldK encP 2 w gf 0 n (sortP L).toArray os).cell? ⟨gf, 0 + (i * 2 + q), none⟩ = (ecells (sortP L))[i * 2 + q]? := fun q hq => by
      have := (hh (i * 2 + q) (by simp; omega)).1
      rw [this, flat_get2 hi hq]; rfl
    have g := ecells_get (sortP L) i hi
    exact ⟨by rw [← Nat.add_zero (i * 2), get 0 (by omega)]; exact g.1, by rw [Nat.add_assoc, get 1 (by omega)]; exact g.2⟩
  · rw [hw]
    have := grown_sortK' w gf 0 n (List.mergeSort L.toArray.toList fun x y => !(Go.Proofs.ltOf cmpP) y x).toArray os hgl
    exact ⟨this.1, this.2, this.3, this.4, fun j hj => this.5 j (by omega)⟩
end Go.Proofs.YtkjamheoihlekaaGreat

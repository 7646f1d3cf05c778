/- chart.Surface of a chart whose numbers and sides are known: its surface, its old vertices. -/
import Derived.Test.YtfbpjlfimmjieaaGreatChartSort
import Derived.Test.YtfbpjlfimmjieaaGreatChartPick
namespace Go.Proofs.YtfbpjlfimmjieaaGreat
set_option linter.unusedVariables false
set_option linter.unusedSimpArgs false
open Go.RowKit
theorem Piece.sameC {A : Nat → Nat → Prop} {T : List Tr} {bays : List Int} {bay : Int} {L L' : Nat → Int} {F F' : List Nat} (h : Piece A T bays bay L F) (g : Piece A T bays bay L' F') : F = F' ∧ cutT bays bay L F T.length = cutT bays bay L' F' T.length := by
  have e := h.least.unique g.least h.inb
  have eF : F = F' := by
    have hr := reps_congr (bays := bays) (bay := bay) e
    exact (h.perm.trans (hr ▸ g.perm.symm)).eq_of_pairwise (le := fun a b => ¬ ltC T b a) (fun a b _ _ h1 h2 => by unfold ltC at h1 h2; omega) h.sorted g.sorted
  subst eF
  exact ⟨rfl, cutT_congr e⟩
theorem kshell_oneC {T : List Tr} {K : List Int} {M M' : Nat → Int} (h : IsShells (KAdj T K) T.length M) (g : IsShells (KAdj T K) T.length M') : ∀ i, i < T.length → M i = M' i :=
  h.same g (fun i j hi hj a => g.clo i j hi hj a) (fun i j hi hj a => h.clo i j hi hj a) (fun i j _ a => (kadj_in _ _ a).2) (fun i j _ a => (kadj_in _ _ a).1) (fun i j _ a => (kadj_in _ _ a).2) (fun i j _ a => (kadj_in _ _ a).1)
theorem csurf_yesC {M L : Nat → Int} {F : List Nat} (n : Nat) (ao : Option Addr) (cap : Nat) (T : List Tr) (ko : Option Addr) (kc : Nat) (K : List Int) (k : Int) (w : World) (hT : TrisAt w ao T) (hs : Surf n T) (hK : IntsAt w ko K) (hkl : K.length = 3 * T.length)
    (hM : IsShells (KAdj T K) T.length M) (hp : Piece (KSAdj T K) T (mL M T.length) k L F) (hne : sel (mL M T.length) k T.length ≠ []) :
    Calls Tryz.prog 20 #[.agg #[.int .i64 (n : Int), .slice ao T.length cap], .slice ko K.length kc, .int .i64 k] w fun e w' => ∃ a1 a2 a3 c1 c2 c3,
      e = .returned (.tuple #[.agg #[.int .i64 (F.length : Int), .slice a1 (cutT (mL M T.length) k L F T.length).length c1], .slice a2 F.length c2, .slice a3 (sel (mL M T.length) k T.length).length c3, .int .i64 0]) ∧
      TrisAt w' a1 (cutT (mL M T.length) k L F T.length) ∧ IntsAt w' a2 (cutV T F) ∧ IntsAt w' a3 (nl (sel (mL M T.length) k T.length)) ∧ Below w.heap.size w w' :=
  (csurf_ok n ao cap T ko kc K k w hT hs hK hkl).mono fun e w' h => by
    obtain ⟨⟨M', hM', h⟩, hb⟩ := h
    rw [mL_congr (kshell_oneC hM' hM)] at h
    rcases h with ⟨h0, -⟩ | ⟨-, L', F', a1, a2, a3, c1, c2, c3, hp', rfl, h1, h2, h3, -⟩
    · exact absurd h0 hne
    · obtain ⟨rfl, e2⟩ := hp'.sameC hp
      rw [e2] at h1 ⊢
      exact ⟨a1, a2, a3, c1, c2, c3, rfl, h1, h2, h3, hb⟩
end Go.Proofs.YtfbpjlfimmjieaaGreat

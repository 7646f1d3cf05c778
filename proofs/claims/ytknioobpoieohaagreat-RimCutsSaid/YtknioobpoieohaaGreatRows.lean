/-
  No cell of these rows narrows 'for every input' (looked for: loops, veiled, ifaces, maps, wideKeys, modest, calm, conditions, laid).
  DERIVED. THE GIVEN ROWS OF THIS SEAT. 5 by the template 'for every input the law returns true; each argument reads behind the call as it read before'; 0 by the template 'total and deterministic' (their statements: YtknioobpoieohaaGreatTotals.lean).
  GIVEN WITH THE SEED: the statements are not yours to turn. If you find one false, say at which input.
  Laid BY PROGRAM, IN A SANDBOX (cutbox-rows.mjs): the forced cells as the released guide's own fill.sh prints them over the translation d77fa9feb44ef980… (all of the seat's roots in one cut). By AI agents, Wed Nov 11 2026. No macro, syntax, notation, axiom, sorry.
-/
import Derived.Test.YtknioobpoieohaaGreatChecked
import GoSem.Claim
import GoSem.ClaimJoined
import GoSem.ClaimMapViews
import Derived.JoinedTies
import Derived.KernelRfl
namespace Go.Proofs.YtknioobpoieohaaGreat
/- THE CELL 'sum', in the pinned program and in every row, IS THE sha256 OF THE DUMP (.gsa) THAT YtknioobpoieohaaGreatProg.lean LOADS. Nothing in Lean hashes anything: it is a label: what it is worth is what the hold of that sum in a sandbox is worth. -/
noncomputable def Tryz.pinned : Pinned := { name := "ytknioobpoieohaagreat", sum := "d77fa9feb44ef98023fd36a5cd46022bd718a1d8e7d3dbc4bac0eb25d1da7f09", checked := Tryz.checked }
namespace Rows
def none {H : Type} : Left H := { results := [], args := [] }

/-- 'gypsumlaw40.RimCuts': WHATEVER THE INPUT: true; the input reads as it did. -/
def rimCutsSpec : ChangeSpec := { name := "rimCuts", fn := fun _ => fun
  | [d1, d2, d3] => { results := [.lit (.bool true)], args := [d1, d2, d3] }
  | _ => none }
def rimCutsRow : OpenClaim := { program := "ytknioobpoieohaagreat", sum := "d77fa9feb44ef98023fd36a5cd46022bd718a1d8e7d3dbc4bac0eb25d1da7f09", func := "gypsum/gypsumlaw40.RimCuts", spec := "rimCuts", unfollowed := true, recurses := true, plainKeys := false, apart := false }
def RimCutsSaid : Prop := rimCutsRow.holds Tryz.pinned (OpenSpec.ofChange rimCutsSpec)

/-- ITS FALSE NEIGHBOUR: 'it returns false'. Refute it at one input. -/
def rimCutsWrong : ChangeSpec := { name := "rimCuts", fn := fun _ => fun
  | [d1, d2, d3] => { results := [.lit (.bool false)], args := [d1, d2, d3] }
  | _ => none }
def RimCutsWrongFalsely : Prop := rimCutsRow.holds Tryz.pinned (OpenSpec.ofChange rimCutsWrong)

/-- 'gypsumlaw40.RimBorders': WHATEVER THE INPUT: true; the input reads as it did. -/
def rimBordersSpec : ChangeSpec := { name := "rimBorders", fn := fun _ => fun
  | [d1, d2, d3] => { results := [.lit (.bool true)], args := [d1, d2, d3] }
  | _ => none }
def rimBordersRow : OpenClaim := { program := "ytknioobpoieohaagreat", sum := "d77fa9feb44ef98023fd36a5cd46022bd718a1d8e7d3dbc4bac0eb25d1da7f09", func := "gypsum/gypsumlaw40.RimBorders", spec := "rimBorders", unfollowed := true, recurses := true, plainKeys := false, apart := false }
def RimBordersSaid : Prop := rimBordersRow.holds Tryz.pinned (OpenSpec.ofChange rimBordersSpec)

/-- ITS FALSE NEIGHBOUR: 'it returns false'. Refute it at one input. -/
def rimBordersWrong : ChangeSpec := { name := "rimBorders", fn := fun _ => fun
  | [d1, d2, d3] => { results := [.lit (.bool false)], args := [d1, d2, d3] }
  | _ => none }
def RimBordersWrongFalsely : Prop := rimBordersRow.holds Tryz.pinned (OpenSpec.ofChange rimBordersWrong)

/-- 'gypsumlaw40.RimOf': WHATEVER THE INPUT: true; the input reads as it did. -/
def rimOfSpec : ChangeSpec := { name := "rimOf", fn := fun _ => fun
  | [d1, d2] => { results := [.lit (.bool true)], args := [d1, d2] }
  | _ => none }
def rimOfRow : OpenClaim := { program := "ytknioobpoieohaagreat", sum := "d77fa9feb44ef98023fd36a5cd46022bd718a1d8e7d3dbc4bac0eb25d1da7f09", func := "gypsum/gypsumlaw40.RimOf", spec := "rimOf", unfollowed := true, recurses := true, plainKeys := false, apart := false }
def RimOfSaid : Prop := rimOfRow.holds Tryz.pinned (OpenSpec.ofChange rimOfSpec)

/-- ITS FALSE NEIGHBOUR: 'it returns false'. Refute it at one input. -/
def rimOfWrong : ChangeSpec := { name := "rimOf", fn := fun _ => fun
  | [d1, d2] => { results := [.lit (.bool false)], args := [d1, d2] }
  | _ => none }
def RimOfWrongFalsely : Prop := rimOfRow.holds Tryz.pinned (OpenSpec.ofChange rimOfWrong)

/-- 'gypsumlaw40.RimOne': WHATEVER THE INPUT: true; the input reads as it did. -/
def rimOneSpec : ChangeSpec := { name := "rimOne", fn := fun _ => fun
  | [d1, d2, d3] => { results := [.lit (.bool true)], args := [d1, d2, d3] }
  | _ => none }
def rimOneRow : OpenClaim := { program := "ytknioobpoieohaagreat", sum := "d77fa9feb44ef98023fd36a5cd46022bd718a1d8e7d3dbc4bac0eb25d1da7f09", func := "gypsum/gypsumlaw40.RimOne", spec := "rimOne", unfollowed := true, recurses := true, plainKeys := false, apart := false }
def RimOneSaid : Prop := rimOneRow.holds Tryz.pinned (OpenSpec.ofChange rimOneSpec)

/-- ITS FALSE NEIGHBOUR: 'it returns false'. Refute it at one input. -/
def rimOneWrong : ChangeSpec := { name := "rimOne", fn := fun _ => fun
  | [d1, d2, d3] => { results := [.lit (.bool false)], args := [d1, d2, d3] }
  | _ => none }
def RimOneWrongFalsely : Prop := rimOneRow.holds Tryz.pinned (OpenSpec.ofChange rimOneWrong)

/-- 'gypsumlaw40.RimCharts': WHATEVER THE INPUT: true; the input reads as it did. -/
def rimChartsSpec : ChangeSpec := { name := "rimCharts", fn := fun _ => fun
  | [d1, d2] => { results := [.lit (.bool true)], args := [d1, d2] }
  | _ => none }
def rimChartsRow : OpenClaim := { program := "ytknioobpoieohaagreat", sum := "d77fa9feb44ef98023fd36a5cd46022bd718a1d8e7d3dbc4bac0eb25d1da7f09", func := "gypsum/gypsumlaw40.RimCharts", spec := "rimCharts", unfollowed := true, recurses := true, plainKeys := false, apart := false }
def RimChartsSaid : Prop := rimChartsRow.holds Tryz.pinned (OpenSpec.ofChange rimChartsSpec)

/-- ITS FALSE NEIGHBOUR: 'it returns false'. Refute it at one input. -/
def rimChartsWrong : ChangeSpec := { name := "rimCharts", fn := fun _ => fun
  | [d1, d2] => { results := [.lit (.bool false)], args := [d1, d2] }
  | _ => none }
def RimChartsWrongFalsely : Prop := rimChartsRow.holds Tryz.pinned (OpenSpec.ofChange rimChartsWrong)

/- THE SECOND FORM. 'bulk': how many values and letters a reading holds, each counted each time it is reached (what is shared counts as often as it is met; a slice's spare places count too). A statement '..UptoSaid' is the law's where the arguments, and the package variables that the reading takes, are together of bulk at most 1048576: NARROWER than '..Said'. Prove '..Said' where nothing that the law and all that it calls make is longer than what came in: it says more and counts as full. Else prove '..UptoSaid'. A law counts once. -/
mutual
def uptoBulk {H : Type} : DataW H → Nat
  | .lit (.string bytes) => bytes.length + 1
  | .lit _ => 1
  | .nil => 1
  | .ptr d => uptoBulk d + 1
  | .slice elems spare => uptoBulkAll elems + uptoBulkAll spare + 1
  | .agg parts => uptoBulkAll parts + 1
  | .iface _ d => uptoBulk d + 1
  | .map entries => uptoBulkEntries entries + 1
  | .held _ => 1
def uptoBulkAll {H : Type} : List (DataW H) → Nat
  | [] => 0
  | d :: r => uptoBulk d + uptoBulkAll r
def uptoBulkEntries {H : Type} : List (Lit × DataW H) → Nat
  | [] => 0
  | x :: r => uptoBulkEntry x + uptoBulkEntries r
def uptoBulkEntry {H : Type} : Lit × DataW H → Nat
  | (.string bytes, d) => bytes.length + uptoBulk d + 1
  | (_, d) => uptoBulk d + 1
 end
def uptoSmall : (H : Type) → List (DataW H) → Bool := fun _ ds => decide (uptoBulkAll ds ≤ 1048576)
def OpenSpec.upto (s : _root_.Go.ChangeSpec) : _root_.Go.OpenSpec := { _root_.Go.OpenSpec.ofChange s with cond := some uptoSmall }

/-- 'gypsumlaw40.RimCuts', WHERE WHAT IT READS IS OF BULK AT MOST 1048576: true; the input reads as it did. -/
def rimCutsUptoRow : OpenClaim := { program := "ytknioobpoieohaagreat", sum := "d77fa9feb44ef98023fd36a5cd46022bd718a1d8e7d3dbc4bac0eb25d1da7f09", func := "gypsum/gypsumlaw40.RimCuts", spec := "rimCuts", unfollowed := true, recurses := true, plainKeys := false, apart := false, narrowed := true }
def RimCutsUptoSaid : Prop := rimCutsUptoRow.holds Tryz.pinned (OpenSpec.upto rimCutsSpec)

/-- 'gypsumlaw40.RimBorders', WHERE WHAT IT READS IS OF BULK AT MOST 1048576: true; the input reads as it did. -/
def rimBordersUptoRow : OpenClaim := { program := "ytknioobpoieohaagreat", sum := "d77fa9feb44ef98023fd36a5cd46022bd718a1d8e7d3dbc4bac0eb25d1da7f09", func := "gypsum/gypsumlaw40.RimBorders", spec := "rimBorders", unfollowed := true, recurses := true, plainKeys := false, apart := false, narrowed := true }
def RimBordersUptoSaid : Prop := rimBordersUptoRow.holds Tryz.pinned (OpenSpec.upto rimBordersSpec)

/-- 'gypsumlaw40.RimOf', WHERE WHAT IT READS IS OF BULK AT MOST 1048576: true; the input reads as it did. -/
def rimOfUptoRow : OpenClaim := { program := "ytknioobpoieohaagreat", sum := "d77fa9feb44ef98023fd36a5cd46022bd718a1d8e7d3dbc4bac0eb25d1da7f09", func := "gypsum/gypsumlaw40.RimOf", spec := "rimOf", unfollowed := true, recurses := true, plainKeys := false, apart := false, narrowed := true }
def RimOfUptoSaid : Prop := rimOfUptoRow.holds Tryz.pinned (OpenSpec.upto rimOfSpec)

/-- 'gypsumlaw40.RimOne', WHERE WHAT IT READS IS OF BULK AT MOST 1048576: true; the input reads as it did. -/
def rimOneUptoRow : OpenClaim := { program := "ytknioobpoieohaagreat", sum := "d77fa9feb44ef98023fd36a5cd46022bd718a1d8e7d3dbc4bac0eb25d1da7f09", func := "gypsum/gypsumlaw40.RimOne", spec := "rimOne", unfollowed := true, recurses := true, plainKeys := false, apart := false, narrowed := true }
def RimOneUptoSaid : Prop := rimOneUptoRow.holds Tryz.pinned (OpenSpec.upto rimOneSpec)

/-- 'gypsumlaw40.RimCharts', WHERE WHAT IT READS IS OF BULK AT MOST 1048576: true; the input reads as it did. -/
def rimChartsUptoRow : OpenClaim := { program := "ytknioobpoieohaagreat", sum := "d77fa9feb44ef98023fd36a5cd46022bd718a1d8e7d3dbc4bac0eb25d1da7f09", func := "gypsum/gypsumlaw40.RimCharts", spec := "rimCharts", unfollowed := true, recurses := true, plainKeys := false, apart := false, narrowed := true }
def RimChartsUptoSaid : Prop := rimChartsUptoRow.holds Tryz.pinned (OpenSpec.upto rimChartsSpec)

end Rows
end Go.Proofs.YtknioobpoieohaaGreat

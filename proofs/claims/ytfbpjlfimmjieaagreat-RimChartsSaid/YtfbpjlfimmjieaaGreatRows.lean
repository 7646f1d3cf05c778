/-
  No cell of these rows narrows 'for every input' (looked for: loops, veiled, ifaces, maps, wideKeys, modest, calm, conditions, laid).
  DERIVED. THE GIVEN ROWS OF THIS SEAT. 8 by the template 'for every input the law returns true; each argument reads behind the call as it read before'; 0 by the template 'total and deterministic' (their statements: YtfbpjlfimmjieaaGreatTotals.lean).
  GIVEN WITH THE SEED: the statements are not yours to turn. If you find one false, say at which input.
  Laid BY PROGRAM, IN A SANDBOX (cutbox-rows.mjs): the forced cells as the released guide's own fill.sh prints them over the translation 2a00e82bd1bb607a… (all of the seat's roots in one cut). By AI agents, Wed Nov 11 2026. No macro, syntax, notation, axiom, sorry.
-/
import Derived.Test.YtfbpjlfimmjieaaGreatChecked
import GoSem.Claim
import GoSem.ClaimJoined
import GoSem.ClaimMapViews
import Derived.JoinedTies
import Derived.KernelRfl
namespace Go.Proofs.YtfbpjlfimmjieaaGreat
/- THE CELL 'sum', in the pinned program and in every row, IS THE sha256 OF THE DUMP (.gsa) THAT YtfbpjlfimmjieaaGreatProg.lean LOADS. Nothing in Lean hashes anything: it is a label: what it is worth is what the hold of that sum in a sandbox is worth. -/
noncomputable def Tryz.pinned : Pinned := { name := "ytfbpjlfimmjieaagreat", sum := "2a00e82bd1bb607a6edeb8a64d785a4ddb7f974b076797fcd5c62b85e9de2288", checked := Tryz.checked }
namespace Rows
def none {H : Type} : Left H := { results := [], args := [] }

/-- 'gypsumlaw32.ChartOf': WHATEVER THE INPUT: true; the input reads as it did. -/
def chartOfSpec : ChangeSpec := { name := "chartOf", fn := fun _ => fun
  | [d1, d2] => { results := [.lit (.bool true)], args := [d1, d2] }
  | _ => none }
def chartOfRow : OpenClaim := { program := "ytfbpjlfimmjieaagreat", sum := "2a00e82bd1bb607a6edeb8a64d785a4ddb7f974b076797fcd5c62b85e9de2288", func := "gypsum/gypsumlaw32.ChartOf", spec := "chartOf", unfollowed := true, recurses := true, plainKeys := false, apart := false }
def ChartOfSaid : Prop := chartOfRow.holds Tryz.pinned (OpenSpec.ofChange chartOfSpec)

/-- ITS FALSE NEIGHBOUR: 'it returns false'. Refute it at one input. -/
def chartOfWrong : ChangeSpec := { name := "chartOf", fn := fun _ => fun
  | [d1, d2] => { results := [.lit (.bool false)], args := [d1, d2] }
  | _ => none }
def ChartOfWrongFalsely : Prop := chartOfRow.holds Tryz.pinned (OpenSpec.ofChange chartOfWrong)

/-- 'gypsumlaw32.ChartSurface': WHATEVER THE INPUT: true; the input reads as it did. -/
def chartSurfaceSpec : ChangeSpec := { name := "chartSurface", fn := fun _ => fun
  | [d1, d2, d3] => { results := [.lit (.bool true)], args := [d1, d2, d3] }
  | _ => none }
def chartSurfaceRow : OpenClaim := { program := "ytfbpjlfimmjieaagreat", sum := "2a00e82bd1bb607a6edeb8a64d785a4ddb7f974b076797fcd5c62b85e9de2288", func := "gypsum/gypsumlaw32.ChartSurface", spec := "chartSurface", unfollowed := true, recurses := true, plainKeys := false, apart := false }
def ChartSurfaceSaid : Prop := chartSurfaceRow.holds Tryz.pinned (OpenSpec.ofChange chartSurfaceSpec)

/-- ITS FALSE NEIGHBOUR: 'it returns false'. Refute it at one input. -/
def chartSurfaceWrong : ChangeSpec := { name := "chartSurface", fn := fun _ => fun
  | [d1, d2, d3] => { results := [.lit (.bool false)], args := [d1, d2, d3] }
  | _ => none }
def ChartSurfaceWrongFalsely : Prop := chartSurfaceRow.holds Tryz.pinned (OpenSpec.ofChange chartSurfaceWrong)

/-- 'gypsumlaw32.ChartDiscs': WHATEVER THE INPUT: true; the input reads as it did. -/
def chartDiscsSpec : ChangeSpec := { name := "chartDiscs", fn := fun _ => fun
  | [d1, d2] => { results := [.lit (.bool true)], args := [d1, d2] }
  | _ => none }
def chartDiscsRow : OpenClaim := { program := "ytfbpjlfimmjieaagreat", sum := "2a00e82bd1bb607a6edeb8a64d785a4ddb7f974b076797fcd5c62b85e9de2288", func := "gypsum/gypsumlaw32.ChartDiscs", spec := "chartDiscs", unfollowed := true, recurses := true, plainKeys := false, apart := false }
def ChartDiscsSaid : Prop := chartDiscsRow.holds Tryz.pinned (OpenSpec.ofChange chartDiscsSpec)

/-- ITS FALSE NEIGHBOUR: 'it returns false'. Refute it at one input. -/
def chartDiscsWrong : ChangeSpec := { name := "chartDiscs", fn := fun _ => fun
  | [d1, d2] => { results := [.lit (.bool false)], args := [d1, d2] }
  | _ => none }
def ChartDiscsWrongFalsely : Prop := chartDiscsRow.holds Tryz.pinned (OpenSpec.ofChange chartDiscsWrong)

/-- 'gypsumlaw32.ChartSides': WHATEVER THE INPUT: true; the input reads as it did. -/
def chartSidesSpec : ChangeSpec := { name := "chartSides", fn := fun _ => fun
  | [d1, d2] => { results := [.lit (.bool true)], args := [d1, d2] }
  | _ => none }
def chartSidesRow : OpenClaim := { program := "ytfbpjlfimmjieaagreat", sum := "2a00e82bd1bb607a6edeb8a64d785a4ddb7f974b076797fcd5c62b85e9de2288", func := "gypsum/gypsumlaw32.ChartSides", spec := "chartSides", unfollowed := true, recurses := true, plainKeys := false, apart := false }
def ChartSidesSaid : Prop := chartSidesRow.holds Tryz.pinned (OpenSpec.ofChange chartSidesSpec)

/-- ITS FALSE NEIGHBOUR: 'it returns false'. Refute it at one input. -/
def chartSidesWrong : ChangeSpec := { name := "chartSides", fn := fun _ => fun
  | [d1, d2] => { results := [.lit (.bool false)], args := [d1, d2] }
  | _ => none }
def ChartSidesWrongFalsely : Prop := chartSidesRow.holds Tryz.pinned (OpenSpec.ofChange chartSidesWrong)

/-- 'gypsumlaw32.ChartWhole': WHATEVER THE INPUT: true; the input reads as it did. -/
def chartWholeSpec : ChangeSpec := { name := "chartWhole", fn := fun _ => fun
  | [d1, d2] => { results := [.lit (.bool true)], args := [d1, d2] }
  | _ => none }
def chartWholeRow : OpenClaim := { program := "ytfbpjlfimmjieaagreat", sum := "2a00e82bd1bb607a6edeb8a64d785a4ddb7f974b076797fcd5c62b85e9de2288", func := "gypsum/gypsumlaw32.ChartWhole", spec := "chartWhole", unfollowed := true, recurses := true, plainKeys := false, apart := false }
def ChartWholeSaid : Prop := chartWholeRow.holds Tryz.pinned (OpenSpec.ofChange chartWholeSpec)

/-- ITS FALSE NEIGHBOUR: 'it returns false'. Refute it at one input. -/
def chartWholeWrong : ChangeSpec := { name := "chartWhole", fn := fun _ => fun
  | [d1, d2] => { results := [.lit (.bool false)], args := [d1, d2] }
  | _ => none }
def ChartWholeWrongFalsely : Prop := chartWholeRow.holds Tryz.pinned (OpenSpec.ofChange chartWholeWrong)

/-- 'gypsumlaw32.ChartSmooth': WHATEVER THE INPUT: true; the input reads as it did. -/
def chartSmoothSpec : ChangeSpec := { name := "chartSmooth", fn := fun _ => fun
  | [d1, d2] => { results := [.lit (.bool true)], args := [d1, d2] }
  | _ => none }
def chartSmoothRow : OpenClaim := { program := "ytfbpjlfimmjieaagreat", sum := "2a00e82bd1bb607a6edeb8a64d785a4ddb7f974b076797fcd5c62b85e9de2288", func := "gypsum/gypsumlaw32.ChartSmooth", spec := "chartSmooth", unfollowed := true, recurses := true, plainKeys := false, apart := false }
def ChartSmoothSaid : Prop := chartSmoothRow.holds Tryz.pinned (OpenSpec.ofChange chartSmoothSpec)

/-- ITS FALSE NEIGHBOUR: 'it returns false'. Refute it at one input. -/
def chartSmoothWrong : ChangeSpec := { name := "chartSmooth", fn := fun _ => fun
  | [d1, d2] => { results := [.lit (.bool false)], args := [d1, d2] }
  | _ => none }
def ChartSmoothWrongFalsely : Prop := chartSmoothRow.holds Tryz.pinned (OpenSpec.ofChange chartSmoothWrong)

/-- 'gypsumlaw32.ChartSeams': WHATEVER THE INPUT: true; the input reads as it did. -/
def chartSeamsSpec : ChangeSpec := { name := "chartSeams", fn := fun _ => fun
  | [d1, d2] => { results := [.lit (.bool true)], args := [d1, d2] }
  | _ => none }
def chartSeamsRow : OpenClaim := { program := "ytfbpjlfimmjieaagreat", sum := "2a00e82bd1bb607a6edeb8a64d785a4ddb7f974b076797fcd5c62b85e9de2288", func := "gypsum/gypsumlaw32.ChartSeams", spec := "chartSeams", unfollowed := true, recurses := true, plainKeys := false, apart := false }
def ChartSeamsSaid : Prop := chartSeamsRow.holds Tryz.pinned (OpenSpec.ofChange chartSeamsSpec)

/-- ITS FALSE NEIGHBOUR: 'it returns false'. Refute it at one input. -/
def chartSeamsWrong : ChangeSpec := { name := "chartSeams", fn := fun _ => fun
  | [d1, d2] => { results := [.lit (.bool false)], args := [d1, d2] }
  | _ => none }
def ChartSeamsWrongFalsely : Prop := chartSeamsRow.holds Tryz.pinned (OpenSpec.ofChange chartSeamsWrong)

/-- 'gypsumlaw40.RimCharts': WHATEVER THE INPUT: true; the input reads as it did. -/
def rimChartsSpec : ChangeSpec := { name := "rimCharts", fn := fun _ => fun
  | [d1, d2] => { results := [.lit (.bool true)], args := [d1, d2] }
  | _ => none }
def rimChartsRow : OpenClaim := { program := "ytfbpjlfimmjieaagreat", sum := "2a00e82bd1bb607a6edeb8a64d785a4ddb7f974b076797fcd5c62b85e9de2288", func := "gypsum/gypsumlaw40.RimCharts", spec := "rimCharts", unfollowed := true, recurses := true, plainKeys := false, apart := false }
def RimChartsSaid : Prop := rimChartsRow.holds Tryz.pinned (OpenSpec.ofChange rimChartsSpec)

/-- ITS FALSE NEIGHBOUR: 'it returns false'. Refute it at one input. -/
def rimChartsWrong : ChangeSpec := { name := "rimCharts", fn := fun _ => fun
  | [d1, d2] => { results := [.lit (.bool false)], args := [d1, d2] }
  | _ => none }
def RimChartsWrongFalsely : Prop := rimChartsRow.holds Tryz.pinned (OpenSpec.ofChange rimChartsWrong)

/- THE SECOND FORM. 'bulk': how many values and letters a reading holds, each counted each time it is reached (what is shared counts as often as it is met; a slice's spare places count too). A statement '..UptoSaid' is the law's where the arguments, and the package variables that the reading takes, are together of bulk at most 1048576: NARROWER than '..Said'. Prove '..Said' where nothing that the law and all that it calls make is longer than what came in: it says more and counts as full. Else prove '..UptoSaid'. A law counts once. -/
mutual
def uptoBulk {H : Type} : DataW H → Nat
  | .lit (.string bytes) => bytes.length + 1
  | .lit _ => 1
  | .nil => 1
  | .ptr d => uptoBulk d + 1
  | .slice elems spare => uptoBulkAll elems + uptoBulkAll spare + 1
  | .agg parts => uptoBulkAll parts + 1
  | .iface _ d => uptoBulk d + 1
  | .map entries => uptoBulkEntries entries + 1
  | .held _ => 1
def uptoBulkAll {H : Type} : List (DataW H) → Nat
  | [] => 0
  | d :: r => uptoBulk d + uptoBulkAll r
def uptoBulkEntries {H : Type} : List (Lit × DataW H) → Nat
  | [] => 0
  | x :: r => uptoBulkEntry x + uptoBulkEntries r
def uptoBulkEntry {H : Type} : Lit × DataW H → Nat
  | (.string bytes, d) => bytes.length + uptoBulk d + 1
  | (_, d) => uptoBulk d + 1
 end
def uptoSmall : (H : Type) → List (DataW H) → Bool := fun _ ds => decide (uptoBulkAll ds ≤ 1048576)
def OpenSpec.upto (s : _root_.Go.ChangeSpec) : _root_.Go.OpenSpec := { _root_.Go.OpenSpec.ofChange s with cond := some uptoSmall }

/-- 'gypsumlaw32.ChartOf', WHERE WHAT IT READS IS OF BULK AT MOST 1048576: true; the input reads as it did. -/
def chartOfUptoRow : OpenClaim := { program := "ytfbpjlfimmjieaagreat", sum := "2a00e82bd1bb607a6edeb8a64d785a4ddb7f974b076797fcd5c62b85e9de2288", func := "gypsum/gypsumlaw32.ChartOf", spec := "chartOf", unfollowed := true, recurses := true, plainKeys := false, apart := false, narrowed := true }
def ChartOfUptoSaid : Prop := chartOfUptoRow.holds Tryz.pinned (OpenSpec.upto chartOfSpec)

/-- 'gypsumlaw32.ChartSurface', WHERE WHAT IT READS IS OF BULK AT MOST 1048576: true; the input reads as it did. -/
def chartSurfaceUptoRow : OpenClaim := { program := "ytfbpjlfimmjieaagreat", sum := "2a00e82bd1bb607a6edeb8a64d785a4ddb7f974b076797fcd5c62b85e9de2288", func := "gypsum/gypsumlaw32.ChartSurface", spec := "chartSurface", unfollowed := true, recurses := true, plainKeys := false, apart := false, narrowed := true }
def ChartSurfaceUptoSaid : Prop := chartSurfaceUptoRow.holds Tryz.pinned (OpenSpec.upto chartSurfaceSpec)

/-- 'gypsumlaw32.ChartDiscs', WHERE WHAT IT READS IS OF BULK AT MOST 1048576: true; the input reads as it did. -/
def chartDiscsUptoRow : OpenClaim := { program := "ytfbpjlfimmjieaagreat", sum := "2a00e82bd1bb607a6edeb8a64d785a4ddb7f974b076797fcd5c62b85e9de2288", func := "gypsum/gypsumlaw32.ChartDiscs", spec := "chartDiscs", unfollowed := true, recurses := true, plainKeys := false, apart := false, narrowed := true }
def ChartDiscsUptoSaid : Prop := chartDiscsUptoRow.holds Tryz.pinned (OpenSpec.upto chartDiscsSpec)

/-- 'gypsumlaw32.ChartSides', WHERE WHAT IT READS IS OF BULK AT MOST 1048576: true; the input reads as it did. -/
def chartSidesUptoRow : OpenClaim := { program := "ytfbpjlfimmjieaagreat", sum := "2a00e82bd1bb607a6edeb8a64d785a4ddb7f974b076797fcd5c62b85e9de2288", func := "gypsum/gypsumlaw32.ChartSides", spec := "chartSides", unfollowed := true, recurses := true, plainKeys := false, apart := false, narrowed := true }
def ChartSidesUptoSaid : Prop := chartSidesUptoRow.holds Tryz.pinned (OpenSpec.upto chartSidesSpec)

/-- 'gypsumlaw32.ChartWhole', WHERE WHAT IT READS IS OF BULK AT MOST 1048576: true; the input reads as it did. -/
def chartWholeUptoRow : OpenClaim := { program := "ytfbpjlfimmjieaagreat", sum := "2a00e82bd1bb607a6edeb8a64d785a4ddb7f974b076797fcd5c62b85e9de2288", func := "gypsum/gypsumlaw32.ChartWhole", spec := "chartWhole", unfollowed := true, recurses := true, plainKeys := false, apart := false, narrowed := true }
def ChartWholeUptoSaid : Prop := chartWholeUptoRow.holds Tryz.pinned (OpenSpec.upto chartWholeSpec)

/-- 'gypsumlaw32.ChartSmooth', WHERE WHAT IT READS IS OF BULK AT MOST 1048576: true; the input reads as it did. -/
def chartSmoothUptoRow : OpenClaim := { program := "ytfbpjlfimmjieaagreat", sum := "2a00e82bd1bb607a6edeb8a64d785a4ddb7f974b076797fcd5c62b85e9de2288", func := "gypsum/gypsumlaw32.ChartSmooth", spec := "chartSmooth", unfollowed := true, recurses := true, plainKeys := false, apart := false, narrowed := true }
def ChartSmoothUptoSaid : Prop := chartSmoothUptoRow.holds Tryz.pinned (OpenSpec.upto chartSmoothSpec)

/-- 'gypsumlaw32.ChartSeams', WHERE WHAT IT READS IS OF BULK AT MOST 1048576: true; the input reads as it did. -/
def chartSeamsUptoRow : OpenClaim := { program := "ytfbpjlfimmjieaagreat", sum := "2a00e82bd1bb607a6edeb8a64d785a4ddb7f974b076797fcd5c62b85e9de2288", func := "gypsum/gypsumlaw32.ChartSeams", spec := "chartSeams", unfollowed := true, recurses := true, plainKeys := false, apart := false, narrowed := true }
def ChartSeamsUptoSaid : Prop := chartSeamsUptoRow.holds Tryz.pinned (OpenSpec.upto chartSeamsSpec)

/-- 'gypsumlaw40.RimCharts', WHERE WHAT IT READS IS OF BULK AT MOST 1048576: true; the input reads as it did. -/
def rimChartsUptoRow : OpenClaim := { program := "ytfbpjlfimmjieaagreat", sum := "2a00e82bd1bb607a6edeb8a64d785a4ddb7f974b076797fcd5c62b85e9de2288", func := "gypsum/gypsumlaw40.RimCharts", spec := "rimCharts", unfollowed := true, recurses := true, plainKeys := false, apart := false, narrowed := true }
def RimChartsUptoSaid : Prop := rimChartsUptoRow.holds Tryz.pinned (OpenSpec.upto rimChartsSpec)

end Rows
end Go.Proofs.YtfbpjlfimmjieaaGreat

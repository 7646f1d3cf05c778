/-
  No cell of these rows narrows 'for every input' (looked for: loops, veiled, ifaces, maps, wideKeys, modest, calm, conditions, laid).
  DERIVED. THE GIVEN ROWS OF THIS SEAT. 8 by the template 'for every input the law returns true; each argument reads behind the call as it read before'; 0 by the template 'total and deterministic' (their statements: YtkjamheoihlekaaGreatTotals.lean).
  GIVEN WITH THE SEED: the statements are not yours to turn. If you find one false, say at which input.
  Laid BY PROGRAM, IN A SANDBOX (cutbox-rows.mjs): the forced cells as the released guide's own fill.sh prints them over the translation 8e82399affab2168… (all of the seat's roots in one cut). By AI agents, Wed Nov 11 2026. No macro, syntax, notation, axiom, sorry.
-/
import Derived.Test.YtkjamheoihlekaaGreatChecked
import GoSem.Claim
import GoSem.ClaimJoined
import GoSem.ClaimMapViews
import Derived.JoinedTies
import Derived.KernelRfl
namespace Go.Proofs.YtkjamheoihlekaaGreat
/- THE CELL 'sum', in the pinned program and in every row, IS THE sha256 OF THE DUMP (.gsa) THAT YtkjamheoihlekaaGreatProg.lean LOADS. Nothing in Lean hashes anything: it is a label: what it is worth is what the hold of that sum in a sandbox is worth. -/
noncomputable def Tryz.pinned : Pinned := { name := "ytkjamheoihlekaagreat", sum := "8e82399affab2168f5f421971873b164fb7ee3e33936606f0d21b757af887e8e", checked := Tryz.checked }
namespace Rows
def none {H : Type} : Left H := { results := [], args := [] }

/-- 'gypsumlaw18.TreeDual': WHATEVER THE INPUT: true; the input reads as it did. -/
def treeDualSpec : ChangeSpec := { name := "treeDual", fn := fun _ => fun
  | [d1, d2] => { results := [.lit (.bool true)], args := [d1, d2] }
  | _ => none }
def treeDualRow : OpenClaim := { program := "ytkjamheoihlekaagreat", sum := "8e82399affab2168f5f421971873b164fb7ee3e33936606f0d21b757af887e8e", func := "gypsum/gypsumlaw18.TreeDual", spec := "treeDual", unfollowed := true, recurses := true, plainKeys := false, apart := false }
def TreeDualSaid : Prop := treeDualRow.holds Tryz.pinned (OpenSpec.ofChange treeDualSpec)

/-- ITS FALSE NEIGHBOUR: 'it returns false'. Refute it at one input. -/
def treeDualWrong : ChangeSpec := { name := "treeDual", fn := fun _ => fun
  | [d1, d2] => { results := [.lit (.bool false)], args := [d1, d2] }
  | _ => none }
def TreeDualWrongFalsely : Prop := treeDualRow.holds Tryz.pinned (OpenSpec.ofChange treeDualWrong)

/-- 'gypsumlaw18.TreePrunes': WHATEVER THE INPUT: true; the input reads as it did. -/
def treePrunesSpec : ChangeSpec := { name := "treePrunes", fn := fun _ => fun
  | [d1, d2] => { results := [.lit (.bool true)], args := [d1, d2] }
  | _ => none }
def treePrunesRow : OpenClaim := { program := "ytkjamheoihlekaagreat", sum := "8e82399affab2168f5f421971873b164fb7ee3e33936606f0d21b757af887e8e", func := "gypsum/gypsumlaw18.TreePrunes", spec := "treePrunes", unfollowed := true, recurses := true, plainKeys := false, apart := false }
def TreePrunesSaid : Prop := treePrunesRow.holds Tryz.pinned (OpenSpec.ofChange treePrunesSpec)

/-- ITS FALSE NEIGHBOUR: 'it returns false'. Refute it at one input. -/
def treePrunesWrong : ChangeSpec := { name := "treePrunes", fn := fun _ => fun
  | [d1, d2] => { results := [.lit (.bool false)], args := [d1, d2] }
  | _ => none }
def TreePrunesWrongFalsely : Prop := treePrunesRow.holds Tryz.pinned (OpenSpec.ofChange treePrunesWrong)

/-- 'gypsumlaw18.TreePaths': WHATEVER THE INPUT: true; the input reads as it did. -/
def treePathsSpec : ChangeSpec := { name := "treePaths", fn := fun _ => fun
  | [d] => { results := [.lit (.bool true)], args := [d] }
  | _ => none }
def treePathsRow : OpenClaim := { program := "ytkjamheoihlekaagreat", sum := "8e82399affab2168f5f421971873b164fb7ee3e33936606f0d21b757af887e8e", func := "gypsum/gypsumlaw18.TreePaths", spec := "treePaths", unfollowed := true, recurses := true, plainKeys := false, apart := false }
def TreePathsSaid : Prop := treePathsRow.holds Tryz.pinned (OpenSpec.ofChange treePathsSpec)

/-- ITS FALSE NEIGHBOUR: 'it returns false'. Refute it at one input. -/
def treePathsWrong : ChangeSpec := { name := "treePaths", fn := fun _ => fun
  | [d] => { results := [.lit (.bool false)], args := [d] }
  | _ => none }
def TreePathsWrongFalsely : Prop := treePathsRow.holds Tryz.pinned (OpenSpec.ofChange treePathsWrong)

/-- 'gypsumlaw18.TreeSpans': WHATEVER THE INPUT: true; the input reads as it did. -/
def treeSpansSpec : ChangeSpec := { name := "treeSpans", fn := fun _ => fun
  | [d1, d2] => { results := [.lit (.bool true)], args := [d1, d2] }
  | _ => none }
def treeSpansRow : OpenClaim := { program := "ytkjamheoihlekaagreat", sum := "8e82399affab2168f5f421971873b164fb7ee3e33936606f0d21b757af887e8e", func := "gypsum/gypsumlaw18.TreeSpans", spec := "treeSpans", unfollowed := true, recurses := true, plainKeys := false, apart := false }
def TreeSpansSaid : Prop := treeSpansRow.holds Tryz.pinned (OpenSpec.ofChange treeSpansSpec)

/-- ITS FALSE NEIGHBOUR: 'it returns false'. Refute it at one input. -/
def treeSpansWrong : ChangeSpec := { name := "treeSpans", fn := fun _ => fun
  | [d1, d2] => { results := [.lit (.bool false)], args := [d1, d2] }
  | _ => none }
def TreeSpansWrongFalsely : Prop := treeSpansRow.holds Tryz.pinned (OpenSpec.ofChange treeSpansWrong)

/-- 'gypsumlaw18.TreeCanon': WHATEVER THE INPUT: true; the input reads as it did. -/
def treeCanonSpec : ChangeSpec := { name := "treeCanon", fn := fun _ => fun
  | [d1, d2, d3, d4] => { results := [.lit (.bool true)], args := [d1, d2, d3, d4] }
  | _ => none }
def treeCanonRow : OpenClaim := { program := "ytkjamheoihlekaagreat", sum := "8e82399affab2168f5f421971873b164fb7ee3e33936606f0d21b757af887e8e", func := "gypsum/gypsumlaw18.TreeCanon", spec := "treeCanon", unfollowed := true, recurses := true, plainKeys := false, apart := false }
def TreeCanonSaid : Prop := treeCanonRow.holds Tryz.pinned (OpenSpec.ofChange treeCanonSpec)

/-- ITS FALSE NEIGHBOUR: 'it returns false'. Refute it at one input. -/
def treeCanonWrong : ChangeSpec := { name := "treeCanon", fn := fun _ => fun
  | [d1, d2, d3, d4] => { results := [.lit (.bool false)], args := [d1, d2, d3, d4] }
  | _ => none }
def TreeCanonWrongFalsely : Prop := treeCanonRow.holds Tryz.pinned (OpenSpec.ofChange treeCanonWrong)

/-- 'gypsumlaw18.TreeGraph': WHATEVER THE INPUT: true; the input reads as it did. -/
def treeGraphSpec : ChangeSpec := { name := "treeGraph", fn := fun _ => fun
  | [d] => { results := [.lit (.bool true)], args := [d] }
  | _ => none }
def treeGraphRow : OpenClaim := { program := "ytkjamheoihlekaagreat", sum := "8e82399affab2168f5f421971873b164fb7ee3e33936606f0d21b757af887e8e", func := "gypsum/gypsumlaw18.TreeGraph", spec := "treeGraph", unfollowed := true, recurses := true, plainKeys := false, apart := false }
def TreeGraphSaid : Prop := treeGraphRow.holds Tryz.pinned (OpenSpec.ofChange treeGraphSpec)

/-- ITS FALSE NEIGHBOUR: 'it returns false'. Refute it at one input. -/
def treeGraphWrong : ChangeSpec := { name := "treeGraph", fn := fun _ => fun
  | [d] => { results := [.lit (.bool false)], args := [d] }
  | _ => none }
def TreeGraphWrongFalsely : Prop := treeGraphRow.holds Tryz.pinned (OpenSpec.ofChange treeGraphWrong)

/-- 'gypsumlaw18.TreeHandles': WHATEVER THE INPUT: true; the input reads as it did. -/
def treeHandlesSpec : ChangeSpec := { name := "treeHandles", fn := fun _ => fun
  | [d] => { results := [.lit (.bool true)], args := [d] }
  | _ => none }
def treeHandlesRow : OpenClaim := { program := "ytkjamheoihlekaagreat", sum := "8e82399affab2168f5f421971873b164fb7ee3e33936606f0d21b757af887e8e", func := "gypsum/gypsumlaw18.TreeHandles", spec := "treeHandles", unfollowed := true, recurses := true, plainKeys := false, apart := false }
def TreeHandlesSaid : Prop := treeHandlesRow.holds Tryz.pinned (OpenSpec.ofChange treeHandlesSpec)

/-- ITS FALSE NEIGHBOUR: 'it returns false'. Refute it at one input. -/
def treeHandlesWrong : ChangeSpec := { name := "treeHandles", fn := fun _ => fun
  | [d] => { results := [.lit (.bool false)], args := [d] }
  | _ => none }
def TreeHandlesWrongFalsely : Prop := treeHandlesRow.holds Tryz.pinned (OpenSpec.ofChange treeHandlesWrong)

/-- 'gypsumlaw18.TreeLeft': WHATEVER THE INPUT: true; the input reads as it did. -/
def treeLeftSpec : ChangeSpec := { name := "treeLeft", fn := fun _ => fun
  | [d1, d2] => { results := [.lit (.bool true)], args := [d1, d2] }
  | _ => none }
def treeLeftRow : OpenClaim := { program := "ytkjamheoihlekaagreat", sum := "8e82399affab2168f5f421971873b164fb7ee3e33936606f0d21b757af887e8e", func := "gypsum/gypsumlaw18.TreeLeft", spec := "treeLeft", unfollowed := true, recurses := true, plainKeys := false, apart := false }
def TreeLeftSaid : Prop := treeLeftRow.holds Tryz.pinned (OpenSpec.ofChange treeLeftSpec)

/-- ITS FALSE NEIGHBOUR: 'it returns false'. Refute it at one input. -/
def treeLeftWrong : ChangeSpec := { name := "treeLeft", fn := fun _ => fun
  | [d1, d2] => { results := [.lit (.bool false)], args := [d1, d2] }
  | _ => none }
def TreeLeftWrongFalsely : Prop := treeLeftRow.holds Tryz.pinned (OpenSpec.ofChange treeLeftWrong)

/- THE SECOND FORM. 'bulk': how many values and letters a reading holds, each counted each time it is reached (what is shared counts as often as it is met; a slice's spare places count too). A statement '..UptoSaid' is the law's where the arguments, and the package variables that the reading takes, are together of bulk at most 1048576: NARROWER than '..Said'. Prove '..Said' where nothing that the law and all that it calls make is longer than what came in: it says more and counts as full. Else prove '..UptoSaid'. A law counts once. -/
mutual
def uptoBulk {H : Type} : DataW H → Nat
  | .lit (.string bytes) => bytes.length + 1
  | .lit _ => 1
  | .nil => 1
  | .ptr d => uptoBulk d + 1
  | .slice elems spare => uptoBulkAll elems + uptoBulkAll spare + 1
  | .agg parts => uptoBulkAll parts + 1
  | .iface _ d => uptoBulk d + 1
  | .map entries => uptoBulkEntries entries + 1
  | .held _ => 1
def uptoBulkAll {H : Type} : List (DataW H) → Nat
  | [] => 0
  | d :: r => uptoBulk d + uptoBulkAll r
def uptoBulkEntries {H : Type} : List (Lit × DataW H) → Nat
  | [] => 0
  | x :: r => uptoBulkEntry x + uptoBulkEntries r
def uptoBulkEntry {H : Type} : Lit × DataW H → Nat
  | (.string bytes, d) => bytes.length + uptoBulk d + 1
  | (_, d) => uptoBulk d + 1
 end
def uptoSmall : (H : Type) → List (DataW H) → Bool := fun _ ds => decide (uptoBulkAll ds ≤ 1048576)
def OpenSpec.upto (s : _root_.Go.ChangeSpec) : _root_.Go.OpenSpec := { _root_.Go.OpenSpec.ofChange s with cond := some uptoSmall }

/-- 'gypsumlaw18.TreeDual', WHERE WHAT IT READS IS OF BULK AT MOST 1048576: true; the input reads as it did. -/
def treeDualUptoRow : OpenClaim := { program := "ytkjamheoihlekaagreat", sum := "8e82399affab2168f5f421971873b164fb7ee3e33936606f0d21b757af887e8e", func := "gypsum/gypsumlaw18.TreeDual", spec := "treeDual", unfollowed := true, recurses := true, plainKeys := false, apart := false, narrowed := true }
def TreeDualUptoSaid : Prop := treeDualUptoRow.holds Tryz.pinned (OpenSpec.upto treeDualSpec)

/-- 'gypsumlaw18.TreePrunes', WHERE WHAT IT READS IS OF BULK AT MOST 1048576: true; the input reads as it did. -/
def treePrunesUptoRow : OpenClaim := { program := "ytkjamheoihlekaagreat", sum := "8e82399affab2168f5f421971873b164fb7ee3e33936606f0d21b757af887e8e", func := "gypsum/gypsumlaw18.TreePrunes", spec := "treePrunes", unfollowed := true, recurses := true, plainKeys := false, apart := false, narrowed := true }
def TreePrunesUptoSaid : Prop := treePrunesUptoRow.holds Tryz.pinned (OpenSpec.upto treePrunesSpec)

/-- 'gypsumlaw18.TreePaths', WHERE WHAT IT READS IS OF BULK AT MOST 1048576: true; the input reads as it did. -/
def treePathsUptoRow : OpenClaim := { program := "ytkjamheoihlekaagreat", sum := "8e82399affab2168f5f421971873b164fb7ee3e33936606f0d21b757af887e8e", func := "gypsum/gypsumlaw18.TreePaths", spec := "treePaths", unfollowed := true, recurses := true, plainKeys := false, apart := false, narrowed := true }
def TreePathsUptoSaid : Prop := treePathsUptoRow.holds Tryz.pinned (OpenSpec.upto treePathsSpec)

/-- 'gypsumlaw18.TreeSpans', WHERE WHAT IT READS IS OF BULK AT MOST 1048576: true; the input reads as it did. -/
def treeSpansUptoRow : OpenClaim := { program := "ytkjamheoihlekaagreat", sum := "8e82399affab2168f5f421971873b164fb7ee3e33936606f0d21b757af887e8e", func := "gypsum/gypsumlaw18.TreeSpans", spec := "treeSpans", unfollowed := true, recurses := true, plainKeys := false, apart := false, narrowed := true }
def TreeSpansUptoSaid : Prop := treeSpansUptoRow.holds Tryz.pinned (OpenSpec.upto treeSpansSpec)

/-- 'gypsumlaw18.TreeCanon', WHERE WHAT IT READS IS OF BULK AT MOST 1048576: true; the input reads as it did. -/
def treeCanonUptoRow : OpenClaim := { program := "ytkjamheoihlekaagreat", sum := "8e82399affab2168f5f421971873b164fb7ee3e33936606f0d21b757af887e8e", func := "gypsum/gypsumlaw18.TreeCanon", spec := "treeCanon", unfollowed := true, recurses := true, plainKeys := false, apart := false, narrowed := true }
def TreeCanonUptoSaid : Prop := treeCanonUptoRow.holds Tryz.pinned (OpenSpec.upto treeCanonSpec)

/-- 'gypsumlaw18.TreeGraph', WHERE WHAT IT READS IS OF BULK AT MOST 1048576: true; the input reads as it did. -/
def treeGraphUptoRow : OpenClaim := { program := "ytkjamheoihlekaagreat", sum := "8e82399affab2168f5f421971873b164fb7ee3e33936606f0d21b757af887e8e", func := "gypsum/gypsumlaw18.TreeGraph", spec := "treeGraph", unfollowed := true, recurses := true, plainKeys := false, apart := false, narrowed := true }
def TreeGraphUptoSaid : Prop := treeGraphUptoRow.holds Tryz.pinned (OpenSpec.upto treeGraphSpec)

/-- 'gypsumlaw18.TreeHandles', WHERE WHAT IT READS IS OF BULK AT MOST 1048576: true; the input reads as it did. -/
def treeHandlesUptoRow : OpenClaim := { program := "ytkjamheoihlekaagreat", sum := "8e82399affab2168f5f421971873b164fb7ee3e33936606f0d21b757af887e8e", func := "gypsum/gypsumlaw18.TreeHandles", spec := "treeHandles", unfollowed := true, recurses := true, plainKeys := false, apart := false, narrowed := true }
def TreeHandlesUptoSaid : Prop := treeHandlesUptoRow.holds Tryz.pinned (OpenSpec.upto treeHandlesSpec)

/-- 'gypsumlaw18.TreeLeft', WHERE WHAT IT READS IS OF BULK AT MOST 1048576: true; the input reads as it did. -/
def treeLeftUptoRow : OpenClaim := { program := "ytkjamheoihlekaagreat", sum := "8e82399affab2168f5f421971873b164fb7ee3e33936606f0d21b757af887e8e", func := "gypsum/gypsumlaw18.TreeLeft", spec := "treeLeft", unfollowed := true, recurses := true, plainKeys := false, apart := false, narrowed := true }
def TreeLeftUptoSaid : Prop := treeLeftUptoRow.holds Tryz.pinned (OpenSpec.upto treeLeftSpec)

end Rows
end Go.Proofs.YtkjamheoihlekaaGreat

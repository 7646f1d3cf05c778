/-
  No cell of these rows narrows 'for every input' (looked for: loops, veiled, ifaces, maps, wideKeys, modest, calm, conditions, laid).
  DERIVED. THE GIVEN ROWS OF THIS SEAT. 8 by the template 'for every input the law returns true; each argument reads behind the call as it read before'; 0 by the template 'total and deterministic' (their statements: YtkggphfekeiejaaTotals.lean).
  GIVEN WITH THE SEED: the statements are not yours to turn. If you find one false, say at which input.
  Laid BY PROGRAM, IN A SANDBOX (cutbox-rows.mjs): the forced cells as the released guide's own fill.sh prints them over the translation 85c1c5ef586a2a12… (all of the seat's roots in one cut). By AI agents, Wed Nov 11 2026. No macro, syntax, notation, axiom, sorry.
-/
import Derived.Test.YtkggphfekeiejaaChecked
import GoSem.Claim
import GoSem.ClaimJoined
import GoSem.ClaimMapViews
import Derived.JoinedTies
import Derived.KernelRfl
namespace Go.Proofs.Ytkggphfekeiejaa
/- THE CELL 'sum', in the pinned program and in every row, IS THE sha256 OF THE DUMP (.gsa) THAT YtkggphfekeiejaaProg.lean LOADS. Nothing in Lean hashes anything: it is a label: what it is worth is what the hold of that sum in a sandbox is worth. -/
noncomputable def Try.pinned : Pinned := { name := "ytkggphfekeiejaa", sum := "85c1c5ef586a2a12f1b48c70ab0893056294c65aa972dbd66ae64ddc94dc2d2d", checked := Try.checked }
namespace Rows
def none {H : Type} : Left H := { results := [], args := [] }

/-- 'gypsumlaw13.ShellTells': WHATEVER THE INPUT: true; the input reads as it did. -/
def shellTellsSpec : ChangeSpec := { name := "shellTells", fn := fun _ => fun
  | [d] => { results := [.lit (.bool true)], args := [d] }
  | _ => none }
def shellTellsRow : OpenClaim := { program := "ytkggphfekeiejaa", sum := "85c1c5ef586a2a12f1b48c70ab0893056294c65aa972dbd66ae64ddc94dc2d2d", func := "gypsum/gypsumlaw13.ShellTells", spec := "shellTells", unfollowed := true, recurses := true, plainKeys := false, apart := false }
def ShellTellsSaid : Prop := shellTellsRow.holds Try.pinned (OpenSpec.ofChange shellTellsSpec)

/-- ITS FALSE NEIGHBOUR: 'it returns false'. Refute it at one input. -/
def shellTellsWrong : ChangeSpec := { name := "shellTells", fn := fun _ => fun
  | [d] => { results := [.lit (.bool false)], args := [d] }
  | _ => none }
def ShellTellsWrongFalsely : Prop := shellTellsRow.holds Try.pinned (OpenSpec.ofChange shellTellsWrong)

/-- 'gypsumlaw13.ShellParts': WHATEVER THE INPUT: true; the input reads as it did. -/
def shellPartsSpec : ChangeSpec := { name := "shellParts", fn := fun _ => fun
  | [d] => { results := [.lit (.bool true)], args := [d] }
  | _ => none }
def shellPartsRow : OpenClaim := { program := "ytkggphfekeiejaa", sum := "85c1c5ef586a2a12f1b48c70ab0893056294c65aa972dbd66ae64ddc94dc2d2d", func := "gypsum/gypsumlaw13.ShellParts", spec := "shellParts", unfollowed := true, recurses := true, plainKeys := false, apart := false }
def ShellPartsSaid : Prop := shellPartsRow.holds Try.pinned (OpenSpec.ofChange shellPartsSpec)

/-- ITS FALSE NEIGHBOUR: 'it returns false'. Refute it at one input. -/
def shellPartsWrong : ChangeSpec := { name := "shellParts", fn := fun _ => fun
  | [d] => { results := [.lit (.bool false)], args := [d] }
  | _ => none }
def ShellPartsWrongFalsely : Prop := shellPartsRow.holds Try.pinned (OpenSpec.ofChange shellPartsWrong)

/-- 'gypsumlaw13.ShellOver': WHATEVER THE INPUT: true; the input reads as it did. -/
def shellOverSpec : ChangeSpec := { name := "shellOver", fn := fun _ => fun
  | [d] => { results := [.lit (.bool true)], args := [d] }
  | _ => none }
def shellOverRow : OpenClaim := { program := "ytkggphfekeiejaa", sum := "85c1c5ef586a2a12f1b48c70ab0893056294c65aa972dbd66ae64ddc94dc2d2d", func := "gypsum/gypsumlaw13.ShellOver", spec := "shellOver", unfollowed := true, recurses := true, plainKeys := false, apart := false }
def ShellOverSaid : Prop := shellOverRow.holds Try.pinned (OpenSpec.ofChange shellOverSpec)

/-- ITS FALSE NEIGHBOUR: 'it returns false'. Refute it at one input. -/
def shellOverWrong : ChangeSpec := { name := "shellOver", fn := fun _ => fun
  | [d] => { results := [.lit (.bool false)], args := [d] }
  | _ => none }
def ShellOverWrongFalsely : Prop := shellOverRow.holds Try.pinned (OpenSpec.ofChange shellOverWrong)

/-- 'gypsumlaw13.ShellOne': WHATEVER THE INPUT: true; the input reads as it did. -/
def shellOneSpec : ChangeSpec := { name := "shellOne", fn := fun _ => fun
  | [d] => { results := [.lit (.bool true)], args := [d] }
  | _ => none }
def shellOneRow : OpenClaim := { program := "ytkggphfekeiejaa", sum := "85c1c5ef586a2a12f1b48c70ab0893056294c65aa972dbd66ae64ddc94dc2d2d", func := "gypsum/gypsumlaw13.ShellOne", spec := "shellOne", unfollowed := true, recurses := true, plainKeys := false, apart := false }
def ShellOneSaid : Prop := shellOneRow.holds Try.pinned (OpenSpec.ofChange shellOneSpec)

/-- ITS FALSE NEIGHBOUR: 'it returns false'. Refute it at one input. -/
def shellOneWrong : ChangeSpec := { name := "shellOne", fn := fun _ => fun
  | [d] => { results := [.lit (.bool false)], args := [d] }
  | _ => none }
def ShellOneWrongFalsely : Prop := shellOneRow.holds Try.pinned (OpenSpec.ofChange shellOneWrong)

/-- 'gypsumlaw13.ShellBeside': WHATEVER THE INPUT: true; the input reads as it did. -/
def shellBesideSpec : ChangeSpec := { name := "shellBeside", fn := fun _ => fun
  | [d1, d2] => { results := [.lit (.bool true)], args := [d1, d2] }
  | _ => none }
def shellBesideRow : OpenClaim := { program := "ytkggphfekeiejaa", sum := "85c1c5ef586a2a12f1b48c70ab0893056294c65aa972dbd66ae64ddc94dc2d2d", func := "gypsum/gypsumlaw13.ShellBeside", spec := "shellBeside", unfollowed := true, recurses := true, plainKeys := false, apart := false }
def ShellBesideSaid : Prop := shellBesideRow.holds Try.pinned (OpenSpec.ofChange shellBesideSpec)

/-- ITS FALSE NEIGHBOUR: 'it returns false'. Refute it at one input. -/
def shellBesideWrong : ChangeSpec := { name := "shellBeside", fn := fun _ => fun
  | [d1, d2] => { results := [.lit (.bool false)], args := [d1, d2] }
  | _ => none }
def ShellBesideWrongFalsely : Prop := shellBesideRow.holds Try.pinned (OpenSpec.ofChange shellBesideWrong)

/-- 'gypsumlaw13.ShellJoins': WHATEVER THE INPUT: true; the input reads as it did. -/
def shellJoinsSpec : ChangeSpec := { name := "shellJoins", fn := fun _ => fun
  | [d] => { results := [.lit (.bool true)], args := [d] }
  | _ => none }
def shellJoinsRow : OpenClaim := { program := "ytkggphfekeiejaa", sum := "85c1c5ef586a2a12f1b48c70ab0893056294c65aa972dbd66ae64ddc94dc2d2d", func := "gypsum/gypsumlaw13.ShellJoins", spec := "shellJoins", unfollowed := true, recurses := true, plainKeys := false, apart := false }
def ShellJoinsSaid : Prop := shellJoinsRow.holds Try.pinned (OpenSpec.ofChange shellJoinsSpec)

/-- ITS FALSE NEIGHBOUR: 'it returns false'. Refute it at one input. -/
def shellJoinsWrong : ChangeSpec := { name := "shellJoins", fn := fun _ => fun
  | [d] => { results := [.lit (.bool false)], args := [d] }
  | _ => none }
def ShellJoinsWrongFalsely : Prop := shellJoinsRow.holds Try.pinned (OpenSpec.ofChange shellJoinsWrong)

/-- 'gypsumlaw13.ShellBack': WHATEVER THE INPUT: true; the input reads as it did. -/
def shellBackSpec : ChangeSpec := { name := "shellBack", fn := fun _ => fun
  | [d] => { results := [.lit (.bool true)], args := [d] }
  | _ => none }
def shellBackRow : OpenClaim := { program := "ytkggphfekeiejaa", sum := "85c1c5ef586a2a12f1b48c70ab0893056294c65aa972dbd66ae64ddc94dc2d2d", func := "gypsum/gypsumlaw13.ShellBack", spec := "shellBack", unfollowed := true, recurses := true, plainKeys := false, apart := false }
def ShellBackSaid : Prop := shellBackRow.holds Try.pinned (OpenSpec.ofChange shellBackSpec)

/-- ITS FALSE NEIGHBOUR: 'it returns false'. Refute it at one input. -/
def shellBackWrong : ChangeSpec := { name := "shellBack", fn := fun _ => fun
  | [d] => { results := [.lit (.bool false)], args := [d] }
  | _ => none }
def ShellBackWrongFalsely : Prop := shellBackRow.holds Try.pinned (OpenSpec.ofChange shellBackWrong)

/-- 'gypsumlaw13.ShellNone': WHATEVER THE INPUT: true; the input reads as it did. -/
def shellNoneSpec : ChangeSpec := { name := "shellNone", fn := fun _ => fun
  | [d] => { results := [.lit (.bool true)], args := [d] }
  | _ => none }
def shellNoneRow : OpenClaim := { program := "ytkggphfekeiejaa", sum := "85c1c5ef586a2a12f1b48c70ab0893056294c65aa972dbd66ae64ddc94dc2d2d", func := "gypsum/gypsumlaw13.ShellNone", spec := "shellNone", unfollowed := true, recurses := true, plainKeys := false, apart := false }
def ShellNoneSaid : Prop := shellNoneRow.holds Try.pinned (OpenSpec.ofChange shellNoneSpec)

/-- ITS FALSE NEIGHBOUR: 'it returns false'. Refute it at one input. -/
def shellNoneWrong : ChangeSpec := { name := "shellNone", fn := fun _ => fun
  | [d] => { results := [.lit (.bool false)], args := [d] }
  | _ => none }
def ShellNoneWrongFalsely : Prop := shellNoneRow.holds Try.pinned (OpenSpec.ofChange shellNoneWrong)

/- THE SECOND FORM. 'bulk': how many values and letters a reading holds, each counted each time it is reached (what is shared counts as often as it is met; a slice's spare places count too). A statement '..UptoSaid' is the law's where the arguments, and the package variables that the reading takes, are together of bulk at most 1048576: NARROWER than '..Said'. Prove '..Said' where nothing that the law and all that it calls make is longer than what came in: it says more and counts as full. Else prove '..UptoSaid'. A law counts once. -/
mutual
def uptoBulk {H : Type} : DataW H → Nat
  | .lit (.string bytes) => bytes.length + 1
  | .lit _ => 1
  | .nil => 1
  | .ptr d => uptoBulk d + 1
  | .slice elems spare => uptoBulkAll elems + uptoBulkAll spare + 1
  | .agg parts => uptoBulkAll parts + 1
  | .iface _ d => uptoBulk d + 1
  | .map entries => uptoBulkEntries entries + 1
  | .held _ => 1
def uptoBulkAll {H : Type} : List (DataW H) → Nat
  | [] => 0
  | d :: r => uptoBulk d + uptoBulkAll r
def uptoBulkEntries {H : Type} : List (Lit × DataW H) → Nat
  | [] => 0
  | x :: r => uptoBulkEntry x + uptoBulkEntries r
def uptoBulkEntry {H : Type} : Lit × DataW H → Nat
  | (.string bytes, d) => bytes.length + uptoBulk d + 1
  | (_, d) => uptoBulk d + 1
 end
def uptoSmall : (H : Type) → List (DataW H) → Bool := fun _ ds => decide (uptoBulkAll ds ≤ 1048576)
def OpenSpec.upto (s : _root_.Go.ChangeSpec) : _root_.Go.OpenSpec := { _root_.Go.OpenSpec.ofChange s with cond := some uptoSmall }

/-- 'gypsumlaw13.ShellTells', WHERE WHAT IT READS IS OF BULK AT MOST 1048576: true; the input reads as it did. -/
def shellTellsUptoRow : OpenClaim := { program := "ytkggphfekeiejaa", sum := "85c1c5ef586a2a12f1b48c70ab0893056294c65aa972dbd66ae64ddc94dc2d2d", func := "gypsum/gypsumlaw13.ShellTells", spec := "shellTells", unfollowed := true, recurses := true, plainKeys := false, apart := false, narrowed := true }
def ShellTellsUptoSaid : Prop := shellTellsUptoRow.holds Try.pinned (OpenSpec.upto shellTellsSpec)

/-- 'gypsumlaw13.ShellParts', WHERE WHAT IT READS IS OF BULK AT MOST 1048576: true; the input reads as it did. -/
def shellPartsUptoRow : OpenClaim := { program := "ytkggphfekeiejaa", sum := "85c1c5ef586a2a12f1b48c70ab0893056294c65aa972dbd66ae64ddc94dc2d2d", func := "gypsum/gypsumlaw13.ShellParts", spec := "shellParts", unfollowed := true, recurses := true, plainKeys := false, apart := false, narrowed := true }
def ShellPartsUptoSaid : Prop := shellPartsUptoRow.holds Try.pinned (OpenSpec.upto shellPartsSpec)

/-- 'gypsumlaw13.ShellOver', WHERE WHAT IT READS IS OF BULK AT MOST 1048576: true; the input reads as it did. -/
def shellOverUptoRow : OpenClaim := { program := "ytkggphfekeiejaa", sum := "85c1c5ef586a2a12f1b48c70ab0893056294c65aa972dbd66ae64ddc94dc2d2d", func := "gypsum/gypsumlaw13.ShellOver", spec := "shellOver", unfollowed := true, recurses := true, plainKeys := false, apart := false, narrowed := true }
def ShellOverUptoSaid : Prop := shellOverUptoRow.holds Try.pinned (OpenSpec.upto shellOverSpec)

/-- 'gypsumlaw13.ShellOne', WHERE WHAT IT READS IS OF BULK AT MOST 1048576: true; the input reads as it did. -/
def shellOneUptoRow : OpenClaim := { program := "ytkggphfekeiejaa", sum := "85c1c5ef586a2a12f1b48c70ab0893056294c65aa972dbd66ae64ddc94dc2d2d", func := "gypsum/gypsumlaw13.ShellOne", spec := "shellOne", unfollowed := true, recurses := true, plainKeys := false, apart := false, narrowed := true }
def ShellOneUptoSaid : Prop := shellOneUptoRow.holds Try.pinned (OpenSpec.upto shellOneSpec)

/-- 'gypsumlaw13.ShellBeside', WHERE WHAT IT READS IS OF BULK AT MOST 1048576: true; the input reads as it did. -/
def shellBesideUptoRow : OpenClaim := { program := "ytkggphfekeiejaa", sum := "85c1c5ef586a2a12f1b48c70ab0893056294c65aa972dbd66ae64ddc94dc2d2d", func := "gypsum/gypsumlaw13.ShellBeside", spec := "shellBeside", unfollowed := true, recurses := true, plainKeys := false, apart := false, narrowed := true }
def ShellBesideUptoSaid : Prop := shellBesideUptoRow.holds Try.pinned (OpenSpec.upto shellBesideSpec)

/-- 'gypsumlaw13.ShellJoins', WHERE WHAT IT READS IS OF BULK AT MOST 1048576: true; the input reads as it did. -/
def shellJoinsUptoRow : OpenClaim := { program := "ytkggphfekeiejaa", sum := "85c1c5ef586a2a12f1b48c70ab0893056294c65aa972dbd66ae64ddc94dc2d2d", func := "gypsum/gypsumlaw13.ShellJoins", spec := "shellJoins", unfollowed := true, recurses := true, plainKeys := false, apart := false, narrowed := true }
def ShellJoinsUptoSaid : Prop := shellJoinsUptoRow.holds Try.pinned (OpenSpec.upto shellJoinsSpec)

/-- 'gypsumlaw13.ShellBack', WHERE WHAT IT READS IS OF BULK AT MOST 1048576: true; the input reads as it did. -/
def shellBackUptoRow : OpenClaim := { program := "ytkggphfekeiejaa", sum := "85c1c5ef586a2a12f1b48c70ab0893056294c65aa972dbd66ae64ddc94dc2d2d", func := "gypsum/gypsumlaw13.ShellBack", spec := "shellBack", unfollowed := true, recurses := true, plainKeys := false, apart := false, narrowed := true }
def ShellBackUptoSaid : Prop := shellBackUptoRow.holds Try.pinned (OpenSpec.upto shellBackSpec)

/-- 'gypsumlaw13.ShellNone', WHERE WHAT IT READS IS OF BULK AT MOST 1048576: true; the input reads as it did. -/
def shellNoneUptoRow : OpenClaim := { program := "ytkggphfekeiejaa", sum := "85c1c5ef586a2a12f1b48c70ab0893056294c65aa972dbd66ae64ddc94dc2d2d", func := "gypsum/gypsumlaw13.ShellNone", spec := "shellNone", unfollowed := true, recurses := true, plainKeys := false, apart := false, narrowed := true }
def ShellNoneUptoSaid : Prop := shellNoneUptoRow.holds Try.pinned (OpenSpec.upto shellNoneSpec)

end Rows
end Go.Proofs.Ytkggphfekeiejaa

/-
  No cell of these rows narrows 'for every input' (looked for: loops, veiled, ifaces, maps, wideKeys, modest, calm, conditions, laid).
  DERIVED. THE GIVEN ROWS OF THIS SEAT. 5 by the template 'for every input the law returns true; each argument reads behind the call as it read before'; 0 by the template 'total and deterministic' (their statements: YtbeefabboabfgaaGreatTotals.lean).
  GIVEN WITH THE SEED: the statements are not yours to turn. If you find one false, say at which input.
  Laid BY PROGRAM, IN A SANDBOX (cutbox-rows.mjs): the forced cells as the released guide's own fill.sh prints them over the translation c4cc927b85d40d5d… (all of the seat's roots in one cut). By AI agents, Wed Nov 11 2026. No macro, syntax, notation, axiom, sorry.
-/
import Derived.Test.YtbeefabboabfgaaGreatChecked
import GoSem.Claim
import GoSem.ClaimJoined
import GoSem.ClaimMapViews
import Derived.JoinedTies
import Derived.KernelRfl
namespace Go.Proofs.YtbeefabboabfgaaGreat
/- THE CELL 'sum', in the pinned program and in every row, IS THE sha256 OF THE DUMP (.gsa) THAT YtbeefabboabfgaaGreatProg.lean LOADS. Nothing in Lean hashes anything: it is a label: what it is worth is what the hold of that sum in a sandbox is worth. -/
noncomputable def Tryz.pinned : Pinned := { name := "ytbeefabboabfgaagreat", sum := "c4cc927b85d40d5d8703d38032257f9a74d859ad4f5a211333fa0a137c33c3fa", checked := Tryz.checked }
namespace Rows
def none {H : Type} : Left H := { results := [], args := [] }

/-- 'gypsumlaw14.GenusOf': WHATEVER THE INPUT: true; the input reads as it did. -/
def genusOfSpec : ChangeSpec := { name := "genusOf", fn := fun _ => fun
  | [d] => { results := [.lit (.bool true)], args := [d] }
  | _ => none }
def genusOfRow : OpenClaim := { program := "ytbeefabboabfgaagreat", sum := "c4cc927b85d40d5d8703d38032257f9a74d859ad4f5a211333fa0a137c33c3fa", func := "gypsum/gypsumlaw14.GenusOf", spec := "genusOf", unfollowed := true, recurses := true, plainKeys := false, apart := false }
def GenusOfSaid : Prop := genusOfRow.holds Tryz.pinned (OpenSpec.ofChange genusOfSpec)

/-- ITS FALSE NEIGHBOUR: 'it returns false'. Refute it at one input. -/
def genusOfWrong : ChangeSpec := { name := "genusOf", fn := fun _ => fun
  | [d] => { results := [.lit (.bool false)], args := [d] }
  | _ => none }
def GenusOfWrongFalsely : Prop := genusOfRow.holds Tryz.pinned (OpenSpec.ofChange genusOfWrong)

/-- 'gypsumlaw14.GenusSame': WHATEVER THE INPUT: true; the input reads as it did. -/
def genusSameSpec : ChangeSpec := { name := "genusSame", fn := fun _ => fun
  | [d1, d2] => { results := [.lit (.bool true)], args := [d1, d2] }
  | _ => none }
def genusSameRow : OpenClaim := { program := "ytbeefabboabfgaagreat", sum := "c4cc927b85d40d5d8703d38032257f9a74d859ad4f5a211333fa0a137c33c3fa", func := "gypsum/gypsumlaw14.GenusSame", spec := "genusSame", unfollowed := true, recurses := true, plainKeys := false, apart := false }
def GenusSameSaid : Prop := genusSameRow.holds Tryz.pinned (OpenSpec.ofChange genusSameSpec)

/-- ITS FALSE NEIGHBOUR: 'it returns false'. Refute it at one input. -/
def genusSameWrong : ChangeSpec := { name := "genusSame", fn := fun _ => fun
  | [d1, d2] => { results := [.lit (.bool false)], args := [d1, d2] }
  | _ => none }
def GenusSameWrongFalsely : Prop := genusSameRow.holds Tryz.pinned (OpenSpec.ofChange genusSameWrong)

/-- 'gypsumlaw14.GenusFormula': WHATEVER THE INPUT: true; the input reads as it did. -/
def genusFormulaSpec : ChangeSpec := { name := "genusFormula", fn := fun _ => fun
  | [d] => { results := [.lit (.bool true)], args := [d] }
  | _ => none }
def genusFormulaRow : OpenClaim := { program := "ytbeefabboabfgaagreat", sum := "c4cc927b85d40d5d8703d38032257f9a74d859ad4f5a211333fa0a137c33c3fa", func := "gypsum/gypsumlaw14.GenusFormula", spec := "genusFormula", unfollowed := true, recurses := true, plainKeys := false, apart := false }
def GenusFormulaSaid : Prop := genusFormulaRow.holds Tryz.pinned (OpenSpec.ofChange genusFormulaSpec)

/-- ITS FALSE NEIGHBOUR: 'it returns false'. Refute it at one input. -/
def genusFormulaWrong : ChangeSpec := { name := "genusFormula", fn := fun _ => fun
  | [d] => { results := [.lit (.bool false)], args := [d] }
  | _ => none }
def GenusFormulaWrongFalsely : Prop := genusFormulaRow.holds Tryz.pinned (OpenSpec.ofChange genusFormulaWrong)

/-- 'gypsumlaw14.GenusNames': WHATEVER THE INPUT: true; the input reads as it did. -/
def genusNamesSpec : ChangeSpec := { name := "genusNames", fn := fun _ => fun
  | [d1, d2, d3] => { results := [.lit (.bool true)], args := [d1, d2, d3] }
  | _ => none }
def genusNamesRow : OpenClaim := { program := "ytbeefabboabfgaagreat", sum := "c4cc927b85d40d5d8703d38032257f9a74d859ad4f5a211333fa0a137c33c3fa", func := "gypsum/gypsumlaw14.GenusNames", spec := "genusNames", unfollowed := true, recurses := true, plainKeys := false, apart := false }
def GenusNamesSaid : Prop := genusNamesRow.holds Tryz.pinned (OpenSpec.ofChange genusNamesSpec)

/-- ITS FALSE NEIGHBOUR: 'it returns false'. Refute it at one input. -/
def genusNamesWrong : ChangeSpec := { name := "genusNames", fn := fun _ => fun
  | [d1, d2, d3] => { results := [.lit (.bool false)], args := [d1, d2, d3] }
  | _ => none }
def GenusNamesWrongFalsely : Prop := genusNamesRow.holds Tryz.pinned (OpenSpec.ofChange genusNamesWrong)

/-- 'gypsumlaw14.GenusJoins': WHATEVER THE INPUT: true; the input reads as it did. -/
def genusJoinsSpec : ChangeSpec := { name := "genusJoins", fn := fun _ => fun
  | [d1, d2] => { results := [.lit (.bool true)], args := [d1, d2] }
  | _ => none }
def genusJoinsRow : OpenClaim := { program := "ytbeefabboabfgaagreat", sum := "c4cc927b85d40d5d8703d38032257f9a74d859ad4f5a211333fa0a137c33c3fa", func := "gypsum/gypsumlaw14.GenusJoins", spec := "genusJoins", unfollowed := true, recurses := true, plainKeys := false, apart := false }
def GenusJoinsSaid : Prop := genusJoinsRow.holds Tryz.pinned (OpenSpec.ofChange genusJoinsSpec)

/-- ITS FALSE NEIGHBOUR: 'it returns false'. Refute it at one input. -/
def genusJoinsWrong : ChangeSpec := { name := "genusJoins", fn := fun _ => fun
  | [d1, d2] => { results := [.lit (.bool false)], args := [d1, d2] }
  | _ => none }
def GenusJoinsWrongFalsely : Prop := genusJoinsRow.holds Tryz.pinned (OpenSpec.ofChange genusJoinsWrong)

/- THE SECOND FORM. 'bulk': how many values and letters a reading holds, each counted each time it is reached (what is shared counts as often as it is met; a slice's spare places count too). A statement '..UptoSaid' is the law's where the arguments, and the package variables that the reading takes, are together of bulk at most 1048576: NARROWER than '..Said'. Prove '..Said' where nothing that the law and all that it calls make is longer than what came in: it says more and counts as full. Else prove '..UptoSaid'. A law counts once. -/
mutual
def uptoBulk {H : Type} : DataW H → Nat
  | .lit (.string bytes) => bytes.length + 1
  | .lit _ => 1
  | .nil => 1
  | .ptr d => uptoBulk d + 1
  | .slice elems spare => uptoBulkAll elems + uptoBulkAll spare + 1
  | .agg parts => uptoBulkAll parts + 1
  | .iface _ d => uptoBulk d + 1
  | .map entries => uptoBulkEntries entries + 1
  | .held _ => 1
def uptoBulkAll {H : Type} : List (DataW H) → Nat
  | [] => 0
  | d :: r => uptoBulk d + uptoBulkAll r
def uptoBulkEntries {H : Type} : List (Lit × DataW H) → Nat
  | [] => 0
  | x :: r => uptoBulkEntry x + uptoBulkEntries r
def uptoBulkEntry {H : Type} : Lit × DataW H → Nat
  | (.string bytes, d) => bytes.length + uptoBulk d + 1
  | (_, d) => uptoBulk d + 1
 end
def uptoSmall : (H : Type) → List (DataW H) → Bool := fun _ ds => decide (uptoBulkAll ds ≤ 1048576)
def OpenSpec.upto (s : _root_.Go.ChangeSpec) : _root_.Go.OpenSpec := { _root_.Go.OpenSpec.ofChange s with cond := some uptoSmall }

/-- 'gypsumlaw14.GenusOf', WHERE WHAT IT READS IS OF BULK AT MOST 1048576: true; the input reads as it did. -/
def genusOfUptoRow : OpenClaim := { program := "ytbeefabboabfgaagreat", sum := "c4cc927b85d40d5d8703d38032257f9a74d859ad4f5a211333fa0a137c33c3fa", func := "gypsum/gypsumlaw14.GenusOf", spec := "genusOf", unfollowed := true, recurses := true, plainKeys := false, apart := false, narrowed := true }
def GenusOfUptoSaid : Prop := genusOfUptoRow.holds Tryz.pinned (OpenSpec.upto genusOfSpec)

/-- 'gypsumlaw14.GenusSame', WHERE WHAT IT READS IS OF BULK AT MOST 1048576: true; the input reads as it did. -/
def genusSameUptoRow : OpenClaim := { program := "ytbeefabboabfgaagreat", sum := "c4cc927b85d40d5d8703d38032257f9a74d859ad4f5a211333fa0a137c33c3fa", func := "gypsum/gypsumlaw14.GenusSame", spec := "genusSame", unfollowed := true, recurses := true, plainKeys := false, apart := false, narrowed := true }
def GenusSameUptoSaid : Prop := genusSameUptoRow.holds Tryz.pinned (OpenSpec.upto genusSameSpec)

/-- 'gypsumlaw14.GenusFormula', WHERE WHAT IT READS IS OF BULK AT MOST 1048576: true; the input reads as it did. -/
def genusFormulaUptoRow : OpenClaim := { program := "ytbeefabboabfgaagreat", sum := "c4cc927b85d40d5d8703d38032257f9a74d859ad4f5a211333fa0a137c33c3fa", func := "gypsum/gypsumlaw14.GenusFormula", spec := "genusFormula", unfollowed := true, recurses := true, plainKeys := false, apart := false, narrowed := true }
def GenusFormulaUptoSaid : Prop := genusFormulaUptoRow.holds Tryz.pinned (OpenSpec.upto genusFormulaSpec)

/-- 'gypsumlaw14.GenusNames', WHERE WHAT IT READS IS OF BULK AT MOST 1048576: true; the input reads as it did. -/
def genusNamesUptoRow : OpenClaim := { program := "ytbeefabboabfgaagreat", sum := "c4cc927b85d40d5d8703d38032257f9a74d859ad4f5a211333fa0a137c33c3fa", func := "gypsum/gypsumlaw14.GenusNames", spec := "genusNames", unfollowed := true, recurses := true, plainKeys := false, apart := false, narrowed := true }
def GenusNamesUptoSaid : Prop := genusNamesUptoRow.holds Tryz.pinned (OpenSpec.upto genusNamesSpec)

/-- 'gypsumlaw14.GenusJoins', WHERE WHAT IT READS IS OF BULK AT MOST 1048576: true; the input reads as it did. -/
def genusJoinsUptoRow : OpenClaim := { program := "ytbeefabboabfgaagreat", sum := "c4cc927b85d40d5d8703d38032257f9a74d859ad4f5a211333fa0a137c33c3fa", func := "gypsum/gypsumlaw14.GenusJoins", spec := "genusJoins", unfollowed := true, recurses := true, plainKeys := false, apart := false, narrowed := true }
def GenusJoinsUptoSaid : Prop := genusJoinsUptoRow.holds Tryz.pinned (OpenSpec.upto genusJoinsSpec)

end Rows
end Go.Proofs.YtbeefabboabfgaaGreat

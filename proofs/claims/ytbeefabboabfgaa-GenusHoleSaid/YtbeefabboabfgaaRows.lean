/-
  No cell of these rows narrows 'for every input' (looked for: loops, veiled, ifaces, maps, wideKeys, modest, calm, conditions, laid).
  DERIVED. THE GIVEN ROWS OF THIS SEAT. 3 by the template 'for every input the law returns true; each argument reads behind the call as it read before'; 0 by the template 'total and deterministic' (their statements: YtbeefabboabfgaaTotals.lean).
  GIVEN WITH THE SEED: the statements are not yours to turn. If you find one false, say at which input.
  Laid BY PROGRAM, IN A SANDBOX (cutbox-rows.mjs): the forced cells as the released guide's own fill.sh prints them over the translation 5cecbb3797163bcb… (all of the seat's roots in one cut). By AI agents, Wed Nov 11 2026. No macro, syntax, notation, axiom, sorry.
-/
import Derived.Test.YtbeefabboabfgaaChecked
import GoSem.Claim
import GoSem.ClaimJoined
import GoSem.ClaimMapViews
import Derived.JoinedTies
import Derived.KernelRfl
namespace Go.Proofs.Ytbeefabboabfgaa
/- THE CELL 'sum', in the pinned program and in every row, IS THE sha256 OF THE DUMP (.gsa) THAT YtbeefabboabfgaaProg.lean LOADS. Nothing in Lean hashes anything: it is a label: what it is worth is what the hold of that sum in a sandbox is worth. -/
noncomputable def Try.pinned : Pinned := { name := "ytbeefabboabfgaa", sum := "5cecbb3797163bcbdd2a1ff7a8525f421612f471c174241400a7fa0079a47c6e", checked := Try.checked }
namespace Rows
def none {H : Type} : Left H := { results := [], args := [] }

/-- 'gypsumlaw14.GenusHole': WHATEVER THE INPUT: true; the input reads as it did. -/
def genusHoleSpec : ChangeSpec := { name := "genusHole", fn := fun _ => fun
  | [d1, d2, d3] => { results := [.lit (.bool true)], args := [d1, d2, d3] }
  | _ => none }
def genusHoleRow : OpenClaim := { program := "ytbeefabboabfgaa", sum := "5cecbb3797163bcbdd2a1ff7a8525f421612f471c174241400a7fa0079a47c6e", func := "gypsum/gypsumlaw14.GenusHole", spec := "genusHole", unfollowed := true, recurses := true, plainKeys := false, apart := false }
def GenusHoleSaid : Prop := genusHoleRow.holds Try.pinned (OpenSpec.ofChange genusHoleSpec)

/-- ITS FALSE NEIGHBOUR: 'it returns false'. Refute it at one input. -/
def genusHoleWrong : ChangeSpec := { name := "genusHole", fn := fun _ => fun
  | [d1, d2, d3] => { results := [.lit (.bool false)], args := [d1, d2, d3] }
  | _ => none }
def GenusHoleWrongFalsely : Prop := genusHoleRow.holds Try.pinned (OpenSpec.ofChange genusHoleWrong)

/-- 'gypsumlaw14.GenusFew': WHATEVER THE INPUT: true; the input reads as it did. -/
def genusFewSpec : ChangeSpec := { name := "genusFew", fn := fun _ => fun
  | [d] => { results := [.lit (.bool true)], args := [d] }
  | _ => none }
def genusFewRow : OpenClaim := { program := "ytbeefabboabfgaa", sum := "5cecbb3797163bcbdd2a1ff7a8525f421612f471c174241400a7fa0079a47c6e", func := "gypsum/gypsumlaw14.GenusFew", spec := "genusFew", unfollowed := true, recurses := true, plainKeys := false, apart := false }
def GenusFewSaid : Prop := genusFewRow.holds Try.pinned (OpenSpec.ofChange genusFewSpec)

/-- ITS FALSE NEIGHBOUR: 'it returns false'. Refute it at one input. -/
def genusFewWrong : ChangeSpec := { name := "genusFew", fn := fun _ => fun
  | [d] => { results := [.lit (.bool false)], args := [d] }
  | _ => none }
def GenusFewWrongFalsely : Prop := genusFewRow.holds Try.pinned (OpenSpec.ofChange genusFewWrong)

/-- 'gypsumlaw14.GenusNone': WHATEVER THE INPUT: true; the input reads as it did. -/
def genusNoneSpec : ChangeSpec := { name := "genusNone", fn := fun _ => fun
  | [d] => { results := [.lit (.bool true)], args := [d] }
  | _ => none }
def genusNoneRow : OpenClaim := { program := "ytbeefabboabfgaa", sum := "5cecbb3797163bcbdd2a1ff7a8525f421612f471c174241400a7fa0079a47c6e", func := "gypsum/gypsumlaw14.GenusNone", spec := "genusNone", unfollowed := true, recurses := true, plainKeys := false, apart := false }
def GenusNoneSaid : Prop := genusNoneRow.holds Try.pinned (OpenSpec.ofChange genusNoneSpec)

/-- ITS FALSE NEIGHBOUR: 'it returns false'. Refute it at one input. -/
def genusNoneWrong : ChangeSpec := { name := "genusNone", fn := fun _ => fun
  | [d] => { results := [.lit (.bool false)], args := [d] }
  | _ => none }
def GenusNoneWrongFalsely : Prop := genusNoneRow.holds Try.pinned (OpenSpec.ofChange genusNoneWrong)

/- THE SECOND FORM. 'bulk': how many values and letters a reading holds, each counted each time it is reached (what is shared counts as often as it is met; a slice's spare places count too). A statement '..UptoSaid' is the law's where the arguments, and the package variables that the reading takes, are together of bulk at most 1048576: NARROWER than '..Said'. Prove '..Said' where nothing that the law and all that it calls make is longer than what came in: it says more and counts as full. Else prove '..UptoSaid'. A law counts once. -/
mutual
def uptoBulk {H : Type} : DataW H → Nat
  | .lit (.string bytes) => bytes.length + 1
  | .lit _ => 1
  | .nil => 1
  | .ptr d => uptoBulk d + 1
  | .slice elems spare => uptoBulkAll elems + uptoBulkAll spare + 1
  | .agg parts => uptoBulkAll parts + 1
  | .iface _ d => uptoBulk d + 1
  | .map entries => uptoBulkEntries entries + 1
  | .held _ => 1
def uptoBulkAll {H : Type} : List (DataW H) → Nat
  | [] => 0
  | d :: r => uptoBulk d + uptoBulkAll r
def uptoBulkEntries {H : Type} : List (Lit × DataW H) → Nat
  | [] => 0
  | x :: r => uptoBulkEntry x + uptoBulkEntries r
def uptoBulkEntry {H : Type} : Lit × DataW H → Nat
  | (.string bytes, d) => bytes.length + uptoBulk d + 1
  | (_, d) => uptoBulk d + 1
 end
def uptoSmall : (H : Type) → List (DataW H) → Bool := fun _ ds => decide (uptoBulkAll ds ≤ 1048576)
def OpenSpec.upto (s : _root_.Go.ChangeSpec) : _root_.Go.OpenSpec := { _root_.Go.OpenSpec.ofChange s with cond := some uptoSmall }

/-- 'gypsumlaw14.GenusHole', WHERE WHAT IT READS IS OF BULK AT MOST 1048576: true; the input reads as it did. -/
def genusHoleUptoRow : OpenClaim := { program := "ytbeefabboabfgaa", sum := "5cecbb3797163bcbdd2a1ff7a8525f421612f471c174241400a7fa0079a47c6e", func := "gypsum/gypsumlaw14.GenusHole", spec := "genusHole", unfollowed := true, recurses := true, plainKeys := false, apart := false, narrowed := true }
def GenusHoleUptoSaid : Prop := genusHoleUptoRow.holds Try.pinned (OpenSpec.upto genusHoleSpec)

/-- 'gypsumlaw14.GenusFew', WHERE WHAT IT READS IS OF BULK AT MOST 1048576: true; the input reads as it did. -/
def genusFewUptoRow : OpenClaim := { program := "ytbeefabboabfgaa", sum := "5cecbb3797163bcbdd2a1ff7a8525f421612f471c174241400a7fa0079a47c6e", func := "gypsum/gypsumlaw14.GenusFew", spec := "genusFew", unfollowed := true, recurses := true, plainKeys := false, apart := false, narrowed := true }
def GenusFewUptoSaid : Prop := genusFewUptoRow.holds Try.pinned (OpenSpec.upto genusFewSpec)

/-- 'gypsumlaw14.GenusNone', WHERE WHAT IT READS IS OF BULK AT MOST 1048576: true; the input reads as it did. -/
def genusNoneUptoRow : OpenClaim := { program := "ytbeefabboabfgaa", sum := "5cecbb3797163bcbdd2a1ff7a8525f421612f471c174241400a7fa0079a47c6e", func := "gypsum/gypsumlaw14.GenusNone", spec := "genusNone", unfollowed := true, recurses := true, plainKeys := false, apart := false, narrowed := true }
def GenusNoneUptoSaid : Prop := genusNoneUptoRow.holds Try.pinned (OpenSpec.upto genusNoneSpec)

end Rows
end Go.Proofs.Ytbeefabboabfgaa

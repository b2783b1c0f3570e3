/-
  NARROWER THAN 'FOR EVERY INPUT', by the rows' own cells (each row's printed sentence says how): BoundsMatchesReference: laid · BoundsOf: laid · BoundsMerge: laid · BoundsMonotone: laid.
  DERIVED. THE GIVEN ROWS OF THIS SEAT. 4 by the template 'for every input the law returns true; each argument reads behind the call as it read before'; 0 by the template 'total and deterministic' (their statements: YtopigomfhggkoaaDoorTotals.lean).
  GIVEN WITH THE SEED: the statements are not yours to turn. If you find one false, say at which input.
  Laid BY PROGRAM, IN A SANDBOX (cutbox-rows.mjs): the forced cells as the released guide's own fill.sh prints them over the translation 56e1d7052fbaff2a… (all of the seat's roots in one cut). By AI agents, Wed Nov 11 2026. No macro, syntax, notation, axiom, sorry.
-/
import Derived.Test.YtopigomfhggkoaaDoorChecked
import GoSem.Claim
import GoSem.ClaimJoined
import GoSem.ClaimMapViews
import Derived.JoinedTies
import Derived.KernelRfl
namespace Go.Proofs.YtopigomfhggkoaaDoor
/- THE CELL 'sum', in the pinned program and in every row, IS THE sha256 OF THE DUMP (.gsa) THAT YtopigomfhggkoaaDoorProg.lean LOADS. Nothing in Lean hashes anything: it is a label: what it is worth is what the hold of that sum in a sandbox is worth. -/
noncomputable def Tryd.pinned : Pinned := { name := "ytopigomfhggkoaadoor", sum := "56e1d7052fbaff2a4630215462154c1071d089e8ef1f3c7656c402c251fc74b8", checked := Tryd.checked }
namespace Rows
def none {H : Type} : Left H := { results := [], args := [] }

/- WHAT THE LISTED PACKAGE-LEVEL VARIABLES READ AS WHEN THE CALL BEGINS. Each datum BY PROGRAM (the guide's laid-datum.mjs) off the statement by which the dump's own 'gosem.cut.vars' lays the variable. In a bare row this is a premise. The card (YtopigomfhggkoaaDoorCards.lean) ties it to the program's text. -/
def laid_chapman_value_checks {H : Type} : DataW H := .iface "func table" (.agg [.iface "func" (.lit (.string [99, 104, 97, 112, 109, 97, 110, 47, 118, 97, 108, 117, 101, 46, 99, 104, 101, 99, 107, 115, 36, 49])), .iface "func" (.lit (.string [99, 104, 97, 112, 109, 97, 110, 47, 118, 97, 108, 117, 101, 46, 99, 104, 101, 99, 107, 115, 36, 50])), .iface "func" (.lit (.string [99, 104, 97, 112, 109, 97, 110, 47, 118, 97, 108, 117, 101, 46, 99, 104, 101, 99, 107, 115, 36, 51])), .iface "func" (.lit (.string [99, 104, 97, 112, 109, 97, 110, 47, 118, 97, 108, 117, 101, 46, 99, 104, 101, 99, 107, 115, 36, 52]))])
def laid_chapman_bounds_null {H : Type} : DataW H := .agg [.lit (.int .i64 0), .lit (.int .i64 0), .lit (.string [])]
def laid_chapman_bounds_bools {H : Type} : DataW H := .map [(.bool false, .agg [.lit (.int .i64 1), .lit (.int .i64 0), .lit (.string [])]), (.bool true, .agg [.lit (.int .i64 1), .lit (.int .i64 1), .lit (.string [])])]
def laid_chapman_bounds_logic {H : Type} : DataW H := .iface "func table" (.map [(.int .i64 6, .iface "func" (.lit (.string [40, 99, 104, 97, 112, 109, 97, 110, 47, 98, 111, 117, 110, 100, 115, 46, 115, 112, 97, 110, 41, 46, 97, 110, 100]))), (.int .i64 7, .iface "func" (.lit (.string [40, 99, 104, 97, 112, 109, 97, 110, 47, 98, 111, 117, 110, 100, 115, 46, 115, 112, 97, 110, 41, 46, 111, 114]))), (.int .i64 8, .iface "func" (.lit (.string [40, 99, 104, 97, 112, 109, 97, 110, 47, 98, 111, 117, 110, 100, 115, 46, 115, 112, 97, 110, 41, 46, 110, 111, 116]))), (.int .i64 9, .iface "func" (.lit (.string [40, 99, 104, 97, 112, 109, 97, 110, 47, 98, 111, 117, 110, 100, 115, 46, 115, 112, 97, 110, 41, 46, 105, 115, 78, 117, 108, 108])))])
def laid_chapman_bounds_strict {H : Type} : DataW H := .iface "func table" (.map [(.int .i64 3, .iface "func" (.lit (.string [40, 99, 104, 97, 112, 109, 97, 110, 47, 98, 111, 117, 110, 100, 115, 46, 115, 112, 97, 110, 41, 46, 101, 113, 117, 97, 108]))), (.int .i64 4, .iface "func" (.lit (.string [40, 99, 104, 97, 112, 109, 97, 110, 47, 98, 111, 117, 110, 100, 115, 46, 115, 112, 97, 110, 41, 46, 108, 101, 115, 115]))), (.int .i64 5, .iface "func" (.lit (.string [40, 99, 104, 97, 112, 109, 97, 110, 47, 98, 111, 117, 110, 100, 115, 46, 115, 112, 97, 110, 41, 46, 109, 111, 115, 116]))), (.int .i64 10, .iface "func" (.lit (.string [40, 99, 104, 97, 112, 109, 97, 110, 47, 98, 111, 117, 110, 100, 115, 46, 115, 112, 97, 110, 41, 46, 112, 108, 117, 115]))), (.int .i64 11, .iface "func" (.lit (.string [40, 99, 104, 97, 112, 109, 97, 110, 47, 98, 111, 117, 110, 100, 115, 46, 115, 112, 97, 110, 41, 46, 109, 105, 110, 117, 115]))), (.int .i64 12, .iface "func" (.lit (.string [40, 99, 104, 97, 112, 109, 97, 110, 47, 98, 111, 117, 110, 100, 115, 46, 115, 112, 97, 110, 41, 46, 112, 114, 101, 102, 105, 120])))])

/-- 'chapmanlaw29.BoundsMatchesReference': WHATEVER THE INPUT: true; the input reads as it did. -/
def boundsMatchesReferenceSpec : ChangeSpec := { name := "boundsMatchesReference", fn := fun _ => fun
  | [d1, d2, d3] => { results := [.lit (.bool true)], args := [d1, d2, d3] }
  | _ => none }
def boundsMatchesReferenceRow : OpenClaim := { program := "ytopigomfhggkoaadoor", sum := "56e1d7052fbaff2a4630215462154c1071d089e8ef1f3c7656c402c251fc74b8", func := "chapman/chapmanlaw29.BoundsMatchesReference", spec := "boundsMatchesReference", inPlace := ["math/bits.Add64"], unfollowed := true, recurses := true, named := ["chapman/bounds.null", "chapman/value.checks", "chapman/bounds.logic", "chapman/bounds.strict", "chapman/bounds.bools"], apart := false, laid := [("chapman/value.checks", laid_chapman_value_checks), ("chapman/bounds.null", laid_chapman_bounds_null), ("chapman/bounds.bools", laid_chapman_bounds_bools), ("chapman/bounds.logic", laid_chapman_bounds_logic), ("chapman/bounds.strict", laid_chapman_bounds_strict)] }
def BoundsMatchesReferenceSaid : Prop := boundsMatchesReferenceRow.holds Tryd.pinned (OpenSpec.ofChange boundsMatchesReferenceSpec)

/-- ITS FALSE NEIGHBOUR: 'it returns false'. Refute it at one input. -/
def boundsMatchesReferenceWrong : ChangeSpec := { name := "boundsMatchesReference", fn := fun _ => fun
  | [d1, d2, d3] => { results := [.lit (.bool false)], args := [d1, d2, d3] }
  | _ => none }
def BoundsMatchesReferenceWrongFalsely : Prop := boundsMatchesReferenceRow.holds Tryd.pinned (OpenSpec.ofChange boundsMatchesReferenceWrong)

/-- 'chapmanlaw29.BoundsOf': WHATEVER THE INPUT: true; the input reads as it did. -/
def boundsOfSpec : ChangeSpec := { name := "boundsOf", fn := fun _ => fun
  | [d1, d2] => { results := [.lit (.bool true)], args := [d1, d2] }
  | _ => none }
def boundsOfRow : OpenClaim := { program := "ytopigomfhggkoaadoor", sum := "56e1d7052fbaff2a4630215462154c1071d089e8ef1f3c7656c402c251fc74b8", func := "chapman/chapmanlaw29.BoundsOf", spec := "boundsOf", inPlace := ["math/bits.Add64"], unfollowed := true, recurses := true, named := ["chapman/bounds.null", "chapman/value.checks", "chapman/bounds.logic", "chapman/bounds.strict", "chapman/bounds.bools"], apart := false, laid := [("chapman/value.checks", laid_chapman_value_checks), ("chapman/bounds.null", laid_chapman_bounds_null), ("chapman/bounds.bools", laid_chapman_bounds_bools), ("chapman/bounds.logic", laid_chapman_bounds_logic), ("chapman/bounds.strict", laid_chapman_bounds_strict)] }
def BoundsOfSaid : Prop := boundsOfRow.holds Tryd.pinned (OpenSpec.ofChange boundsOfSpec)

/-- ITS FALSE NEIGHBOUR: 'it returns false'. Refute it at one input. -/
def boundsOfWrong : ChangeSpec := { name := "boundsOf", fn := fun _ => fun
  | [d1, d2] => { results := [.lit (.bool false)], args := [d1, d2] }
  | _ => none }
def BoundsOfWrongFalsely : Prop := boundsOfRow.holds Tryd.pinned (OpenSpec.ofChange boundsOfWrong)

/-- 'chapmanlaw29.BoundsMerge': WHATEVER THE INPUT: true; the input reads as it did. -/
def boundsMergeSpec : ChangeSpec := { name := "boundsMerge", fn := fun _ => fun
  | [d1, d2] => { results := [.lit (.bool true)], args := [d1, d2] }
  | _ => none }
def boundsMergeRow : OpenClaim := { program := "ytopigomfhggkoaadoor", sum := "56e1d7052fbaff2a4630215462154c1071d089e8ef1f3c7656c402c251fc74b8", func := "chapman/chapmanlaw29.BoundsMerge", spec := "boundsMerge", inPlace := ["math/bits.Add64"], unfollowed := true, recurses := true, named := ["chapman/bounds.null", "chapman/value.checks", "chapman/bounds.logic", "chapman/bounds.strict", "chapman/bounds.bools"], apart := false, laid := [("chapman/value.checks", laid_chapman_value_checks), ("chapman/bounds.null", laid_chapman_bounds_null), ("chapman/bounds.bools", laid_chapman_bounds_bools), ("chapman/bounds.logic", laid_chapman_bounds_logic), ("chapman/bounds.strict", laid_chapman_bounds_strict)] }
def BoundsMergeSaid : Prop := boundsMergeRow.holds Tryd.pinned (OpenSpec.ofChange boundsMergeSpec)

/-- ITS FALSE NEIGHBOUR: 'it returns false'. Refute it at one input. -/
def boundsMergeWrong : ChangeSpec := { name := "boundsMerge", fn := fun _ => fun
  | [d1, d2] => { results := [.lit (.bool false)], args := [d1, d2] }
  | _ => none }
def BoundsMergeWrongFalsely : Prop := boundsMergeRow.holds Tryd.pinned (OpenSpec.ofChange boundsMergeWrong)

/-- 'chapmanlaw29.BoundsMonotone': WHATEVER THE INPUT: true; the input reads as it did. -/
def boundsMonotoneSpec : ChangeSpec := { name := "boundsMonotone", fn := fun _ => fun
  | [d1, d2, d3] => { results := [.lit (.bool true)], args := [d1, d2, d3] }
  | _ => none }
def boundsMonotoneRow : OpenClaim := { program := "ytopigomfhggkoaadoor", sum := "56e1d7052fbaff2a4630215462154c1071d089e8ef1f3c7656c402c251fc74b8", func := "chapman/chapmanlaw29.BoundsMonotone", spec := "boundsMonotone", inPlace := ["math/bits.Add64"], unfollowed := true, recurses := true, named := ["chapman/bounds.null", "chapman/value.checks", "chapman/bounds.logic", "chapman/bounds.strict", "chapman/bounds.bools"], apart := false, laid := [("chapman/value.checks", laid_chapman_value_checks), ("chapman/bounds.null", laid_chapman_bounds_null), ("chapman/bounds.bools", laid_chapman_bounds_bools), ("chapman/bounds.logic", laid_chapman_bounds_logic), ("chapman/bounds.strict", laid_chapman_bounds_strict)] }
def BoundsMonotoneSaid : Prop := boundsMonotoneRow.holds Tryd.pinned (OpenSpec.ofChange boundsMonotoneSpec)

/-- ITS FALSE NEIGHBOUR: 'it returns false'. Refute it at one input. -/
def boundsMonotoneWrong : ChangeSpec := { name := "boundsMonotone", fn := fun _ => fun
  | [d1, d2, d3] => { results := [.lit (.bool false)], args := [d1, d2, d3] }
  | _ => none }
def BoundsMonotoneWrongFalsely : Prop := boundsMonotoneRow.holds Tryd.pinned (OpenSpec.ofChange boundsMonotoneWrong)

/- THE SECOND FORM. 'bulk': how many values and letters a reading holds, each counted each time it is reached (what is shared counts as often as it is met; a slice's spare places count too). A statement '..UptoSaid' is the law's where the arguments, and the package variables that the reading takes, are together of bulk at most 1048576: NARROWER than '..Said'. Prove '..Said' where nothing that the law and all that it calls make is longer than what came in: it says more and counts as full. Else prove '..UptoSaid'. A law counts once. -/
mutual
def uptoBulk {H : Type} : DataW H → Nat
  | .lit (.string bytes) => bytes.length + 1
  | .lit _ => 1
  | .nil => 1
  | .ptr d => uptoBulk d + 1
  | .slice elems spare => uptoBulkAll elems + uptoBulkAll spare + 1
  | .agg parts => uptoBulkAll parts + 1
  | .iface _ d => uptoBulk d + 1
  | .map entries => uptoBulkEntries entries + 1
  | .held _ => 1
def uptoBulkAll {H : Type} : List (DataW H) → Nat
  | [] => 0
  | d :: r => uptoBulk d + uptoBulkAll r
def uptoBulkEntries {H : Type} : List (Lit × DataW H) → Nat
  | [] => 0
  | x :: r => uptoBulkEntry x + uptoBulkEntries r
def uptoBulkEntry {H : Type} : Lit × DataW H → Nat
  | (.string bytes, d) => bytes.length + uptoBulk d + 1
  | (_, d) => uptoBulk d + 1
 end
def uptoSmall : (H : Type) → List (DataW H) → Bool := fun _ ds => decide (uptoBulkAll ds ≤ 1048576)
def OpenSpec.upto (s : _root_.Go.ChangeSpec) : _root_.Go.OpenSpec := { _root_.Go.OpenSpec.ofChange s with cond := some uptoSmall }

/-- 'chapmanlaw29.BoundsMatchesReference', WHERE WHAT IT READS IS OF BULK AT MOST 1048576: true; the input reads as it did. -/
def boundsMatchesReferenceUptoRow : OpenClaim := { program := "ytopigomfhggkoaadoor", sum := "56e1d7052fbaff2a4630215462154c1071d089e8ef1f3c7656c402c251fc74b8", func := "chapman/chapmanlaw29.BoundsMatchesReference", spec := "boundsMatchesReference", inPlace := ["math/bits.Add64"], unfollowed := true, recurses := true, named := ["chapman/bounds.null", "chapman/value.checks", "chapman/bounds.logic", "chapman/bounds.strict", "chapman/bounds.bools"], apart := false, laid := [("chapman/value.checks", laid_chapman_value_checks), ("chapman/bounds.null", laid_chapman_bounds_null), ("chapman/bounds.bools", laid_chapman_bounds_bools), ("chapman/bounds.logic", laid_chapman_bounds_logic), ("chapman/bounds.strict", laid_chapman_bounds_strict)], narrowed := true }
def BoundsMatchesReferenceUptoSaid : Prop := boundsMatchesReferenceUptoRow.holds Tryd.pinned (OpenSpec.upto boundsMatchesReferenceSpec)

/-- 'chapmanlaw29.BoundsOf', WHERE WHAT IT READS IS OF BULK AT MOST 1048576: true; the input reads as it did. -/
def boundsOfUptoRow : OpenClaim := { program := "ytopigomfhggkoaadoor", sum := "56e1d7052fbaff2a4630215462154c1071d089e8ef1f3c7656c402c251fc74b8", func := "chapman/chapmanlaw29.BoundsOf", spec := "boundsOf", inPlace := ["math/bits.Add64"], unfollowed := true, recurses := true, named := ["chapman/bounds.null", "chapman/value.checks", "chapman/bounds.logic", "chapman/bounds.strict", "chapman/bounds.bools"], apart := false, laid := [("chapman/value.checks", laid_chapman_value_checks), ("chapman/bounds.null", laid_chapman_bounds_null), ("chapman/bounds.bools", laid_chapman_bounds_bools), ("chapman/bounds.logic", laid_chapman_bounds_logic), ("chapman/bounds.strict", laid_chapman_bounds_strict)], narrowed := true }
def BoundsOfUptoSaid : Prop := boundsOfUptoRow.holds Tryd.pinned (OpenSpec.upto boundsOfSpec)

/-- 'chapmanlaw29.BoundsMerge', WHERE WHAT IT READS IS OF BULK AT MOST 1048576: true; the input reads as it did. -/
def boundsMergeUptoRow : OpenClaim := { program := "ytopigomfhggkoaadoor", sum := "56e1d7052fbaff2a4630215462154c1071d089e8ef1f3c7656c402c251fc74b8", func := "chapman/chapmanlaw29.BoundsMerge", spec := "boundsMerge", inPlace := ["math/bits.Add64"], unfollowed := true, recurses := true, named := ["chapman/bounds.null", "chapman/value.checks", "chapman/bounds.logic", "chapman/bounds.strict", "chapman/bounds.bools"], apart := false, laid := [("chapman/value.checks", laid_chapman_value_checks), ("chapman/bounds.null", laid_chapman_bounds_null), ("chapman/bounds.bools", laid_chapman_bounds_bools), ("chapman/bounds.logic", laid_chapman_bounds_logic), ("chapman/bounds.strict", laid_chapman_bounds_strict)], narrowed := true }
def BoundsMergeUptoSaid : Prop := boundsMergeUptoRow.holds Tryd.pinned (OpenSpec.upto boundsMergeSpec)

/-- 'chapmanlaw29.BoundsMonotone', WHERE WHAT IT READS IS OF BULK AT MOST 1048576: true; the input reads as it did. -/
def boundsMonotoneUptoRow : OpenClaim := { program := "ytopigomfhggkoaadoor", sum := "56e1d7052fbaff2a4630215462154c1071d089e8ef1f3c7656c402c251fc74b8", func := "chapman/chapmanlaw29.BoundsMonotone", spec := "boundsMonotone", inPlace := ["math/bits.Add64"], unfollowed := true, recurses := true, named := ["chapman/bounds.null", "chapman/value.checks", "chapman/bounds.logic", "chapman/bounds.strict", "chapman/bounds.bools"], apart := false, laid := [("chapman/value.checks", laid_chapman_value_checks), ("chapman/bounds.null", laid_chapman_bounds_null), ("chapman/bounds.bools", laid_chapman_bounds_bools), ("chapman/bounds.logic", laid_chapman_bounds_logic), ("chapman/bounds.strict", laid_chapman_bounds_strict)], narrowed := true }
def BoundsMonotoneUptoSaid : Prop := boundsMonotoneUptoRow.holds Tryd.pinned (OpenSpec.upto boundsMonotoneSpec)

end Rows
end Go.Proofs.YtopigomfhggkoaaDoor

/-
  No cell of these rows narrows 'for every input' (looked for: loops, veiled, ifaces, maps, wideKeys, modest, calm, conditions, laid).
  DERIVED. THE GIVEN ROWS OF THIS SEAT. 6 by the template 'for every input the law returns true; each argument reads behind the call as it read before'; 0 by the template 'total and deterministic' (their statements: YtlkfbhhopkoopaaTotals.lean).
  GIVEN WITH THE SEED: the statements are not yours to turn. If you find one false, say at which input.
  Laid BY PROGRAM, IN A SANDBOX (cutbox-rows.mjs): the forced cells as the released guide's own fill.sh prints them over the translation c10001d8a06ae7bf… (all of the seat's roots in one cut). By AI agents, Wed Nov 11 2026. No macro, syntax, notation, axiom, sorry.
-/
import Derived.Test.YtlkfbhhopkoopaaChecked
import GoSem.Claim
import GoSem.ClaimJoined
import GoSem.ClaimMapViews
import Derived.JoinedTies
import Derived.KernelRfl
namespace Go.Proofs.Ytlkfbhhopkoopaa
/- THE CELL 'sum', in the pinned program and in every row, IS THE sha256 OF THE DUMP (.gsa) THAT YtlkfbhhopkoopaaProg.lean LOADS. Nothing in Lean hashes anything: it is a label: what it is worth is what the hold of that sum in a sandbox is worth. -/
noncomputable def Try.pinned : Pinned := { name := "ytlkfbhhopkoopaa", sum := "c10001d8a06ae7bf811092f45ddac3d75df2419cd6569b35a3b14742a4da80bc", checked := Try.checked }
namespace Rows
def none {H : Type} : Left H := { results := [], args := [] }

/-- 'chapmanlaw15.ConstraintMatchesReference': WHATEVER THE INPUT: true; the input reads as it did. -/
def constraintMatchesReferenceSpec : ChangeSpec := { name := "constraintMatchesReference", fn := fun _ => fun
  | [d1, d2, d3] => { results := [.lit (.bool true)], args := [d1, d2, d3] }
  | _ => none }
def constraintMatchesReferenceRow : OpenClaim := { program := "ytlkfbhhopkoopaa", sum := "c10001d8a06ae7bf811092f45ddac3d75df2419cd6569b35a3b14742a4da80bc", func := "chapman/chapmanlaw15.ConstraintMatchesReference", spec := "constraintMatchesReference", inPlace := ["math/bits.Add64"], unfollowed := true, recurses := true, apart := false }
def ConstraintMatchesReferenceSaid : Prop := constraintMatchesReferenceRow.holds Try.pinned (OpenSpec.ofChange constraintMatchesReferenceSpec)

/-- ITS FALSE NEIGHBOUR: 'it returns false'. Refute it at one input. -/
def constraintMatchesReferenceWrong : ChangeSpec := { name := "constraintMatchesReference", fn := fun _ => fun
  | [d1, d2, d3] => { results := [.lit (.bool false)], args := [d1, d2, d3] }
  | _ => none }
def ConstraintMatchesReferenceWrongFalsely : Prop := constraintMatchesReferenceRow.holds Try.pinned (OpenSpec.ofChange constraintMatchesReferenceWrong)

/-- 'chapmanlaw15.ConstraintMeaning': WHATEVER THE INPUT: true; the input reads as it did. -/
def constraintMeaningSpec : ChangeSpec := { name := "constraintMeaning", fn := fun _ => fun
  | [d1, d2, d3] => { results := [.lit (.bool true)], args := [d1, d2, d3] }
  | _ => none }
def constraintMeaningRow : OpenClaim := { program := "ytlkfbhhopkoopaa", sum := "c10001d8a06ae7bf811092f45ddac3d75df2419cd6569b35a3b14742a4da80bc", func := "chapman/chapmanlaw15.ConstraintMeaning", spec := "constraintMeaning", inPlace := ["math/bits.Add64"], unfollowed := true, recurses := true, apart := false }
def ConstraintMeaningSaid : Prop := constraintMeaningRow.holds Try.pinned (OpenSpec.ofChange constraintMeaningSpec)

/-- ITS FALSE NEIGHBOUR: 'it returns false'. Refute it at one input. -/
def constraintMeaningWrong : ChangeSpec := { name := "constraintMeaning", fn := fun _ => fun
  | [d1, d2, d3] => { results := [.lit (.bool false)], args := [d1, d2, d3] }
  | _ => none }
def ConstraintMeaningWrongFalsely : Prop := constraintMeaningRow.holds Try.pinned (OpenSpec.ofChange constraintMeaningWrong)

/-- 'chapmanlaw15.ConstraintRows': WHATEVER THE INPUT: true; the input reads as it did. -/
def constraintRowsSpec : ChangeSpec := { name := "constraintRows", fn := fun _ => fun
  | [d1, d2, d3] => { results := [.lit (.bool true)], args := [d1, d2, d3] }
  | _ => none }
def constraintRowsRow : OpenClaim := { program := "ytlkfbhhopkoopaa", sum := "c10001d8a06ae7bf811092f45ddac3d75df2419cd6569b35a3b14742a4da80bc", func := "chapman/chapmanlaw15.ConstraintRows", spec := "constraintRows", inPlace := ["math/bits.Add64"], unfollowed := true, recurses := true, apart := false }
def ConstraintRowsSaid : Prop := constraintRowsRow.holds Try.pinned (OpenSpec.ofChange constraintRowsSpec)

/-- ITS FALSE NEIGHBOUR: 'it returns false'. Refute it at one input. -/
def constraintRowsWrong : ChangeSpec := { name := "constraintRows", fn := fun _ => fun
  | [d1, d2, d3] => { results := [.lit (.bool false)], args := [d1, d2, d3] }
  | _ => none }
def ConstraintRowsWrongFalsely : Prop := constraintRowsRow.holds Try.pinned (OpenSpec.ofChange constraintRowsWrong)

/-- 'chapmanlaw15.ConstraintDeletes': WHATEVER THE INPUT: true; the input reads as it did. -/
def constraintDeletesSpec : ChangeSpec := { name := "constraintDeletes", fn := fun _ => fun
  | [d1, d2, d3] => { results := [.lit (.bool true)], args := [d1, d2, d3] }
  | _ => none }
def constraintDeletesRow : OpenClaim := { program := "ytlkfbhhopkoopaa", sum := "c10001d8a06ae7bf811092f45ddac3d75df2419cd6569b35a3b14742a4da80bc", func := "chapman/chapmanlaw15.ConstraintDeletes", spec := "constraintDeletes", inPlace := ["math/bits.Add64"], unfollowed := true, recurses := true, apart := false }
def ConstraintDeletesSaid : Prop := constraintDeletesRow.holds Try.pinned (OpenSpec.ofChange constraintDeletesSpec)

/-- ITS FALSE NEIGHBOUR: 'it returns false'. Refute it at one input. -/
def constraintDeletesWrong : ChangeSpec := { name := "constraintDeletes", fn := fun _ => fun
  | [d1, d2, d3] => { results := [.lit (.bool false)], args := [d1, d2, d3] }
  | _ => none }
def ConstraintDeletesWrongFalsely : Prop := constraintDeletesRow.holds Try.pinned (OpenSpec.ofChange constraintDeletesWrong)

/-- 'chapmanlaw15.ConstraintKeeps': WHATEVER THE INPUT: true; the input reads as it did. -/
def constraintKeepsSpec : ChangeSpec := { name := "constraintKeeps", fn := fun _ => fun
  | [d1, d2, d3] => { results := [.lit (.bool true)], args := [d1, d2, d3] }
  | _ => none }
def constraintKeepsRow : OpenClaim := { program := "ytlkfbhhopkoopaa", sum := "c10001d8a06ae7bf811092f45ddac3d75df2419cd6569b35a3b14742a4da80bc", func := "chapman/chapmanlaw15.ConstraintKeeps", spec := "constraintKeeps", inPlace := ["math/bits.Add64"], unfollowed := true, recurses := true, apart := false }
def ConstraintKeepsSaid : Prop := constraintKeepsRow.holds Try.pinned (OpenSpec.ofChange constraintKeepsSpec)

/-- ITS FALSE NEIGHBOUR: 'it returns false'. Refute it at one input. -/
def constraintKeepsWrong : ChangeSpec := { name := "constraintKeeps", fn := fun _ => fun
  | [d1, d2, d3] => { results := [.lit (.bool false)], args := [d1, d2, d3] }
  | _ => none }
def ConstraintKeepsWrongFalsely : Prop := constraintKeepsRow.holds Try.pinned (OpenSpec.ofChange constraintKeepsWrong)

/-- 'chapmanlaw15.ConstraintSums': WHATEVER THE INPUT: true; the input reads as it did. -/
def constraintSumsSpec : ChangeSpec := { name := "constraintSums", fn := fun _ => fun
  | [d1, d2, d3] => { results := [.lit (.bool true)], args := [d1, d2, d3] }
  | _ => none }
def constraintSumsRow : OpenClaim := { program := "ytlkfbhhopkoopaa", sum := "c10001d8a06ae7bf811092f45ddac3d75df2419cd6569b35a3b14742a4da80bc", func := "chapman/chapmanlaw15.ConstraintSums", spec := "constraintSums", inPlace := ["math/bits.Add64"], unfollowed := true, recurses := true, apart := false }
def ConstraintSumsSaid : Prop := constraintSumsRow.holds Try.pinned (OpenSpec.ofChange constraintSumsSpec)

/-- ITS FALSE NEIGHBOUR: 'it returns false'. Refute it at one input. -/
def constraintSumsWrong : ChangeSpec := { name := "constraintSums", fn := fun _ => fun
  | [d1, d2, d3] => { results := [.lit (.bool false)], args := [d1, d2, d3] }
  | _ => none }
def ConstraintSumsWrongFalsely : Prop := constraintSumsRow.holds Try.pinned (OpenSpec.ofChange constraintSumsWrong)

/- THE SECOND FORM. 'bulk': how many values and letters a reading holds, each counted each time it is reached (what is shared counts as often as it is met; a slice's spare places count too). A statement '..UptoSaid' is the law's where the arguments, and the package variables that the reading takes, are together of bulk at most 1048576: NARROWER than '..Said'. Prove '..Said' where nothing that the law and all that it calls make is longer than what came in: it says more and counts as full. Else prove '..UptoSaid'. A law counts once. -/
mutual
def uptoBulk {H : Type} : DataW H → Nat
  | .lit (.string bytes) => bytes.length + 1
  | .lit _ => 1
  | .nil => 1
  | .ptr d => uptoBulk d + 1
  | .slice elems spare => uptoBulkAll elems + uptoBulkAll spare + 1
  | .agg parts => uptoBulkAll parts + 1
  | .iface _ d => uptoBulk d + 1
  | .map entries => uptoBulkEntries entries + 1
  | .held _ => 1
def uptoBulkAll {H : Type} : List (DataW H) → Nat
  | [] => 0
  | d :: r => uptoBulk d + uptoBulkAll r
def uptoBulkEntries {H : Type} : List (Lit × DataW H) → Nat
  | [] => 0
  | x :: r => uptoBulkEntry x + uptoBulkEntries r
def uptoBulkEntry {H : Type} : Lit × DataW H → Nat
  | (.string bytes, d) => bytes.length + uptoBulk d + 1
  | (_, d) => uptoBulk d + 1
 end
def uptoSmall : (H : Type) → List (DataW H) → Bool := fun _ ds => decide (uptoBulkAll ds ≤ 1048576)
def OpenSpec.upto (s : _root_.Go.ChangeSpec) : _root_.Go.OpenSpec := { _root_.Go.OpenSpec.ofChange s with cond := some uptoSmall }

/-- 'chapmanlaw15.ConstraintMatchesReference', WHERE WHAT IT READS IS OF BULK AT MOST 1048576: true; the input reads as it did. -/
def constraintMatchesReferenceUptoRow : OpenClaim := { program := "ytlkfbhhopkoopaa", sum := "c10001d8a06ae7bf811092f45ddac3d75df2419cd6569b35a3b14742a4da80bc", func := "chapman/chapmanlaw15.ConstraintMatchesReference", spec := "constraintMatchesReference", inPlace := ["math/bits.Add64"], unfollowed := true, recurses := true, apart := false, narrowed := true }
def ConstraintMatchesReferenceUptoSaid : Prop := constraintMatchesReferenceUptoRow.holds Try.pinned (OpenSpec.upto constraintMatchesReferenceSpec)

/-- 'chapmanlaw15.ConstraintMeaning', WHERE WHAT IT READS IS OF BULK AT MOST 1048576: true; the input reads as it did. -/
def constraintMeaningUptoRow : OpenClaim := { program := "ytlkfbhhopkoopaa", sum := "c10001d8a06ae7bf811092f45ddac3d75df2419cd6569b35a3b14742a4da80bc", func := "chapman/chapmanlaw15.ConstraintMeaning", spec := "constraintMeaning", inPlace := ["math/bits.Add64"], unfollowed := true, recurses := true, apart := false, narrowed := true }
def ConstraintMeaningUptoSaid : Prop := constraintMeaningUptoRow.holds Try.pinned (OpenSpec.upto constraintMeaningSpec)

/-- 'chapmanlaw15.ConstraintRows', WHERE WHAT IT READS IS OF BULK AT MOST 1048576: true; the input reads as it did. -/
def constraintRowsUptoRow : OpenClaim := { program := "ytlkfbhhopkoopaa", sum := "c10001d8a06ae7bf811092f45ddac3d75df2419cd6569b35a3b14742a4da80bc", func := "chapman/chapmanlaw15.ConstraintRows", spec := "constraintRows", inPlace := ["math/bits.Add64"], unfollowed := true, recurses := true, apart := false, narrowed := true }
def ConstraintRowsUptoSaid : Prop := constraintRowsUptoRow.holds Try.pinned (OpenSpec.upto constraintRowsSpec)

/-- 'chapmanlaw15.ConstraintDeletes', WHERE WHAT IT READS IS OF BULK AT MOST 1048576: true; the input reads as it did. -/
def constraintDeletesUptoRow : OpenClaim := { program := "ytlkfbhhopkoopaa", sum := "c10001d8a06ae7bf811092f45ddac3d75df2419cd6569b35a3b14742a4da80bc", func := "chapman/chapmanlaw15.ConstraintDeletes", spec := "constraintDeletes", inPlace := ["math/bits.Add64"], unfollowed := true, recurses := true, apart := false, narrowed := true }
def ConstraintDeletesUptoSaid : Prop := constraintDeletesUptoRow.holds Try.pinned (OpenSpec.upto constraintDeletesSpec)

/-- 'chapmanlaw15.ConstraintKeeps', WHERE WHAT IT READS IS OF BULK AT MOST 1048576: true; the input reads as it did. -/
def constraintKeepsUptoRow : OpenClaim := { program := "ytlkfbhhopkoopaa", sum := "c10001d8a06ae7bf811092f45ddac3d75df2419cd6569b35a3b14742a4da80bc", func := "chapman/chapmanlaw15.ConstraintKeeps", spec := "constraintKeeps", inPlace := ["math/bits.Add64"], unfollowed := true, recurses := true, apart := false, narrowed := true }
def ConstraintKeepsUptoSaid : Prop := constraintKeepsUptoRow.holds Try.pinned (OpenSpec.upto constraintKeepsSpec)

/-- 'chapmanlaw15.ConstraintSums', WHERE WHAT IT READS IS OF BULK AT MOST 1048576: true; the input reads as it did. -/
def constraintSumsUptoRow : OpenClaim := { program := "ytlkfbhhopkoopaa", sum := "c10001d8a06ae7bf811092f45ddac3d75df2419cd6569b35a3b14742a4da80bc", func := "chapman/chapmanlaw15.ConstraintSums", spec := "constraintSums", inPlace := ["math/bits.Add64"], unfollowed := true, recurses := true, apart := false, narrowed := true }
def ConstraintSumsUptoSaid : Prop := constraintSumsUptoRow.holds Try.pinned (OpenSpec.upto constraintSumsSpec)

end Rows
end Go.Proofs.Ytlkfbhhopkoopaa

/-
  No cell of these rows narrows 'for every input' (looked for: loops, veiled, ifaces, maps, wideKeys, modest, calm, conditions, laid).
  DERIVED. THE GIVEN ROWS OF THIS SEAT. 6 by the template 'for every input the law returns true; each argument reads behind the call as it read before'; 0 by the template 'total and deterministic' (their statements: YtalbfikfbejnfaaTotals.lean).
  GIVEN WITH THE SEED: the statements are not yours to turn. If you find one false, say at which input.
  Laid BY PROGRAM, IN A SANDBOX (cutbox-rows.mjs): the forced cells as the released guide's own fill.sh prints them over the translation f5ede9cc8505b582… (all of the seat's roots in one cut). By AI agents, Wed Nov 11 2026. No macro, syntax, notation, axiom, sorry.
-/
import Derived.Test.YtalbfikfbejnfaaChecked
import GoSem.Claim
import GoSem.ClaimJoined
import GoSem.ClaimMapViews
import Derived.JoinedTies
import Derived.KernelRfl
namespace Go.Proofs.Ytalbfikfbejnfaa
/- THE CELL 'sum', in the pinned program and in every row, IS THE sha256 OF THE DUMP (.gsa) THAT YtalbfikfbejnfaaProg.lean LOADS. Nothing in Lean hashes anything: it is a label: what it is worth is what the hold of that sum in a sandbox is worth. -/
noncomputable def Try.pinned : Pinned := { name := "ytalbfikfbejnfaa", sum := "f5ede9cc8505b5820ea91494461fe0a080a7a7a627d97e66a99d226ea36b0137", checked := Try.checked }
namespace Rows
def none {H : Type} : Left H := { results := [], args := [] }

/-- 'chapmanlaw22.OrsetMatchesReference': WHATEVER THE INPUT: true; the input reads as it did. -/
def orsetMatchesReferenceSpec : ChangeSpec := { name := "orsetMatchesReference", fn := fun _ => fun
  | [d1, d2, d3] => { results := [.lit (.bool true)], args := [d1, d2, d3] }
  | _ => none }
def orsetMatchesReferenceRow : OpenClaim := { program := "ytalbfikfbejnfaa", sum := "f5ede9cc8505b5820ea91494461fe0a080a7a7a627d97e66a99d226ea36b0137", func := "chapman/chapmanlaw22.OrsetMatchesReference", spec := "orsetMatchesReference", unfollowed := true, recurses := true, apart := false }
def OrsetMatchesReferenceSaid : Prop := orsetMatchesReferenceRow.holds Try.pinned (OpenSpec.ofChange orsetMatchesReferenceSpec)

/-- ITS FALSE NEIGHBOUR: 'it returns false'. Refute it at one input. -/
def orsetMatchesReferenceWrong : ChangeSpec := { name := "orsetMatchesReference", fn := fun _ => fun
  | [d1, d2, d3] => { results := [.lit (.bool false)], args := [d1, d2, d3] }
  | _ => none }
def OrsetMatchesReferenceWrongFalsely : Prop := orsetMatchesReferenceRow.holds Try.pinned (OpenSpec.ofChange orsetMatchesReferenceWrong)

/-- 'chapmanlaw22.OrsetCommutes': WHATEVER THE INPUT: true; the input reads as it did. -/
def orsetCommutesSpec : ChangeSpec := { name := "orsetCommutes", fn := fun _ => fun
  | [d1, d2, d3] => { results := [.lit (.bool true)], args := [d1, d2, d3] }
  | _ => none }
def orsetCommutesRow : OpenClaim := { program := "ytalbfikfbejnfaa", sum := "f5ede9cc8505b5820ea91494461fe0a080a7a7a627d97e66a99d226ea36b0137", func := "chapman/chapmanlaw22.OrsetCommutes", spec := "orsetCommutes", unfollowed := true, recurses := true, apart := false }
def OrsetCommutesSaid : Prop := orsetCommutesRow.holds Try.pinned (OpenSpec.ofChange orsetCommutesSpec)

/-- ITS FALSE NEIGHBOUR: 'it returns false'. Refute it at one input. -/
def orsetCommutesWrong : ChangeSpec := { name := "orsetCommutes", fn := fun _ => fun
  | [d1, d2, d3] => { results := [.lit (.bool false)], args := [d1, d2, d3] }
  | _ => none }
def OrsetCommutesWrongFalsely : Prop := orsetCommutesRow.holds Try.pinned (OpenSpec.ofChange orsetCommutesWrong)

/-- 'chapmanlaw22.OrsetObserves': WHATEVER THE INPUT: true; the input reads as it did. -/
def orsetObservesSpec : ChangeSpec := { name := "orsetObserves", fn := fun _ => fun
  | [d1, d2, d3] => { results := [.lit (.bool true)], args := [d1, d2, d3] }
  | _ => none }
def orsetObservesRow : OpenClaim := { program := "ytalbfikfbejnfaa", sum := "f5ede9cc8505b5820ea91494461fe0a080a7a7a627d97e66a99d226ea36b0137", func := "chapman/chapmanlaw22.OrsetObserves", spec := "orsetObserves", unfollowed := true, recurses := true, apart := false }
def OrsetObservesSaid : Prop := orsetObservesRow.holds Try.pinned (OpenSpec.ofChange orsetObservesSpec)

/-- ITS FALSE NEIGHBOUR: 'it returns false'. Refute it at one input. -/
def orsetObservesWrong : ChangeSpec := { name := "orsetObserves", fn := fun _ => fun
  | [d1, d2, d3] => { results := [.lit (.bool false)], args := [d1, d2, d3] }
  | _ => none }
def OrsetObservesWrongFalsely : Prop := orsetObservesRow.holds Try.pinned (OpenSpec.ofChange orsetObservesWrong)

/-- 'chapmanlaw22.OrsetDrops': WHATEVER THE INPUT: true; the input reads as it did. -/
def orsetDropsSpec : ChangeSpec := { name := "orsetDrops", fn := fun _ => fun
  | [d1, d2, d3] => { results := [.lit (.bool true)], args := [d1, d2, d3] }
  | _ => none }
def orsetDropsRow : OpenClaim := { program := "ytalbfikfbejnfaa", sum := "f5ede9cc8505b5820ea91494461fe0a080a7a7a627d97e66a99d226ea36b0137", func := "chapman/chapmanlaw22.OrsetDrops", spec := "orsetDrops", unfollowed := true, recurses := true, apart := false }
def OrsetDropsSaid : Prop := orsetDropsRow.holds Try.pinned (OpenSpec.ofChange orsetDropsSpec)

/-- ITS FALSE NEIGHBOUR: 'it returns false'. Refute it at one input. -/
def orsetDropsWrong : ChangeSpec := { name := "orsetDrops", fn := fun _ => fun
  | [d1, d2, d3] => { results := [.lit (.bool false)], args := [d1, d2, d3] }
  | _ => none }
def OrsetDropsWrongFalsely : Prop := orsetDropsRow.holds Try.pinned (OpenSpec.ofChange orsetDropsWrong)

/-- 'chapmanlaw22.OrsetLattice': WHATEVER THE INPUT: true; the input reads as it did. -/
def orsetLatticeSpec : ChangeSpec := { name := "orsetLattice", fn := fun _ => fun
  | [d1, d2, d3] => { results := [.lit (.bool true)], args := [d1, d2, d3] }
  | _ => none }
def orsetLatticeRow : OpenClaim := { program := "ytalbfikfbejnfaa", sum := "f5ede9cc8505b5820ea91494461fe0a080a7a7a627d97e66a99d226ea36b0137", func := "chapman/chapmanlaw22.OrsetLattice", spec := "orsetLattice", unfollowed := true, recurses := true, apart := false }
def OrsetLatticeSaid : Prop := orsetLatticeRow.holds Try.pinned (OpenSpec.ofChange orsetLatticeSpec)

/-- ITS FALSE NEIGHBOUR: 'it returns false'. Refute it at one input. -/
def orsetLatticeWrong : ChangeSpec := { name := "orsetLattice", fn := fun _ => fun
  | [d1, d2, d3] => { results := [.lit (.bool false)], args := [d1, d2, d3] }
  | _ => none }
def OrsetLatticeWrongFalsely : Prop := orsetLatticeRow.holds Try.pinned (OpenSpec.ofChange orsetLatticeWrong)

/-- 'chapmanlaw22.OrsetReplicas': WHATEVER THE INPUT: true; the input reads as it did. -/
def orsetReplicasSpec : ChangeSpec := { name := "orsetReplicas", fn := fun _ => fun
  | [d1, d2, d3] => { results := [.lit (.bool true)], args := [d1, d2, d3] }
  | _ => none }
def orsetReplicasRow : OpenClaim := { program := "ytalbfikfbejnfaa", sum := "f5ede9cc8505b5820ea91494461fe0a080a7a7a627d97e66a99d226ea36b0137", func := "chapman/chapmanlaw22.OrsetReplicas", spec := "orsetReplicas", unfollowed := true, recurses := true, apart := false }
def OrsetReplicasSaid : Prop := orsetReplicasRow.holds Try.pinned (OpenSpec.ofChange orsetReplicasSpec)

/-- ITS FALSE NEIGHBOUR: 'it returns false'. Refute it at one input. -/
def orsetReplicasWrong : ChangeSpec := { name := "orsetReplicas", fn := fun _ => fun
  | [d1, d2, d3] => { results := [.lit (.bool false)], args := [d1, d2, d3] }
  | _ => none }
def OrsetReplicasWrongFalsely : Prop := orsetReplicasRow.holds Try.pinned (OpenSpec.ofChange orsetReplicasWrong)

/- THE SECOND FORM. 'bulk': how many values and letters a reading holds, each counted each time it is reached (what is shared counts as often as it is met; a slice's spare places count too). A statement '..UptoSaid' is the law's where the arguments, and the package variables that the reading takes, are together of bulk at most 1048576: NARROWER than '..Said'. Prove '..Said' where nothing that the law and all that it calls make is longer than what came in: it says more and counts as full. Else prove '..UptoSaid'. A law counts once. -/
mutual
def uptoBulk {H : Type} : DataW H → Nat
  | .lit (.string bytes) => bytes.length + 1
  | .lit _ => 1
  | .nil => 1
  | .ptr d => uptoBulk d + 1
  | .slice elems spare => uptoBulkAll elems + uptoBulkAll spare + 1
  | .agg parts => uptoBulkAll parts + 1
  | .iface _ d => uptoBulk d + 1
  | .map entries => uptoBulkEntries entries + 1
  | .held _ => 1
def uptoBulkAll {H : Type} : List (DataW H) → Nat
  | [] => 0
  | d :: r => uptoBulk d + uptoBulkAll r
def uptoBulkEntries {H : Type} : List (Lit × DataW H) → Nat
  | [] => 0
  | x :: r => uptoBulkEntry x + uptoBulkEntries r
def uptoBulkEntry {H : Type} : Lit × DataW H → Nat
  | (.string bytes, d) => bytes.length + uptoBulk d + 1
  | (_, d) => uptoBulk d + 1
 end
def uptoSmall : (H : Type) → List (DataW H) → Bool := fun _ ds => decide (uptoBulkAll ds ≤ 1048576)
def OpenSpec.upto (s : _root_.Go.ChangeSpec) : _root_.Go.OpenSpec := { _root_.Go.OpenSpec.ofChange s with cond := some uptoSmall }

/-- 'chapmanlaw22.OrsetMatchesReference', WHERE WHAT IT READS IS OF BULK AT MOST 1048576: true; the input reads as it did. -/
def orsetMatchesReferenceUptoRow : OpenClaim := { program := "ytalbfikfbejnfaa", sum := "f5ede9cc8505b5820ea91494461fe0a080a7a7a627d97e66a99d226ea36b0137", func := "chapman/chapmanlaw22.OrsetMatchesReference", spec := "orsetMatchesReference", unfollowed := true, recurses := true, apart := false, narrowed := true }
def OrsetMatchesReferenceUptoSaid : Prop := orsetMatchesReferenceUptoRow.holds Try.pinned (OpenSpec.upto orsetMatchesReferenceSpec)

/-- 'chapmanlaw22.OrsetCommutes', WHERE WHAT IT READS IS OF BULK AT MOST 1048576: true; the input reads as it did. -/
def orsetCommutesUptoRow : OpenClaim := { program := "ytalbfikfbejnfaa", sum := "f5ede9cc8505b5820ea91494461fe0a080a7a7a627d97e66a99d226ea36b0137", func := "chapman/chapmanlaw22.OrsetCommutes", spec := "orsetCommutes", unfollowed := true, recurses := true, apart := false, narrowed := true }
def OrsetCommutesUptoSaid : Prop := orsetCommutesUptoRow.holds Try.pinned (OpenSpec.upto orsetCommutesSpec)

/-- 'chapmanlaw22.OrsetObserves', WHERE WHAT IT READS IS OF BULK AT MOST 1048576: true; the input reads as it did. -/
def orsetObservesUptoRow : OpenClaim := { program := "ytalbfikfbejnfaa", sum := "f5ede9cc8505b5820ea91494461fe0a080a7a7a627d97e66a99d226ea36b0137", func := "chapman/chapmanlaw22.OrsetObserves", spec := "orsetObserves", unfollowed := true, recurses := true, apart := false, narrowed := true }
def OrsetObservesUptoSaid : Prop := orsetObservesUptoRow.holds Try.pinned (OpenSpec.upto orsetObservesSpec)

/-- 'chapmanlaw22.OrsetDrops', WHERE WHAT IT READS IS OF BULK AT MOST 1048576: true; the input reads as it did. -/
def orsetDropsUptoRow : OpenClaim := { program := "ytalbfikfbejnfaa", sum := "f5ede9cc8505b5820ea91494461fe0a080a7a7a627d97e66a99d226ea36b0137", func := "chapman/chapmanlaw22.OrsetDrops", spec := "orsetDrops", unfollowed := true, recurses := true, apart := false, narrowed := true }
def OrsetDropsUptoSaid : Prop := orsetDropsUptoRow.holds Try.pinned (OpenSpec.upto orsetDropsSpec)

/-- 'chapmanlaw22.OrsetLattice', WHERE WHAT IT READS IS OF BULK AT MOST 1048576: true; the input reads as it did. -/
def orsetLatticeUptoRow : OpenClaim := { program := "ytalbfikfbejnfaa", sum := "f5ede9cc8505b5820ea91494461fe0a080a7a7a627d97e66a99d226ea36b0137", func := "chapman/chapmanlaw22.OrsetLattice", spec := "orsetLattice", unfollowed := true, recurses := true, apart := false, narrowed := true }
def OrsetLatticeUptoSaid : Prop := orsetLatticeUptoRow.holds Try.pinned (OpenSpec.upto orsetLatticeSpec)

/-- 'chapmanlaw22.OrsetReplicas', WHERE WHAT IT READS IS OF BULK AT MOST 1048576: true; the input reads as it did. -/
def orsetReplicasUptoRow : OpenClaim := { program := "ytalbfikfbejnfaa", sum := "f5ede9cc8505b5820ea91494461fe0a080a7a7a627d97e66a99d226ea36b0137", func := "chapman/chapmanlaw22.OrsetReplicas", spec := "orsetReplicas", unfollowed := true, recurses := true, apart := false, narrowed := true }
def OrsetReplicasUptoSaid : Prop := orsetReplicasUptoRow.holds Try.pinned (OpenSpec.upto orsetReplicasSpec)

end Rows
end Go.Proofs.Ytalbfikfbejnfaa

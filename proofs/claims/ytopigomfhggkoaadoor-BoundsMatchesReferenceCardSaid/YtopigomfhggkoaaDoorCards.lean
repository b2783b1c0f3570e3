/-
  DERIVED. GIVEN WITH THE SEED: THE CARDS: each row of YtopigomfhggkoaaDoorRows.lean that lists a variable, with what it lists TIED to the program's text (the seventh form; the later family's looks); each row that meets fmt, with fmt's text TOLD by the authors' own Lean function (tested against real Go, not proved from fmt's source: count such statements apart). THE CARD IS WHAT COUNTS. Prove the row's statement (the work); the ties are given (YtopigomfhggkoaaDoorTie.lean); close each card by the builder's one call (the guide's Derived/Test/ToyasCard.lean, 'card_holds'). Laid BY PROGRAM, IN A SANDBOX (cutbox-door.mjs). By AI agents, Wed Nov 11 2026. No macro, syntax, notation, axiom, sorry.
-/
import Derived.Test.YtopigomfhggkoaaDoorRows
import GoSem.ClaimSeven
namespace Go.Proofs.YtopigomfhggkoaaDoor
namespace Rows

/-- THE TIED CARD OF 'chapmanlaw29.BoundsMatchesReference'. -/
def boundsMatchesReferenceCard : Claim7 := { stood := { row := boundsMatchesReferenceRow, standIns := [], harness := (true, "6b8f459bb44af10020b07d1f80175891df78fd5f99a69c7fee2133631b05bda5"), looks := false }, kinds := [], alts := [], laidByText := true, laidKinds := [.funcs, .data, .mapped, .funcs, .funcs], laidTests := true, laidLooks := .later }
def BoundsMatchesReferenceCardSaid : Prop := Claim7.holds Tryd.pinned (.plain (OpenSpec.ofChange boundsMatchesReferenceSpec)) boundsMatchesReferenceCard

/-- THE TIED CARD OF 'chapmanlaw29.BoundsOf'. -/
def boundsOfCard : Claim7 := { stood := { row := boundsOfRow, standIns := [], harness := (true, "6b8f459bb44af10020b07d1f80175891df78fd5f99a69c7fee2133631b05bda5"), looks := false }, kinds := [], alts := [], laidByText := true, laidKinds := [.funcs, .data, .mapped, .funcs, .funcs], laidTests := true, laidLooks := .later }
def BoundsOfCardSaid : Prop := Claim7.holds Tryd.pinned (.plain (OpenSpec.ofChange boundsOfSpec)) boundsOfCard

/-- THE TIED CARD OF 'chapmanlaw29.BoundsMerge'. -/
def boundsMergeCard : Claim7 := { stood := { row := boundsMergeRow, standIns := [], harness := (true, "6b8f459bb44af10020b07d1f80175891df78fd5f99a69c7fee2133631b05bda5"), looks := false }, kinds := [], alts := [], laidByText := true, laidKinds := [.funcs, .data, .mapped, .funcs, .funcs], laidTests := true, laidLooks := .later }
def BoundsMergeCardSaid : Prop := Claim7.holds Tryd.pinned (.plain (OpenSpec.ofChange boundsMergeSpec)) boundsMergeCard

/-- THE TIED CARD OF 'chapmanlaw29.BoundsMonotone'. -/
def boundsMonotoneCard : Claim7 := { stood := { row := boundsMonotoneRow, standIns := [], harness := (true, "6b8f459bb44af10020b07d1f80175891df78fd5f99a69c7fee2133631b05bda5"), looks := false }, kinds := [], alts := [], laidByText := true, laidKinds := [.funcs, .data, .mapped, .funcs, .funcs], laidTests := true, laidLooks := .later }
def BoundsMonotoneCardSaid : Prop := Claim7.holds Tryd.pinned (.plain (OpenSpec.ofChange boundsMonotoneSpec)) boundsMonotoneCard

/-- THE SECOND FORM's CARD OF 'chapmanlaw29.BoundsMatchesReference'. -/
def boundsMatchesReferenceUptoCard : Claim7 := { stood := { row := boundsMatchesReferenceUptoRow, standIns := [], harness := (true, "6b8f459bb44af10020b07d1f80175891df78fd5f99a69c7fee2133631b05bda5"), looks := false }, kinds := [], alts := [], laidByText := true, laidKinds := [.funcs, .data, .mapped, .funcs, .funcs], laidTests := true, laidLooks := .later }
def BoundsMatchesReferenceUptoCardSaid : Prop := Claim7.holds Tryd.pinned (.plain (OpenSpec.upto boundsMatchesReferenceSpec)) boundsMatchesReferenceUptoCard

/-- THE SECOND FORM's CARD OF 'chapmanlaw29.BoundsOf'. -/
def boundsOfUptoCard : Claim7 := { stood := { row := boundsOfUptoRow, standIns := [], harness := (true, "6b8f459bb44af10020b07d1f80175891df78fd5f99a69c7fee2133631b05bda5"), looks := false }, kinds := [], alts := [], laidByText := true, laidKinds := [.funcs, .data, .mapped, .funcs, .funcs], laidTests := true, laidLooks := .later }
def BoundsOfUptoCardSaid : Prop := Claim7.holds Tryd.pinned (.plain (OpenSpec.upto boundsOfSpec)) boundsOfUptoCard

/-- THE SECOND FORM's CARD OF 'chapmanlaw29.BoundsMerge'. -/
def boundsMergeUptoCard : Claim7 := { stood := { row := boundsMergeUptoRow, standIns := [], harness := (true, "6b8f459bb44af10020b07d1f80175891df78fd5f99a69c7fee2133631b05bda5"), looks := false }, kinds := [], alts := [], laidByText := true, laidKinds := [.funcs, .data, .mapped, .funcs, .funcs], laidTests := true, laidLooks := .later }
def BoundsMergeUptoCardSaid : Prop := Claim7.holds Tryd.pinned (.plain (OpenSpec.upto boundsMergeSpec)) boundsMergeUptoCard

/-- THE SECOND FORM's CARD OF 'chapmanlaw29.BoundsMonotone'. -/
def boundsMonotoneUptoCard : Claim7 := { stood := { row := boundsMonotoneUptoRow, standIns := [], harness := (true, "6b8f459bb44af10020b07d1f80175891df78fd5f99a69c7fee2133631b05bda5"), looks := false }, kinds := [], alts := [], laidByText := true, laidKinds := [.funcs, .data, .mapped, .funcs, .funcs], laidTests := true, laidLooks := .later }
def BoundsMonotoneUptoCardSaid : Prop := Claim7.holds Tryd.pinned (.plain (OpenSpec.upto boundsMonotoneSpec)) boundsMonotoneUptoCard
end Rows
end Go.Proofs.YtopigomfhggkoaaDoor

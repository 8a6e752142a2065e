/-
  DERIVED. GIVEN WITH THE SEED: THE CARDS: each row of YtdidhelkmnkhcaaDoorRows.lean that lists a variable, with what it lists TIED to the program's text (the seventh form; the later family's looks); each row that meets fmt, with fmt's text TOLD by the authors' own Lean function (tested against real Go, not proved from fmt's source: count such statements apart). THE CARD IS WHAT COUNTS. Prove the row's statement (the work); the ties are given (YtdidhelkmnkhcaaDoorTie.lean); close each card by the builder's one call (the guide's Derived/Test/ToyasCard.lean, 'card_holds'). Laid BY PROGRAM, IN A SANDBOX (cutbox-door.mjs). By AI agents, Wed Nov 11 2026. No macro, syntax, notation, axiom, sorry.
-/
import Derived.Test.YtdidhelkmnkhcaaDoorRows
import GoSem.ClaimSeven
namespace Go.Proofs.YtdidhelkmnkhcaaDoor
namespace Rows

/-- THE TIED CARD OF 'toolchestlaw18.WalkNests'. -/
def walkNestsCard : Claim7 := { stood := { row := walkNestsRow, standIns := [], harness := (true, "bf1d3394af551be5f4cf519a7b727d3209d21d60183e3a37b7db6fe5ef818897"), looks := false }, kinds := [], alts := [], laidByText := true, laidKinds := [.data, .pinned], laidTests := true, laidLooks := .later }
def WalkNestsCardSaid : Prop := Claim7.holds Tryd.pinned (.plain (OpenSpec.ofChange walkNestsSpec)) walkNestsCard

/-- THE TIED CARD OF 'toolchestlaw18.WalkAll'. -/
def walkAllCard : Claim7 := { stood := { row := walkAllRow, standIns := [], harness := (true, "bf1d3394af551be5f4cf519a7b727d3209d21d60183e3a37b7db6fe5ef818897"), looks := false }, kinds := [], alts := [], laidByText := true, laidKinds := [.data, .pinned], laidTests := true, laidLooks := .later }
def WalkAllCardSaid : Prop := Claim7.holds Tryd.pinned (.plain (OpenSpec.ofChange walkAllSpec)) walkAllCard

/-- THE TIED CARD OF 'toolchestlaw14.PathsParts'. -/
def pathsPartsCard : Claim7 := { stood := { row := pathsPartsRow, standIns := [], harness := (true, "bf1d3394af551be5f4cf519a7b727d3209d21d60183e3a37b7db6fe5ef818897"), looks := false }, kinds := [], alts := [], laidByText := true, laidKinds := [.data, .pinned], laidTests := true, laidLooks := .later }
def PathsPartsCardSaid : Prop := Claim7.holds Tryd.pinned (.plain (OpenSpec.ofChange pathsPartsSpec)) pathsPartsCard

/-- THE TIED CARD OF 'toolchestlaw14.PathsIdle'. -/
def pathsIdleCard : Claim7 := { stood := { row := pathsIdleRow, standIns := [], harness := (true, "bf1d3394af551be5f4cf519a7b727d3209d21d60183e3a37b7db6fe5ef818897"), looks := false }, kinds := [], alts := [], laidByText := true, laidKinds := [.data, .pinned], laidTests := true, laidLooks := .later }
def PathsIdleCardSaid : Prop := Claim7.holds Tryd.pinned (.plain (OpenSpec.ofChange pathsIdleSpec)) pathsIdleCard

/-- THE TIED CARD OF 'toolchestlaw14.PathsSplit'. -/
def pathsSplitCard : Claim7 := { stood := { row := pathsSplitRow, standIns := [], harness := (true, "bf1d3394af551be5f4cf519a7b727d3209d21d60183e3a37b7db6fe5ef818897"), looks := false }, kinds := [], alts := [], laidByText := true, laidKinds := [.data, .pinned], laidTests := true, laidLooks := .later }
def PathsSplitCardSaid : Prop := Claim7.holds Tryd.pinned (.plain (OpenSpec.ofChange pathsSplitSpec)) pathsSplitCard

/-- THE TIED CARD OF 'toolchestlaw14.PathsBack'. -/
def pathsBackCard : Claim7 := { stood := { row := pathsBackRow, standIns := [], harness := (true, "bf1d3394af551be5f4cf519a7b727d3209d21d60183e3a37b7db6fe5ef818897"), looks := false }, kinds := [], alts := [], laidByText := true, laidKinds := [.data, .pinned], laidTests := true, laidLooks := .later }
def PathsBackCardSaid : Prop := Claim7.holds Tryd.pinned (.plain (OpenSpec.ofChange pathsBackSpec)) pathsBackCard

/-- THE SECOND FORM's CARD OF 'toolchestlaw18.WalkNests'. -/
def walkNestsUptoCard : Claim7 := { stood := { row := walkNestsUptoRow, standIns := [], harness := (true, "bf1d3394af551be5f4cf519a7b727d3209d21d60183e3a37b7db6fe5ef818897"), looks := false }, kinds := [], alts := [], laidByText := true, laidKinds := [.data, .pinned], laidTests := true, laidLooks := .later }
def WalkNestsUptoCardSaid : Prop := Claim7.holds Tryd.pinned (.plain (OpenSpec.upto walkNestsSpec)) walkNestsUptoCard

/-- THE SECOND FORM's CARD OF 'toolchestlaw18.WalkAll'. -/
def walkAllUptoCard : Claim7 := { stood := { row := walkAllUptoRow, standIns := [], harness := (true, "bf1d3394af551be5f4cf519a7b727d3209d21d60183e3a37b7db6fe5ef818897"), looks := false }, kinds := [], alts := [], laidByText := true, laidKinds := [.data, .pinned], laidTests := true, laidLooks := .later }
def WalkAllUptoCardSaid : Prop := Claim7.holds Tryd.pinned (.plain (OpenSpec.upto walkAllSpec)) walkAllUptoCard

/-- THE SECOND FORM's CARD OF 'toolchestlaw14.PathsParts'. -/
def pathsPartsUptoCard : Claim7 := { stood := { row := pathsPartsUptoRow, standIns := [], harness := (true, "bf1d3394af551be5f4cf519a7b727d3209d21d60183e3a37b7db6fe5ef818897"), looks := false }, kinds := [], alts := [], laidByText := true, laidKinds := [.data, .pinned], laidTests := true, laidLooks := .later }
def PathsPartsUptoCardSaid : Prop := Claim7.holds Tryd.pinned (.plain (OpenSpec.upto pathsPartsSpec)) pathsPartsUptoCard

/-- THE SECOND FORM's CARD OF 'toolchestlaw14.PathsIdle'. -/
def pathsIdleUptoCard : Claim7 := { stood := { row := pathsIdleUptoRow, standIns := [], harness := (true, "bf1d3394af551be5f4cf519a7b727d3209d21d60183e3a37b7db6fe5ef818897"), looks := false }, kinds := [], alts := [], laidByText := true, laidKinds := [.data, .pinned], laidTests := true, laidLooks := .later }
def PathsIdleUptoCardSaid : Prop := Claim7.holds Tryd.pinned (.plain (OpenSpec.upto pathsIdleSpec)) pathsIdleUptoCard

/-- THE SECOND FORM's CARD OF 'toolchestlaw14.PathsSplit'. -/
def pathsSplitUptoCard : Claim7 := { stood := { row := pathsSplitUptoRow, standIns := [], harness := (true, "bf1d3394af551be5f4cf519a7b727d3209d21d60183e3a37b7db6fe5ef818897"), looks := false }, kinds := [], alts := [], laidByText := true, laidKinds := [.data, .pinned], laidTests := true, laidLooks := .later }
def PathsSplitUptoCardSaid : Prop := Claim7.holds Tryd.pinned (.plain (OpenSpec.upto pathsSplitSpec)) pathsSplitUptoCard

/-- THE SECOND FORM's CARD OF 'toolchestlaw14.PathsBack'. -/
def pathsBackUptoCard : Claim7 := { stood := { row := pathsBackUptoRow, standIns := [], harness := (true, "bf1d3394af551be5f4cf519a7b727d3209d21d60183e3a37b7db6fe5ef818897"), looks := false }, kinds := [], alts := [], laidByText := true, laidKinds := [.data, .pinned], laidTests := true, laidLooks := .later }
def PathsBackUptoCardSaid : Prop := Claim7.holds Tryd.pinned (.plain (OpenSpec.upto pathsBackSpec)) pathsBackUptoCard
end Rows
end Go.Proofs.YtdidhelkmnkhcaaDoor

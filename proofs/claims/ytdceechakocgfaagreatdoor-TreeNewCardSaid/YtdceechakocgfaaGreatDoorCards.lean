/-
  DERIVED. GIVEN WITH THE SEED: THE CARDS: each row of YtdceechakocgfaaGreatDoorRows.lean that lists a variable, with what it lists TIED to the program's text (the seventh form; the later family's looks); each row that meets fmt, with fmt's text TOLD by the authors' own Lean function (tested against real Go, not proved from fmt's source: count such statements apart). THE CARD IS WHAT COUNTS. Prove the row's statement (the work); the ties are given (YtdceechakocgfaaGreatDoorTie.lean); close each card by the builder's one call (the guide's Derived/Test/ToyasCard.lean, 'card_holds'). Laid BY PROGRAM, IN A SANDBOX (cutbox-door.mjs). By AI agents, Wed Nov 11 2026. No macro, syntax, notation, axiom, sorry.
-/
import Derived.Test.YtdceechakocgfaaGreatDoorRows
import GoSem.ClaimSeven
namespace Go.Proofs.YtdceechakocgfaaGreatDoor
namespace Rows

/-- THE TIED CARD OF 'toolchestlaw12.TreeNew'. -/
def treeNewCard : Claim7 := { stood := { row := treeNewRow, standIns := [], harness := (true, "e32292de1f96de2229c39b0b9f5bc9ba72c3c1159cab5ba19aad9e0ebb2bd0a9"), looks := false }, kinds := [], alts := [], laidByText := true, laidKinds := [.data, .data, .data], laidTests := true, laidLooks := .later }
def TreeNewCardSaid : Prop := Claim7.holds Tryz.pinned (.plain (OpenSpec.ofChange treeNewSpec)) treeNewCard

/-- THE TIED CARD OF 'toolchestlaw18.WalkGoes'. -/
def walkGoesCard : Claim7 := { stood := { row := walkGoesRow, standIns := [], harness := (true, "e32292de1f96de2229c39b0b9f5bc9ba72c3c1159cab5ba19aad9e0ebb2bd0a9"), looks := false }, kinds := [], alts := [], laidByText := true, laidKinds := [.data, .data, .data, .data, .pinned], laidTests := true, laidLooks := .later }
def WalkGoesCardSaid : Prop := Claim7.holds Tryz.pinned (.plain (OpenSpec.ofChange walkGoesSpec)) walkGoesCard

/-- THE TIED CARD OF 'toolchestlaw18.WalkSizes'. -/
def walkSizesCard : Claim7 := { stood := { row := walkSizesRow, standIns := [], harness := (true, "e32292de1f96de2229c39b0b9f5bc9ba72c3c1159cab5ba19aad9e0ebb2bd0a9"), looks := false }, kinds := [], alts := [], laidByText := true, laidKinds := [.data, .data, .data, .data, .pinned], laidTests := true, laidLooks := .later }
def WalkSizesCardSaid : Prop := Claim7.holds Tryz.pinned (.plain (OpenSpec.ofChange walkSizesSpec)) walkSizesCard

/-- THE SECOND FORM's CARD OF 'toolchestlaw12.TreeNew'. -/
def treeNewUptoCard : Claim7 := { stood := { row := treeNewUptoRow, standIns := [], harness := (true, "e32292de1f96de2229c39b0b9f5bc9ba72c3c1159cab5ba19aad9e0ebb2bd0a9"), looks := false }, kinds := [], alts := [], laidByText := true, laidKinds := [.data, .data, .data], laidTests := true, laidLooks := .later }
def TreeNewUptoCardSaid : Prop := Claim7.holds Tryz.pinned (.plain (OpenSpec.upto treeNewSpec)) treeNewUptoCard

/-- THE SECOND FORM's CARD OF 'toolchestlaw18.WalkGoes'. -/
def walkGoesUptoCard : Claim7 := { stood := { row := walkGoesUptoRow, standIns := [], harness := (true, "e32292de1f96de2229c39b0b9f5bc9ba72c3c1159cab5ba19aad9e0ebb2bd0a9"), looks := false }, kinds := [], alts := [], laidByText := true, laidKinds := [.data, .data, .data, .data, .pinned], laidTests := true, laidLooks := .later }
def WalkGoesUptoCardSaid : Prop := Claim7.holds Tryz.pinned (.plain (OpenSpec.upto walkGoesSpec)) walkGoesUptoCard

/-- THE SECOND FORM's CARD OF 'toolchestlaw18.WalkSizes'. -/
def walkSizesUptoCard : Claim7 := { stood := { row := walkSizesUptoRow, standIns := [], harness := (true, "e32292de1f96de2229c39b0b9f5bc9ba72c3c1159cab5ba19aad9e0ebb2bd0a9"), looks := false }, kinds := [], alts := [], laidByText := true, laidKinds := [.data, .data, .data, .data, .pinned], laidTests := true, laidLooks := .later }
def WalkSizesUptoCardSaid : Prop := Claim7.holds Tryz.pinned (.plain (OpenSpec.upto walkSizesSpec)) walkSizesUptoCard
end Rows
end Go.Proofs.YtdceechakocgfaaGreatDoor

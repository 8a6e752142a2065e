/-
  DERIVED. GIVEN WITH THE SEED: THE CARDS: each row of YtbfcfjgcmideeaaGreatDoorRows.lean that lists a variable, with what it lists TIED to the program's text (the seventh form; the later family's looks); each row that meets fmt, with fmt's text TOLD by the authors' own Lean function (tested against real Go, not proved from fmt's source: count such statements apart). THE CARD IS WHAT COUNTS. Prove the row's statement (the work); the ties are given (YtbfcfjgcmideeaaGreatDoorTie.lean); close each card by the builder's one call (the guide's Derived/Test/ToyasCard.lean, 'card_holds'). Laid BY PROGRAM, IN A SANDBOX (cutbox-door.mjs). By AI agents, Wed Nov 11 2026. No macro, syntax, notation, axiom, sorry.
-/
import Derived.Test.YtbfcfjgcmideeaaGreatDoorRows
import GoSem.ClaimSeven
namespace Go.Proofs.YtbfcfjgcmideeaaGreatDoor
namespace Rows

/-- THE TIED CARD OF 'toolchestlaw18.WalkGoes'. -/
def walkGoesCard : Claim7 := { stood := { row := walkGoesRow, standIns := [], harness := (true, "689704cbe90d8c33ba7045a6306dac2492f731057221072577de331e1252b812"), looks := false }, kinds := [], alts := [], laidByText := true, laidKinds := [.data, .data, .data, .data, .pinned], laidTests := true, laidLooks := .later }
def WalkGoesCardSaid : Prop := Claim7.holds Tryz.pinned (.plain (OpenSpec.ofChange walkGoesSpec)) walkGoesCard

/-- THE TIED CARD OF 'toolchestlaw18.WalkSizes'. -/
def walkSizesCard : Claim7 := { stood := { row := walkSizesRow, standIns := [], harness := (true, "689704cbe90d8c33ba7045a6306dac2492f731057221072577de331e1252b812"), looks := false }, kinds := [], alts := [], laidByText := true, laidKinds := [.data, .data, .data, .data, .pinned], laidTests := true, laidLooks := .later }
def WalkSizesCardSaid : Prop := Claim7.holds Tryz.pinned (.plain (OpenSpec.ofChange walkSizesSpec)) walkSizesCard

/-- THE TIED CARD OF 'toolchestlaw15.CallsKeep'. -/
def callsKeepCard : Claim7 := { stood := { row := callsKeepRow, standIns := [], harness := (true, "689704cbe90d8c33ba7045a6306dac2492f731057221072577de331e1252b812"), looks := false }, kinds := [], alts := [], laidByText := true, laidKinds := [.data, .pinned], laidTests := true, laidLooks := .later }
def CallsKeepCardSaid : Prop := Claim7.holds Tryz.pinned (.plain (OpenSpec.ofChange callsKeepSpec)) callsKeepCard

/-- THE TIED CARD OF 'toolchestlaw15.CallsGuard'. -/
def callsGuardCard : Claim7 := { stood := { row := callsGuardRow, standIns := [], harness := (true, "689704cbe90d8c33ba7045a6306dac2492f731057221072577de331e1252b812"), looks := false }, kinds := [], alts := [], laidByText := true, laidKinds := [.data, .pinned], laidTests := true, laidLooks := .later }
def CallsGuardCardSaid : Prop := Claim7.holds Tryz.pinned (.plain (OpenSpec.ofChange callsGuardSpec)) callsGuardCard

/-- THE TIED CARD OF 'toolchestlaw15.CallsMove'. -/
def callsMoveCard : Claim7 := { stood := { row := callsMoveRow, standIns := [], harness := (true, "689704cbe90d8c33ba7045a6306dac2492f731057221072577de331e1252b812"), looks := false }, kinds := [], alts := [], laidByText := true, laidKinds := [.data, .pinned], laidTests := true, laidLooks := .later }
def CallsMoveCardSaid : Prop := Claim7.holds Tryz.pinned (.plain (OpenSpec.ofChange callsMoveSpec)) callsMoveCard

/-- THE TIED CARD OF 'toolchestlaw15.CallsWords'. -/
def callsWordsCard : Claim7 := { stood := { row := callsWordsRow, standIns := [], harness := (true, "689704cbe90d8c33ba7045a6306dac2492f731057221072577de331e1252b812"), looks := false }, kinds := [], alts := [], laidByText := true, laidKinds := [.data, .pinned], laidTests := true, laidLooks := .later }
def CallsWordsCardSaid : Prop := Claim7.holds Tryz.pinned (.plain (OpenSpec.ofChange callsWordsSpec)) callsWordsCard

/-- THE TIED CARD OF 'toolchestlaw15.CallsUndo'. -/
def callsUndoCard : Claim7 := { stood := { row := callsUndoRow, standIns := [], harness := (true, "689704cbe90d8c33ba7045a6306dac2492f731057221072577de331e1252b812"), looks := false }, kinds := [], alts := [], laidByText := true, laidKinds := [.data, .pinned], laidTests := true, laidLooks := .later }
def CallsUndoCardSaid : Prop := Claim7.holds Tryz.pinned (.plain (OpenSpec.ofChange callsUndoSpec)) callsUndoCard

/-- THE TIED CARD OF 'toolchestlaw15.CallsDo'. -/
def callsDoCard : Claim7 := { stood := { row := callsDoRow, standIns := [], harness := (true, "689704cbe90d8c33ba7045a6306dac2492f731057221072577de331e1252b812"), looks := false }, kinds := [], alts := [], laidByText := true, laidKinds := [.data, .data, .data, .data, .pinned], laidTests := true, laidLooks := .later }
def CallsDoCardSaid : Prop := Claim7.holds Tryz.pinned (.plain (OpenSpec.ofChange callsDoSpec)) callsDoCard

/-- THE TIED CARD OF 'toolchestlaw15.CallsLook'. -/
def callsLookCard : Claim7 := { stood := { row := callsLookRow, standIns := [], harness := (true, "689704cbe90d8c33ba7045a6306dac2492f731057221072577de331e1252b812"), looks := false }, kinds := [], alts := [], laidByText := true, laidKinds := [.data, .data, .data, .data, .pinned], laidTests := true, laidLooks := .later }
def CallsLookCardSaid : Prop := Claim7.holds Tryz.pinned (.plain (OpenSpec.ofChange callsLookSpec)) callsLookCard

/-- THE SECOND FORM's CARD OF 'toolchestlaw18.WalkGoes'. -/
def walkGoesUptoCard : Claim7 := { stood := { row := walkGoesUptoRow, standIns := [], harness := (true, "689704cbe90d8c33ba7045a6306dac2492f731057221072577de331e1252b812"), looks := false }, kinds := [], alts := [], laidByText := true, laidKinds := [.data, .data, .data, .data, .pinned], laidTests := true, laidLooks := .later }
def WalkGoesUptoCardSaid : Prop := Claim7.holds Tryz.pinned (.plain (OpenSpec.upto walkGoesSpec)) walkGoesUptoCard

/-- THE SECOND FORM's CARD OF 'toolchestlaw18.WalkSizes'. -/
def walkSizesUptoCard : Claim7 := { stood := { row := walkSizesUptoRow, standIns := [], harness := (true, "689704cbe90d8c33ba7045a6306dac2492f731057221072577de331e1252b812"), looks := false }, kinds := [], alts := [], laidByText := true, laidKinds := [.data, .data, .data, .data, .pinned], laidTests := true, laidLooks := .later }
def WalkSizesUptoCardSaid : Prop := Claim7.holds Tryz.pinned (.plain (OpenSpec.upto walkSizesSpec)) walkSizesUptoCard

/-- THE SECOND FORM's CARD OF 'toolchestlaw15.CallsKeep'. -/
def callsKeepUptoCard : Claim7 := { stood := { row := callsKeepUptoRow, standIns := [], harness := (true, "689704cbe90d8c33ba7045a6306dac2492f731057221072577de331e1252b812"), looks := false }, kinds := [], alts := [], laidByText := true, laidKinds := [.data, .pinned], laidTests := true, laidLooks := .later }
def CallsKeepUptoCardSaid : Prop := Claim7.holds Tryz.pinned (.plain (OpenSpec.upto callsKeepSpec)) callsKeepUptoCard

/-- THE SECOND FORM's CARD OF 'toolchestlaw15.CallsGuard'. -/
def callsGuardUptoCard : Claim7 := { stood := { row := callsGuardUptoRow, standIns := [], harness := (true, "689704cbe90d8c33ba7045a6306dac2492f731057221072577de331e1252b812"), looks := false }, kinds := [], alts := [], laidByText := true, laidKinds := [.data, .pinned], laidTests := true, laidLooks := .later }
def CallsGuardUptoCardSaid : Prop := Claim7.holds Tryz.pinned (.plain (OpenSpec.upto callsGuardSpec)) callsGuardUptoCard

/-- THE SECOND FORM's CARD OF 'toolchestlaw15.CallsMove'. -/
def callsMoveUptoCard : Claim7 := { stood := { row := callsMoveUptoRow, standIns := [], harness := (true, "689704cbe90d8c33ba7045a6306dac2492f731057221072577de331e1252b812"), looks := false }, kinds := [], alts := [], laidByText := true, laidKinds := [.data, .pinned], laidTests := true, laidLooks := .later }
def CallsMoveUptoCardSaid : Prop := Claim7.holds Tryz.pinned (.plain (OpenSpec.upto callsMoveSpec)) callsMoveUptoCard

/-- THE SECOND FORM's CARD OF 'toolchestlaw15.CallsWords'. -/
def callsWordsUptoCard : Claim7 := { stood := { row := callsWordsUptoRow, standIns := [], harness := (true, "689704cbe90d8c33ba7045a6306dac2492f731057221072577de331e1252b812"), looks := false }, kinds := [], alts := [], laidByText := true, laidKinds := [.data, .pinned], laidTests := true, laidLooks := .later }
def CallsWordsUptoCardSaid : Prop := Claim7.holds Tryz.pinned (.plain (OpenSpec.upto callsWordsSpec)) callsWordsUptoCard

/-- THE SECOND FORM's CARD OF 'toolchestlaw15.CallsUndo'. -/
def callsUndoUptoCard : Claim7 := { stood := { row := callsUndoUptoRow, standIns := [], harness := (true, "689704cbe90d8c33ba7045a6306dac2492f731057221072577de331e1252b812"), looks := false }, kinds := [], alts := [], laidByText := true, laidKinds := [.data, .pinned], laidTests := true, laidLooks := .later }
def CallsUndoUptoCardSaid : Prop := Claim7.holds Tryz.pinned (.plain (OpenSpec.upto callsUndoSpec)) callsUndoUptoCard

/-- THE SECOND FORM's CARD OF 'toolchestlaw15.CallsDo'. -/
def callsDoUptoCard : Claim7 := { stood := { row := callsDoUptoRow, standIns := [], harness := (true, "689704cbe90d8c33ba7045a6306dac2492f731057221072577de331e1252b812"), looks := false }, kinds := [], alts := [], laidByText := true, laidKinds := [.data, .data, .data, .data, .pinned], laidTests := true, laidLooks := .later }
def CallsDoUptoCardSaid : Prop := Claim7.holds Tryz.pinned (.plain (OpenSpec.upto callsDoSpec)) callsDoUptoCard

/-- THE SECOND FORM's CARD OF 'toolchestlaw15.CallsLook'. -/
def callsLookUptoCard : Claim7 := { stood := { row := callsLookUptoRow, standIns := [], harness := (true, "689704cbe90d8c33ba7045a6306dac2492f731057221072577de331e1252b812"), looks := false }, kinds := [], alts := [], laidByText := true, laidKinds := [.data, .data, .data, .data, .pinned], laidTests := true, laidLooks := .later }
def CallsLookUptoCardSaid : Prop := Claim7.holds Tryz.pinned (.plain (OpenSpec.upto callsLookSpec)) callsLookUptoCard
end Rows
end Go.Proofs.YtbfcfjgcmideeaaGreatDoor

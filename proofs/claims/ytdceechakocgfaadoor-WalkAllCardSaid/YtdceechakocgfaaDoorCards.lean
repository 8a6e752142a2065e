/-
  DERIVED. GIVEN WITH THE SEED: THE CARDS: each row of YtdceechakocgfaaDoorRows.lean that lists a variable, with what it lists TIED to the program's text (the seventh form; the later family's looks); each row that meets fmt, with fmt's text TOLD by the authors' own Lean function (tested against real Go, not proved from fmt's source: count such statements apart). THE CARD IS WHAT COUNTS. Prove the row's statement (the work); the ties are given (YtdceechakocgfaaDoorTie.lean); close each card by the builder's one call (the guide's Derived/Test/ToyasCard.lean, 'card_holds'). Laid BY PROGRAM, IN A SANDBOX (cutbox-door.mjs). By AI agents, Wed Nov 11 2026. No macro, syntax, notation, axiom, sorry.
-/
import Derived.Test.YtdceechakocgfaaDoorRows
import GoSem.ClaimSeven
namespace Go.Proofs.YtdceechakocgfaaDoor
namespace Rows

/-- THE TIED CARD OF 'toolchestlaw18.WalkNests'. -/
def walkNestsCard : Claim7 := { stood := { row := walkNestsRow, standIns := [], harness := (true, "cfef90cd0fa0aa3474d32dfcd56fe486950a3c3b7bee08aea98f96152a29693c"), looks := false }, kinds := [], alts := [], laidByText := true, laidKinds := [.data, .pinned], laidTests := true, laidLooks := .later }
def WalkNestsCardSaid : Prop := Claim7.holds Tryd.pinned (.plain (OpenSpec.ofChange walkNestsSpec)) walkNestsCard

/-- THE TIED CARD OF 'toolchestlaw18.WalkAll'. -/
def walkAllCard : Claim7 := { stood := { row := walkAllRow, standIns := [], harness := (true, "cfef90cd0fa0aa3474d32dfcd56fe486950a3c3b7bee08aea98f96152a29693c"), looks := false }, kinds := [], alts := [], laidByText := true, laidKinds := [.data, .pinned], laidTests := true, laidLooks := .later }
def WalkAllCardSaid : Prop := Claim7.holds Tryd.pinned (.plain (OpenSpec.ofChange walkAllSpec)) walkAllCard

/-- THE SECOND FORM's CARD OF 'toolchestlaw18.WalkNests'. -/
def walkNestsUptoCard : Claim7 := { stood := { row := walkNestsUptoRow, standIns := [], harness := (true, "cfef90cd0fa0aa3474d32dfcd56fe486950a3c3b7bee08aea98f96152a29693c"), looks := false }, kinds := [], alts := [], laidByText := true, laidKinds := [.data, .pinned], laidTests := true, laidLooks := .later }
def WalkNestsUptoCardSaid : Prop := Claim7.holds Tryd.pinned (.plain (OpenSpec.upto walkNestsSpec)) walkNestsUptoCard

/-- THE SECOND FORM's CARD OF 'toolchestlaw18.WalkAll'. -/
def walkAllUptoCard : Claim7 := { stood := { row := walkAllUptoRow, standIns := [], harness := (true, "cfef90cd0fa0aa3474d32dfcd56fe486950a3c3b7bee08aea98f96152a29693c"), looks := false }, kinds := [], alts := [], laidByText := true, laidKinds := [.data, .pinned], laidTests := true, laidLooks := .later }
def WalkAllUptoCardSaid : Prop := Claim7.holds Tryd.pinned (.plain (OpenSpec.upto walkAllSpec)) walkAllUptoCard
end Rows
end Go.Proofs.YtdceechakocgfaaDoor

/-
  DERIVED. GIVEN WITH THE SEED: THE CARDS: each row of YtmloogdalecilaaGreatDoorRows.lean that lists a variable, with what it lists TIED to the program's text (the seventh form; the later family's looks); each row that meets fmt, with fmt's text TOLD by the authors' own Lean function (tested against real Go, not proved from fmt's source: count such statements apart). THE CARD IS WHAT COUNTS. Prove the row's statement (the work); the ties are given (YtmloogdalecilaaGreatDoorTie.lean); close each card by the builder's one call (the guide's Derived/Test/ToyasCard.lean, 'card_holds'). Laid BY PROGRAM, IN A SANDBOX (cutbox-door.mjs). By AI agents, Wed Nov 11 2026. No macro, syntax, notation, axiom, sorry.
-/
import Derived.Test.YtmloogdalecilaaGreatDoorRows
import GoSem.ClaimSeven
namespace Go.Proofs.YtmloogdalecilaaGreatDoor
namespace Rows

/-- THE TIED CARD OF 'musettelaw07.BenchPutIn'. -/
def benchPutInCard : Claim7 := { stood := { row := benchPutInRow, standIns := [], harness := (true, "2a5c0340aedce39a066093667409f84c28fd32dca6682288e922abc4f1ef2cae"), looks := true }, kinds := [], alts := [], laidByText := true, laidKinds := [.handle], laidTests := true, laidLooks := .later }
def BenchPutInCardSaid : Prop := Claim7.holds Tryz.pinned (.plain (OpenSpec.ofChange benchPutInSpec)) benchPutInCard

/-- THE TIED CARD OF 'musettelaw07.BenchRuns'. -/
def benchRunsCard : Claim7 := { stood := { row := benchRunsRow, standIns := [], harness := (true, "2a5c0340aedce39a066093667409f84c28fd32dca6682288e922abc4f1ef2cae"), looks := true }, kinds := [], alts := [], laidByText := true, laidKinds := [.handle], laidTests := true, laidLooks := .later }
def BenchRunsCardSaid : Prop := Claim7.holds Tryz.pinned (.plain (OpenSpec.ofChange benchRunsSpec)) benchRunsCard

/-- THE TIED CARD OF 'musettelaw07.BenchTexts'. -/
def benchTextsCard : Claim7 := { stood := { row := benchTextsRow, standIns := [], harness := (true, "2a5c0340aedce39a066093667409f84c28fd32dca6682288e922abc4f1ef2cae"), looks := true }, kinds := [], alts := [], laidByText := true, laidKinds := [.data, .data, .data, .data, .handle, .sentinel, .sentinel, .pinned], laidTests := true, laidLooks := .later }
def BenchTextsCardSaid : Prop := Claim7.holds Tryz.pinned (.plain (OpenSpec.ofChange benchTextsSpec)) benchTextsCard

/-- THE TIED CARD OF 'musettelaw07.BenchRead'. -/
def benchReadCard : Claim7 := { stood := { row := benchReadRow, standIns := [], harness := (true, "2a5c0340aedce39a066093667409f84c28fd32dca6682288e922abc4f1ef2cae"), looks := true }, kinds := [], alts := [], laidByText := true, laidKinds := [.data, .data, .data, .data, .handle, .sentinel, .sentinel, .pinned], laidTests := true, laidLooks := .later }
def BenchReadCardSaid : Prop := Claim7.holds Tryz.pinned (.plain (OpenSpec.ofChange benchReadSpec)) benchReadCard

/-- THE SECOND FORM's CARD OF 'musettelaw07.BenchPutIn'. -/
def benchPutInUptoCard : Claim7 := { stood := { row := benchPutInUptoRow, standIns := [], harness := (true, "2a5c0340aedce39a066093667409f84c28fd32dca6682288e922abc4f1ef2cae"), looks := true }, kinds := [], alts := [], laidByText := true, laidKinds := [.handle], laidTests := true, laidLooks := .later }
def BenchPutInUptoCardSaid : Prop := Claim7.holds Tryz.pinned (.plain (OpenSpec.upto benchPutInSpec)) benchPutInUptoCard

/-- THE SECOND FORM's CARD OF 'musettelaw07.BenchRuns'. -/
def benchRunsUptoCard : Claim7 := { stood := { row := benchRunsUptoRow, standIns := [], harness := (true, "2a5c0340aedce39a066093667409f84c28fd32dca6682288e922abc4f1ef2cae"), looks := true }, kinds := [], alts := [], laidByText := true, laidKinds := [.handle], laidTests := true, laidLooks := .later }
def BenchRunsUptoCardSaid : Prop := Claim7.holds Tryz.pinned (.plain (OpenSpec.upto benchRunsSpec)) benchRunsUptoCard

/-- THE SECOND FORM's CARD OF 'musettelaw07.BenchTexts'. -/
def benchTextsUptoCard : Claim7 := { stood := { row := benchTextsUptoRow, standIns := [], harness := (true, "2a5c0340aedce39a066093667409f84c28fd32dca6682288e922abc4f1ef2cae"), looks := true }, kinds := [], alts := [], laidByText := true, laidKinds := [.data, .data, .data, .data, .handle, .sentinel, .sentinel, .pinned], laidTests := true, laidLooks := .later }
def BenchTextsUptoCardSaid : Prop := Claim7.holds Tryz.pinned (.plain (OpenSpec.upto benchTextsSpec)) benchTextsUptoCard

/-- THE SECOND FORM's CARD OF 'musettelaw07.BenchRead'. -/
def benchReadUptoCard : Claim7 := { stood := { row := benchReadUptoRow, standIns := [], harness := (true, "2a5c0340aedce39a066093667409f84c28fd32dca6682288e922abc4f1ef2cae"), looks := true }, kinds := [], alts := [], laidByText := true, laidKinds := [.data, .data, .data, .data, .handle, .sentinel, .sentinel, .pinned], laidTests := true, laidLooks := .later }
def BenchReadUptoCardSaid : Prop := Claim7.holds Tryz.pinned (.plain (OpenSpec.upto benchReadSpec)) benchReadUptoCard
end Rows
end Go.Proofs.YtmloogdalecilaaGreatDoor

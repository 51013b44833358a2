/-
  DERIVED. GIVEN WITH THE SEED: THE CARDS: each row of YthljpccegkmdnaaGreatDoorRows.lean that lists a variable, with what it lists TIED to the program's text (the seventh form; the later family's looks); each row that meets fmt, with fmt's text TOLD by the authors' own Lean function (tested against real Go, not proved from fmt's source: count such statements apart). THE CARD IS WHAT COUNTS. Prove the row's statement (the work); the ties are given (YthljpccegkmdnaaGreatDoorTie.lean); close each card by the builder's one call (the guide's Derived/Test/ToyasCard.lean, 'card_holds'). Laid BY PROGRAM, IN A SANDBOX (cutbox-door.mjs). By AI agents, Wed Nov 11 2026. No macro, syntax, notation, axiom, sorry.
-/
import Derived.Test.YthljpccegkmdnaaGreatDoorRows
import GoSem.ClaimSeven
namespace Go.Proofs.YthljpccegkmdnaaGreatDoor
namespace Rows

/-- THE TIED CARD OF 'musettelaw09.BatchKnown'. -/
def batchKnownCard : Claim7 := { stood := { row := batchKnownRow, standIns := [], harness := (true, "3c989383dad3484e259f7b0912bf952c3f073f166cc277654c97eae8ce231b08"), looks := true }, kinds := [], alts := [], laidByText := true, laidKinds := [.data, .data, .data, .handle], laidTests := true, laidLooks := .later }
def BatchKnownCardSaid : Prop := Claim7.holds Tryz.pinned (.plain (OpenSpec.ofChange batchKnownSpec)) batchKnownCard

/-- THE TIED CARD OF 'musettelaw07.BenchTexts'. -/
def benchTextsCard : Claim7 := { stood := { row := benchTextsRow, standIns := [], harness := (true, "3c989383dad3484e259f7b0912bf952c3f073f166cc277654c97eae8ce231b08"), looks := true }, kinds := [], alts := [], laidByText := true, laidKinds := [.data, .data, .data, .data, .handle, .sentinel, .sentinel, .pinned], laidTests := true, laidLooks := .later }
def BenchTextsCardSaid : Prop := Claim7.holds Tryz.pinned (.plain (OpenSpec.ofChange benchTextsSpec)) benchTextsCard

/-- THE TIED CARD OF 'musettelaw07.BenchRead'. -/
def benchReadCard : Claim7 := { stood := { row := benchReadRow, standIns := [], harness := (true, "3c989383dad3484e259f7b0912bf952c3f073f166cc277654c97eae8ce231b08"), looks := true }, kinds := [], alts := [], laidByText := true, laidKinds := [.data, .data, .data, .data, .handle, .sentinel, .sentinel, .pinned], laidTests := true, laidLooks := .later }
def BenchReadCardSaid : Prop := Claim7.holds Tryz.pinned (.plain (OpenSpec.ofChange benchReadSpec)) benchReadCard

/-- THE TIED CARD OF 'musettelaw09.BatchTexts'. -/
def batchTextsCard : Claim7 := { stood := { row := batchTextsRow, standIns := [], harness := (true, "3c989383dad3484e259f7b0912bf952c3f073f166cc277654c97eae8ce231b08"), looks := true }, kinds := [], alts := [], laidByText := true, laidKinds := [.data, .data, .data, .data, .sentinel, .sentinel, .pinned], laidTests := true, laidLooks := .later }
def BatchTextsCardSaid : Prop := Claim7.holds Tryz.pinned (.plain (OpenSpec.ofChange batchTextsSpec)) batchTextsCard

/-- THE TIED CARD OF 'musettelaw09.BatchRead'. -/
def batchReadCard : Claim7 := { stood := { row := batchReadRow, standIns := [], harness := (true, "3c989383dad3484e259f7b0912bf952c3f073f166cc277654c97eae8ce231b08"), looks := true }, kinds := [], alts := [], laidByText := true, laidKinds := [.data, .data, .data, .data, .sentinel, .sentinel, .pinned], laidTests := true, laidLooks := .later }
def BatchReadCardSaid : Prop := Claim7.holds Tryz.pinned (.plain (OpenSpec.ofChange batchReadSpec)) batchReadCard

/-- THE SECOND FORM's CARD OF 'musettelaw09.BatchKnown'. -/
def batchKnownUptoCard : Claim7 := { stood := { row := batchKnownUptoRow, standIns := [], harness := (true, "3c989383dad3484e259f7b0912bf952c3f073f166cc277654c97eae8ce231b08"), looks := true }, kinds := [], alts := [], laidByText := true, laidKinds := [.data, .data, .data, .handle], laidTests := true, laidLooks := .later }
def BatchKnownUptoCardSaid : Prop := Claim7.holds Tryz.pinned (.plain (OpenSpec.upto batchKnownSpec)) batchKnownUptoCard

/-- THE SECOND FORM's CARD OF 'musettelaw07.BenchTexts'. -/
def benchTextsUptoCard : Claim7 := { stood := { row := benchTextsUptoRow, standIns := [], harness := (true, "3c989383dad3484e259f7b0912bf952c3f073f166cc277654c97eae8ce231b08"), looks := true }, kinds := [], alts := [], laidByText := true, laidKinds := [.data, .data, .data, .data, .handle, .sentinel, .sentinel, .pinned], laidTests := true, laidLooks := .later }
def BenchTextsUptoCardSaid : Prop := Claim7.holds Tryz.pinned (.plain (OpenSpec.upto benchTextsSpec)) benchTextsUptoCard

/-- THE SECOND FORM's CARD OF 'musettelaw07.BenchRead'. -/
def benchReadUptoCard : Claim7 := { stood := { row := benchReadUptoRow, standIns := [], harness := (true, "3c989383dad3484e259f7b0912bf952c3f073f166cc277654c97eae8ce231b08"), looks := true }, kinds := [], alts := [], laidByText := true, laidKinds := [.data, .data, .data, .data, .handle, .sentinel, .sentinel, .pinned], laidTests := true, laidLooks := .later }
def BenchReadUptoCardSaid : Prop := Claim7.holds Tryz.pinned (.plain (OpenSpec.upto benchReadSpec)) benchReadUptoCard

/-- THE SECOND FORM's CARD OF 'musettelaw09.BatchTexts'. -/
def batchTextsUptoCard : Claim7 := { stood := { row := batchTextsUptoRow, standIns := [], harness := (true, "3c989383dad3484e259f7b0912bf952c3f073f166cc277654c97eae8ce231b08"), looks := true }, kinds := [], alts := [], laidByText := true, laidKinds := [.data, .data, .data, .data, .sentinel, .sentinel, .pinned], laidTests := true, laidLooks := .later }
def BatchTextsUptoCardSaid : Prop := Claim7.holds Tryz.pinned (.plain (OpenSpec.upto batchTextsSpec)) batchTextsUptoCard

/-- THE SECOND FORM's CARD OF 'musettelaw09.BatchRead'. -/
def batchReadUptoCard : Claim7 := { stood := { row := batchReadUptoRow, standIns := [], harness := (true, "3c989383dad3484e259f7b0912bf952c3f073f166cc277654c97eae8ce231b08"), looks := true }, kinds := [], alts := [], laidByText := true, laidKinds := [.data, .data, .data, .data, .sentinel, .sentinel, .pinned], laidTests := true, laidLooks := .later }
def BatchReadUptoCardSaid : Prop := Claim7.holds Tryz.pinned (.plain (OpenSpec.upto batchReadSpec)) batchReadUptoCard
end Rows
end Go.Proofs.YthljpccegkmdnaaGreatDoor

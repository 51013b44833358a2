/-
  DERIVED. GIVEN WITH THE SEED: THE CARDS: each row of YtmloogdalecilaaDoorRows.lean that lists a variable, with what it lists TIED to the program's text (the seventh form; the later family's looks); each row that meets fmt, with fmt's text TOLD by the authors' own Lean function (tested against real Go, not proved from fmt's source: count such statements apart). THE CARD IS WHAT COUNTS. Prove the row's statement (the work); the ties are given (YtmloogdalecilaaDoorTie.lean); close each card by the builder's one call (the guide's Derived/Test/ToyasCard.lean, 'card_holds'). Laid BY PROGRAM, IN A SANDBOX (cutbox-door.mjs). By AI agents, Wed Nov 11 2026. No macro, syntax, notation, axiom, sorry.
-/
import Derived.Test.YtmloogdalecilaaDoorRows
import GoSem.ClaimSeven
namespace Go.Proofs.YtmloogdalecilaaDoor
namespace Rows

/-- THE TIED CARD OF 'musettelaw07.BenchTables'. -/
def benchTablesCard : Claim7 := { stood := { row := benchTablesRow, standIns := [], harness := (true, "ccac167340912cc7b937f82d9ddb332534b19e7b4a045a2ad7d654cfcdf53808"), looks := true }, kinds := [], alts := [], laidByText := true, laidKinds := [.handle], laidTests := true, laidLooks := .later }
def BenchTablesCardSaid : Prop := Claim7.holds Tryd.pinned (.plain (OpenSpec.ofChange benchTablesSpec)) benchTablesCard

/-- THE TIED CARD OF 'musettelaw07.BenchBound'. -/
def benchBoundCard : Claim7 := { stood := { row := benchBoundRow, standIns := [], harness := (true, "ccac167340912cc7b937f82d9ddb332534b19e7b4a045a2ad7d654cfcdf53808"), looks := true }, kinds := [], alts := [], laidByText := true, laidKinds := [.handle], laidTests := true, laidLooks := .later }
def BenchBoundCardSaid : Prop := Claim7.holds Tryd.pinned (.plain (OpenSpec.ofChange benchBoundSpec)) benchBoundCard

/-- THE TIED CARD OF 'musettelaw07.BenchKept'. -/
def benchKeptCard : Claim7 := { stood := { row := benchKeptRow, standIns := [], harness := (true, "ccac167340912cc7b937f82d9ddb332534b19e7b4a045a2ad7d654cfcdf53808"), looks := true }, kinds := [], alts := [], laidByText := true, laidKinds := [.handle], laidTests := true, laidLooks := .later }
def BenchKeptCardSaid : Prop := Claim7.holds Tryd.pinned (.plain (OpenSpec.ofChange benchKeptSpec)) benchKeptCard

/-- THE TIED CARD OF 'musettelaw07.BenchMore'. -/
def benchMoreCard : Claim7 := { stood := { row := benchMoreRow, standIns := [], harness := (true, "ccac167340912cc7b937f82d9ddb332534b19e7b4a045a2ad7d654cfcdf53808"), looks := true }, kinds := [], alts := [], laidByText := true, laidKinds := [.handle], laidTests := true, laidLooks := .later }
def BenchMoreCardSaid : Prop := Claim7.holds Tryd.pinned (.plain (OpenSpec.ofChange benchMoreSpec)) benchMoreCard

/-- THE TIED CARD OF 'musettelaw07.BenchSlacks'. -/
def benchSlacksCard : Claim7 := { stood := { row := benchSlacksRow, standIns := [], harness := (true, "ccac167340912cc7b937f82d9ddb332534b19e7b4a045a2ad7d654cfcdf53808"), looks := true }, kinds := [], alts := [], laidByText := true, laidKinds := [.handle], laidTests := true, laidLooks := .later }
def BenchSlacksCardSaid : Prop := Claim7.holds Tryd.pinned (.plain (OpenSpec.ofChange benchSlacksSpec)) benchSlacksCard

/-- THE TIED CARD OF 'musettelaw07.BenchEnds'. -/
def benchEndsCard : Claim7 := { stood := { row := benchEndsRow, standIns := [], harness := (true, "ccac167340912cc7b937f82d9ddb332534b19e7b4a045a2ad7d654cfcdf53808"), looks := true }, kinds := [], alts := [], laidByText := true, laidKinds := [.handle], laidTests := true, laidLooks := .later }
def BenchEndsCardSaid : Prop := Claim7.holds Tryd.pinned (.plain (OpenSpec.ofChange benchEndsSpec)) benchEndsCard

/-- THE TIED CARD OF 'musettelaw07.BenchLoads'. -/
def benchLoadsCard : Claim7 := { stood := { row := benchLoadsRow, standIns := [], harness := (true, "ccac167340912cc7b937f82d9ddb332534b19e7b4a045a2ad7d654cfcdf53808"), looks := true }, kinds := [], alts := [], laidByText := true, laidKinds := [.handle], laidTests := true, laidLooks := .later }
def BenchLoadsCardSaid : Prop := Claim7.holds Tryd.pinned (.plain (OpenSpec.ofChange benchLoadsSpec)) benchLoadsCard

/-- THE TIED CARD OF 'musettelaw07.BenchBest'. -/
def benchBestCard : Claim7 := { stood := { row := benchBestRow, standIns := [], harness := (true, "ccac167340912cc7b937f82d9ddb332534b19e7b4a045a2ad7d654cfcdf53808"), looks := true }, kinds := [], alts := [], laidByText := true, laidKinds := [.handle], laidTests := true, laidLooks := .later }
def BenchBestCardSaid : Prop := Claim7.holds Tryd.pinned (.plain (OpenSpec.ofChange benchBestSpec)) benchBestCard

/-- THE TIED CARD OF 'musettelaw07.BenchSlack'. -/
def benchSlackCard : Claim7 := { stood := { row := benchSlackRow, standIns := [], harness := (true, "ccac167340912cc7b937f82d9ddb332534b19e7b4a045a2ad7d654cfcdf53808"), looks := true }, kinds := [], alts := [], laidByText := true, laidKinds := [.handle], laidTests := true, laidLooks := .later }
def BenchSlackCardSaid : Prop := Claim7.holds Tryd.pinned (.plain (OpenSpec.ofChange benchSlackSpec)) benchSlackCard

/-- THE TIED CARD OF 'musettelaw07.BenchRenamed'. -/
def benchRenamedCard : Claim7 := { stood := { row := benchRenamedRow, standIns := [], harness := (true, "ccac167340912cc7b937f82d9ddb332534b19e7b4a045a2ad7d654cfcdf53808"), looks := true }, kinds := [], alts := [], laidByText := true, laidKinds := [.handle], laidTests := true, laidLooks := .later }
def BenchRenamedCardSaid : Prop := Claim7.holds Tryd.pinned (.plain (OpenSpec.ofChange benchRenamedSpec)) benchRenamedCard

/-- THE TIED CARD OF 'musettelaw07.BenchTrue'. -/
def benchTrueCard : Claim7 := { stood := { row := benchTrueRow, standIns := [], harness := (true, "ccac167340912cc7b937f82d9ddb332534b19e7b4a045a2ad7d654cfcdf53808"), looks := true }, kinds := [], alts := [], laidByText := true, laidKinds := [.handle], laidTests := true, laidLooks := .later }
def BenchTrueCardSaid : Prop := Claim7.holds Tryd.pinned (.plain (OpenSpec.ofChange benchTrueSpec)) benchTrueCard

/-- THE TIED CARD OF 'musettelaw07.BenchPut'. -/
def benchPutCard : Claim7 := { stood := { row := benchPutRow, standIns := [], harness := (true, "ccac167340912cc7b937f82d9ddb332534b19e7b4a045a2ad7d654cfcdf53808"), looks := true }, kinds := [], alts := [], laidByText := true, laidKinds := [.handle], laidTests := true, laidLooks := .later }
def BenchPutCardSaid : Prop := Claim7.holds Tryd.pinned (.plain (OpenSpec.ofChange benchPutSpec)) benchPutCard

/-- THE TIED CARD OF 'musettelaw07.BenchFirst'. -/
def benchFirstCard : Claim7 := { stood := { row := benchFirstRow, standIns := [], harness := (true, "ccac167340912cc7b937f82d9ddb332534b19e7b4a045a2ad7d654cfcdf53808"), looks := true }, kinds := [], alts := [], laidByText := true, laidKinds := [.handle], laidTests := true, laidLooks := .later }
def BenchFirstCardSaid : Prop := Claim7.holds Tryd.pinned (.plain (OpenSpec.ofChange benchFirstSpec)) benchFirstCard

/-- THE TIED CARD OF 'musettelaw07.BenchKnown'. -/
def benchKnownCard : Claim7 := { stood := { row := benchKnownRow, standIns := [], harness := (true, "ccac167340912cc7b937f82d9ddb332534b19e7b4a045a2ad7d654cfcdf53808"), looks := true }, kinds := [], alts := [], laidByText := true, laidKinds := [.data, .data, .data, .handle], laidTests := true, laidLooks := .later }
def BenchKnownCardSaid : Prop := Claim7.holds Tryd.pinned (.plain (OpenSpec.ofChange benchKnownSpec)) benchKnownCard

/-- THE SECOND FORM's CARD OF 'musettelaw07.BenchTables'. -/
def benchTablesUptoCard : Claim7 := { stood := { row := benchTablesUptoRow, standIns := [], harness := (true, "ccac167340912cc7b937f82d9ddb332534b19e7b4a045a2ad7d654cfcdf53808"), looks := true }, kinds := [], alts := [], laidByText := true, laidKinds := [.handle], laidTests := true, laidLooks := .later }
def BenchTablesUptoCardSaid : Prop := Claim7.holds Tryd.pinned (.plain (OpenSpec.upto benchTablesSpec)) benchTablesUptoCard

/-- THE SECOND FORM's CARD OF 'musettelaw07.BenchBound'. -/
def benchBoundUptoCard : Claim7 := { stood := { row := benchBoundUptoRow, standIns := [], harness := (true, "ccac167340912cc7b937f82d9ddb332534b19e7b4a045a2ad7d654cfcdf53808"), looks := true }, kinds := [], alts := [], laidByText := true, laidKinds := [.handle], laidTests := true, laidLooks := .later }
def BenchBoundUptoCardSaid : Prop := Claim7.holds Tryd.pinned (.plain (OpenSpec.upto benchBoundSpec)) benchBoundUptoCard

/-- THE SECOND FORM's CARD OF 'musettelaw07.BenchKept'. -/
def benchKeptUptoCard : Claim7 := { stood := { row := benchKeptUptoRow, standIns := [], harness := (true, "ccac167340912cc7b937f82d9ddb332534b19e7b4a045a2ad7d654cfcdf53808"), looks := true }, kinds := [], alts := [], laidByText := true, laidKinds := [.handle], laidTests := true, laidLooks := .later }
def BenchKeptUptoCardSaid : Prop := Claim7.holds Tryd.pinned (.plain (OpenSpec.upto benchKeptSpec)) benchKeptUptoCard

/-- THE SECOND FORM's CARD OF 'musettelaw07.BenchMore'. -/
def benchMoreUptoCard : Claim7 := { stood := { row := benchMoreUptoRow, standIns := [], harness := (true, "ccac167340912cc7b937f82d9ddb332534b19e7b4a045a2ad7d654cfcdf53808"), looks := true }, kinds := [], alts := [], laidByText := true, laidKinds := [.handle], laidTests := true, laidLooks := .later }
def BenchMoreUptoCardSaid : Prop := Claim7.holds Tryd.pinned (.plain (OpenSpec.upto benchMoreSpec)) benchMoreUptoCard

/-- THE SECOND FORM's CARD OF 'musettelaw07.BenchSlacks'. -/
def benchSlacksUptoCard : Claim7 := { stood := { row := benchSlacksUptoRow, standIns := [], harness := (true, "ccac167340912cc7b937f82d9ddb332534b19e7b4a045a2ad7d654cfcdf53808"), looks := true }, kinds := [], alts := [], laidByText := true, laidKinds := [.handle], laidTests := true, laidLooks := .later }
def BenchSlacksUptoCardSaid : Prop := Claim7.holds Tryd.pinned (.plain (OpenSpec.upto benchSlacksSpec)) benchSlacksUptoCard

/-- THE SECOND FORM's CARD OF 'musettelaw07.BenchEnds'. -/
def benchEndsUptoCard : Claim7 := { stood := { row := benchEndsUptoRow, standIns := [], harness := (true, "ccac167340912cc7b937f82d9ddb332534b19e7b4a045a2ad7d654cfcdf53808"), looks := true }, kinds := [], alts := [], laidByText := true, laidKinds := [.handle], laidTests := true, laidLooks := .later }
def BenchEndsUptoCardSaid : Prop := Claim7.holds Tryd.pinned (.plain (OpenSpec.upto benchEndsSpec)) benchEndsUptoCard

/-- THE SECOND FORM's CARD OF 'musettelaw07.BenchLoads'. -/
def benchLoadsUptoCard : Claim7 := { stood := { row := benchLoadsUptoRow, standIns := [], harness := (true, "ccac167340912cc7b937f82d9ddb332534b19e7b4a045a2ad7d654cfcdf53808"), looks := true }, kinds := [], alts := [], laidByText := true, laidKinds := [.handle], laidTests := true, laidLooks := .later }
def BenchLoadsUptoCardSaid : Prop := Claim7.holds Tryd.pinned (.plain (OpenSpec.upto benchLoadsSpec)) benchLoadsUptoCard

/-- THE SECOND FORM's CARD OF 'musettelaw07.BenchBest'. -/
def benchBestUptoCard : Claim7 := { stood := { row := benchBestUptoRow, standIns := [], harness := (true, "ccac167340912cc7b937f82d9ddb332534b19e7b4a045a2ad7d654cfcdf53808"), looks := true }, kinds := [], alts := [], laidByText := true, laidKinds := [.handle], laidTests := true, laidLooks := .later }
def BenchBestUptoCardSaid : Prop := Claim7.holds Tryd.pinned (.plain (OpenSpec.upto benchBestSpec)) benchBestUptoCard

/-- THE SECOND FORM's CARD OF 'musettelaw07.BenchSlack'. -/
def benchSlackUptoCard : Claim7 := { stood := { row := benchSlackUptoRow, standIns := [], harness := (true, "ccac167340912cc7b937f82d9ddb332534b19e7b4a045a2ad7d654cfcdf53808"), looks := true }, kinds := [], alts := [], laidByText := true, laidKinds := [.handle], laidTests := true, laidLooks := .later }
def BenchSlackUptoCardSaid : Prop := Claim7.holds Tryd.pinned (.plain (OpenSpec.upto benchSlackSpec)) benchSlackUptoCard

/-- THE SECOND FORM's CARD OF 'musettelaw07.BenchRenamed'. -/
def benchRenamedUptoCard : Claim7 := { stood := { row := benchRenamedUptoRow, standIns := [], harness := (true, "ccac167340912cc7b937f82d9ddb332534b19e7b4a045a2ad7d654cfcdf53808"), looks := true }, kinds := [], alts := [], laidByText := true, laidKinds := [.handle], laidTests := true, laidLooks := .later }
def BenchRenamedUptoCardSaid : Prop := Claim7.holds Tryd.pinned (.plain (OpenSpec.upto benchRenamedSpec)) benchRenamedUptoCard

/-- THE SECOND FORM's CARD OF 'musettelaw07.BenchTrue'. -/
def benchTrueUptoCard : Claim7 := { stood := { row := benchTrueUptoRow, standIns := [], harness := (true, "ccac167340912cc7b937f82d9ddb332534b19e7b4a045a2ad7d654cfcdf53808"), looks := true }, kinds := [], alts := [], laidByText := true, laidKinds := [.handle], laidTests := true, laidLooks := .later }
def BenchTrueUptoCardSaid : Prop := Claim7.holds Tryd.pinned (.plain (OpenSpec.upto benchTrueSpec)) benchTrueUptoCard

/-- THE SECOND FORM's CARD OF 'musettelaw07.BenchPut'. -/
def benchPutUptoCard : Claim7 := { stood := { row := benchPutUptoRow, standIns := [], harness := (true, "ccac167340912cc7b937f82d9ddb332534b19e7b4a045a2ad7d654cfcdf53808"), looks := true }, kinds := [], alts := [], laidByText := true, laidKinds := [.handle], laidTests := true, laidLooks := .later }
def BenchPutUptoCardSaid : Prop := Claim7.holds Tryd.pinned (.plain (OpenSpec.upto benchPutSpec)) benchPutUptoCard

/-- THE SECOND FORM's CARD OF 'musettelaw07.BenchFirst'. -/
def benchFirstUptoCard : Claim7 := { stood := { row := benchFirstUptoRow, standIns := [], harness := (true, "ccac167340912cc7b937f82d9ddb332534b19e7b4a045a2ad7d654cfcdf53808"), looks := true }, kinds := [], alts := [], laidByText := true, laidKinds := [.handle], laidTests := true, laidLooks := .later }
def BenchFirstUptoCardSaid : Prop := Claim7.holds Tryd.pinned (.plain (OpenSpec.upto benchFirstSpec)) benchFirstUptoCard

/-- THE SECOND FORM's CARD OF 'musettelaw07.BenchKnown'. -/
def benchKnownUptoCard : Claim7 := { stood := { row := benchKnownUptoRow, standIns := [], harness := (true, "ccac167340912cc7b937f82d9ddb332534b19e7b4a045a2ad7d654cfcdf53808"), looks := true }, kinds := [], alts := [], laidByText := true, laidKinds := [.data, .data, .data, .handle], laidTests := true, laidLooks := .later }
def BenchKnownUptoCardSaid : Prop := Claim7.holds Tryd.pinned (.plain (OpenSpec.upto benchKnownSpec)) benchKnownUptoCard
end Rows
end Go.Proofs.YtmloogdalecilaaDoor

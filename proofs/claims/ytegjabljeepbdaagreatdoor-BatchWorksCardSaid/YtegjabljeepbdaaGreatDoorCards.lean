/-
  DERIVED. GIVEN WITH THE SEED: THE CARDS: each row of YtegjabljeepbdaaGreatDoorRows.lean that lists a variable, with what it lists TIED to the program's text (the seventh form; the later family's looks); each row that meets fmt, with fmt's text TOLD by the authors' own Lean function (tested against real Go, not proved from fmt's source: count such statements apart). THE CARD IS WHAT COUNTS. Prove the row's statement (the work); the ties are given (YtegjabljeepbdaaGreatDoorTie.lean); close each card by the builder's one call (the guide's Derived/Test/ToyasCard.lean, 'card_holds'). Laid BY PROGRAM, IN A SANDBOX (cutbox-door.mjs). By AI agents, Wed Nov 11 2026. No macro, syntax, notation, axiom, sorry.
-/
import Derived.Test.YtegjabljeepbdaaGreatDoorRows
import GoSem.ClaimSeven
namespace Go.Proofs.YtegjabljeepbdaaGreatDoor
namespace Rows

/-- THE TIED CARD OF 'musettetop.TopSlips'. -/
def topSlipsCard : Claim7 := { stood := { row := topSlipsRow, standIns := [], harness := (true, "0eacd5d6e497d09a877d845a2d7d330112979391fa1c65076ec4eb2b0ae2fe63"), looks := true }, kinds := [], alts := [], laidByText := true, laidKinds := [.handle], laidTests := true, laidLooks := .later }
def TopSlipsCardSaid : Prop := Claim7.holds Tryz.pinned (.plain (OpenSpec.ofChange topSlipsSpec)) topSlipsCard

/-- THE TIED CARD OF 'musettetop.TopDrawn'. -/
def topDrawnCard : Claim7 := { stood := { row := topDrawnRow, standIns := [], harness := (true, "0eacd5d6e497d09a877d845a2d7d330112979391fa1c65076ec4eb2b0ae2fe63"), looks := true }, kinds := [], alts := [], laidByText := true, laidKinds := [.handle], laidTests := true, laidLooks := .later }
def TopDrawnCardSaid : Prop := Claim7.holds Tryz.pinned (.plain (OpenSpec.ofChange topDrawnSpec)) topDrawnCard

/-- THE TIED CARD OF 'musettelaw09.BatchWorks'. -/
def batchWorksCard : Claim7 := { stood := { row := batchWorksRow, standIns := [], harness := (true, "0eacd5d6e497d09a877d845a2d7d330112979391fa1c65076ec4eb2b0ae2fe63"), looks := true }, kinds := [], alts := [], laidByText := true, laidKinds := [.handle], laidTests := true, laidLooks := .later }
def BatchWorksCardSaid : Prop := Claim7.holds Tryz.pinned (.plain (OpenSpec.ofChange batchWorksSpec)) batchWorksCard

/-- THE TIED CARD OF 'musettelaw09.BatchDone'. -/
def batchDoneCard : Claim7 := { stood := { row := batchDoneRow, standIns := [], harness := (true, "0eacd5d6e497d09a877d845a2d7d330112979391fa1c65076ec4eb2b0ae2fe63"), looks := true }, kinds := [], alts := [], laidByText := true, laidKinds := [.handle], laidTests := true, laidLooks := .later }
def BatchDoneCardSaid : Prop := Claim7.holds Tryz.pinned (.plain (OpenSpec.ofChange batchDoneSpec)) batchDoneCard

/-- THE SECOND FORM's CARD OF 'musettetop.TopSlips'. -/
def topSlipsUptoCard : Claim7 := { stood := { row := topSlipsUptoRow, standIns := [], harness := (true, "0eacd5d6e497d09a877d845a2d7d330112979391fa1c65076ec4eb2b0ae2fe63"), looks := true }, kinds := [], alts := [], laidByText := true, laidKinds := [.handle], laidTests := true, laidLooks := .later }
def TopSlipsUptoCardSaid : Prop := Claim7.holds Tryz.pinned (.plain (OpenSpec.upto topSlipsSpec)) topSlipsUptoCard

/-- THE SECOND FORM's CARD OF 'musettetop.TopDrawn'. -/
def topDrawnUptoCard : Claim7 := { stood := { row := topDrawnUptoRow, standIns := [], harness := (true, "0eacd5d6e497d09a877d845a2d7d330112979391fa1c65076ec4eb2b0ae2fe63"), looks := true }, kinds := [], alts := [], laidByText := true, laidKinds := [.handle], laidTests := true, laidLooks := .later }
def TopDrawnUptoCardSaid : Prop := Claim7.holds Tryz.pinned (.plain (OpenSpec.upto topDrawnSpec)) topDrawnUptoCard

/-- THE SECOND FORM's CARD OF 'musettelaw09.BatchWorks'. -/
def batchWorksUptoCard : Claim7 := { stood := { row := batchWorksUptoRow, standIns := [], harness := (true, "0eacd5d6e497d09a877d845a2d7d330112979391fa1c65076ec4eb2b0ae2fe63"), looks := true }, kinds := [], alts := [], laidByText := true, laidKinds := [.handle], laidTests := true, laidLooks := .later }
def BatchWorksUptoCardSaid : Prop := Claim7.holds Tryz.pinned (.plain (OpenSpec.upto batchWorksSpec)) batchWorksUptoCard

/-- THE SECOND FORM's CARD OF 'musettelaw09.BatchDone'. -/
def batchDoneUptoCard : Claim7 := { stood := { row := batchDoneUptoRow, standIns := [], harness := (true, "0eacd5d6e497d09a877d845a2d7d330112979391fa1c65076ec4eb2b0ae2fe63"), looks := true }, kinds := [], alts := [], laidByText := true, laidKinds := [.handle], laidTests := true, laidLooks := .later }
def BatchDoneUptoCardSaid : Prop := Claim7.holds Tryz.pinned (.plain (OpenSpec.upto batchDoneSpec)) batchDoneUptoCard
end Rows
end Go.Proofs.YtegjabljeepbdaaGreatDoor

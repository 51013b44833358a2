/-
  NARROWER THAN 'FOR EVERY INPUT', by the rows' own cells (each row's printed sentence says how): TopSlips: laid · TopDrawn: laid · BatchWorks: laid · BatchDone: laid.
  DERIVED. THE GIVEN ROWS OF THIS SEAT. 4 by the template 'for every input the law returns true; each argument reads behind the call as it read before'; 0 by the template 'total and deterministic' (their statements: YtegjabljeepbdaaGreatDoorTotals.lean).
  GIVEN WITH THE SEED: the statements are not yours to turn. If you find one false, say at which input.
  Laid BY PROGRAM, IN A SANDBOX (cutbox-rows.mjs): the forced cells as the released guide's own fill.sh prints them over the translation 63136fea026900a5… (all of the seat's roots in one cut). By AI agents, Wed Nov 11 2026. No macro, syntax, notation, axiom, sorry.
-/
import Derived.Test.YtegjabljeepbdaaGreatDoorChecked
import GoSem.Claim
import GoSem.ClaimJoined
import GoSem.ClaimMapViews
import Derived.JoinedTies
import Derived.KernelRfl
namespace Go.Proofs.YtegjabljeepbdaaGreatDoor
/- THE CELL 'sum', in the pinned program and in every row, IS THE sha256 OF THE DUMP (.gsa) THAT YtegjabljeepbdaaGreatDoorProg.lean LOADS. Nothing in Lean hashes anything: it is a label: what it is worth is what the hold of that sum in a sandbox is worth. -/
noncomputable def Tryz.pinned : Pinned := { name := "ytegjabljeepbdaagreatdoor", sum := "63136fea026900a50a2cc47dc69524a1525204622e8af3140ae85f569793175a", checked := Tryz.checked }
namespace Rows
def none {H : Type} : Left H := { results := [], args := [] }

/- WHAT THE LISTED PACKAGE-LEVEL VARIABLES READ AS WHEN THE CALL BEGINS. Each datum BY PROGRAM (the guide's laid-datum.mjs) off the statement by which the dump's own 'gosem.cut.vars' lays the variable. In a bare row this is a premise. The card (YtegjabljeepbdaaGreatDoorCards.lean) ties it to the program's text. -/
def laid_errors_errorType {H : Type} : DataW H := .iface "internal/reflectlite.rtype" (.agg [.ptr (.lit (.string [101, 114, 114, 111, 114]))])

/-- 'musettetop.TopSlips': WHATEVER THE INPUT: true; the input reads as it did. -/
def topSlipsSpec : ChangeSpec := { name := "topSlips", fn := fun _ => fun
  | [d] => { results := [.lit (.bool true)], args := [d] }
  | _ => none }
def topSlipsRow : OpenClaim := { program := "ytegjabljeepbdaagreatdoor", sum := "63136fea026900a50a2cc47dc69524a1525204622e8af3140ae85f569793175a", func := "musette/musettetop.TopSlips", spec := "topSlips", inPlace := ["internal/reflectlite.ValueOf", "(internal/reflectlite.Value).Type", "(internal/reflectlite.Value).IsNil", "internal/reflectlite.TypeOf", "(internal/reflectlite.Value).Elem", "(internal/reflectlite.Value).Set"], unfollowed := true, recurses := true, named := ["errors.errorType"], plainKeys := false, apart := false, laid := [("errors.errorType", laid_errors_errorType)] }
def TopSlipsSaid : Prop := topSlipsRow.holds Tryz.pinned (OpenSpec.ofChange topSlipsSpec)

/-- ITS FALSE NEIGHBOUR: 'it returns false'. Refute it at one input. -/
def topSlipsWrong : ChangeSpec := { name := "topSlips", fn := fun _ => fun
  | [d] => { results := [.lit (.bool false)], args := [d] }
  | _ => none }
def TopSlipsWrongFalsely : Prop := topSlipsRow.holds Tryz.pinned (OpenSpec.ofChange topSlipsWrong)

/-- 'musettetop.TopDrawn': WHATEVER THE INPUT: true; the input reads as it did. -/
def topDrawnSpec : ChangeSpec := { name := "topDrawn", fn := fun _ => fun
  | [d] => { results := [.lit (.bool true)], args := [d] }
  | _ => none }
def topDrawnRow : OpenClaim := { program := "ytegjabljeepbdaagreatdoor", sum := "63136fea026900a50a2cc47dc69524a1525204622e8af3140ae85f569793175a", func := "musette/musettetop.TopDrawn", spec := "topDrawn", inPlace := ["internal/reflectlite.ValueOf", "(internal/reflectlite.Value).Type", "(internal/reflectlite.Value).IsNil", "internal/reflectlite.TypeOf", "(internal/reflectlite.Value).Elem", "(internal/reflectlite.Value).Set"], unfollowed := true, recurses := true, named := ["errors.errorType"], plainKeys := false, apart := false, laid := [("errors.errorType", laid_errors_errorType)] }
def TopDrawnSaid : Prop := topDrawnRow.holds Tryz.pinned (OpenSpec.ofChange topDrawnSpec)

/-- ITS FALSE NEIGHBOUR: 'it returns false'. Refute it at one input. -/
def topDrawnWrong : ChangeSpec := { name := "topDrawn", fn := fun _ => fun
  | [d] => { results := [.lit (.bool false)], args := [d] }
  | _ => none }
def TopDrawnWrongFalsely : Prop := topDrawnRow.holds Tryz.pinned (OpenSpec.ofChange topDrawnWrong)

/-- 'musettelaw09.BatchWorks': WHATEVER THE INPUT: true; the input reads as it did. -/
def batchWorksSpec : ChangeSpec := { name := "batchWorks", fn := fun _ => fun
  | [d1, d2, d3, d4] => { results := [.lit (.bool true)], args := [d1, d2, d3, d4] }
  | _ => none }
def batchWorksRow : OpenClaim := { program := "ytegjabljeepbdaagreatdoor", sum := "63136fea026900a50a2cc47dc69524a1525204622e8af3140ae85f569793175a", func := "musette/musettelaw09.BatchWorks", spec := "batchWorks", inPlace := ["internal/reflectlite.ValueOf", "(internal/reflectlite.Value).Type", "(internal/reflectlite.Value).IsNil", "internal/reflectlite.TypeOf", "(internal/reflectlite.Value).Elem", "(internal/reflectlite.Value).Set"], unfollowed := true, recurses := true, named := ["errors.errorType"], plainKeys := false, apart := false, laid := [("errors.errorType", laid_errors_errorType)] }
def BatchWorksSaid : Prop := batchWorksRow.holds Tryz.pinned (OpenSpec.ofChange batchWorksSpec)

/-- ITS FALSE NEIGHBOUR: 'it returns false'. Refute it at one input. -/
def batchWorksWrong : ChangeSpec := { name := "batchWorks", fn := fun _ => fun
  | [d1, d2, d3, d4] => { results := [.lit (.bool false)], args := [d1, d2, d3, d4] }
  | _ => none }
def BatchWorksWrongFalsely : Prop := batchWorksRow.holds Tryz.pinned (OpenSpec.ofChange batchWorksWrong)

/-- 'musettelaw09.BatchDone': WHATEVER THE INPUT: true; the input reads as it did. -/
def batchDoneSpec : ChangeSpec := { name := "batchDone", fn := fun _ => fun
  | [d] => { results := [.lit (.bool true)], args := [d] }
  | _ => none }
def batchDoneRow : OpenClaim := { program := "ytegjabljeepbdaagreatdoor", sum := "63136fea026900a50a2cc47dc69524a1525204622e8af3140ae85f569793175a", func := "musette/musettelaw09.BatchDone", spec := "batchDone", inPlace := ["internal/reflectlite.ValueOf", "(internal/reflectlite.Value).Type", "(internal/reflectlite.Value).IsNil", "internal/reflectlite.TypeOf", "(internal/reflectlite.Value).Elem", "(internal/reflectlite.Value).Set"], unfollowed := true, recurses := true, named := ["errors.errorType"], plainKeys := false, apart := false, laid := [("errors.errorType", laid_errors_errorType)] }
def BatchDoneSaid : Prop := batchDoneRow.holds Tryz.pinned (OpenSpec.ofChange batchDoneSpec)

/-- ITS FALSE NEIGHBOUR: 'it returns false'. Refute it at one input. -/
def batchDoneWrong : ChangeSpec := { name := "batchDone", fn := fun _ => fun
  | [d] => { results := [.lit (.bool false)], args := [d] }
  | _ => none }
def BatchDoneWrongFalsely : Prop := batchDoneRow.holds Tryz.pinned (OpenSpec.ofChange batchDoneWrong)

/- THE SECOND FORM. 'bulk': how many values and letters a reading holds, each counted each time it is reached (what is shared counts as often as it is met; a slice's spare places count too). A statement '..UptoSaid' is the law's where the arguments, and the package variables that the reading takes, are together of bulk at most 1048576: NARROWER than '..Said'. Prove '..Said' where nothing that the law and all that it calls make is longer than what came in: it says more and counts as full. Else prove '..UptoSaid'. A law counts once. -/
mutual
def uptoBulk {H : Type} : DataW H → Nat
  | .lit (.string bytes) => bytes.length + 1
  | .lit _ => 1
  | .nil => 1
  | .ptr d => uptoBulk d + 1
  | .slice elems spare => uptoBulkAll elems + uptoBulkAll spare + 1
  | .agg parts => uptoBulkAll parts + 1
  | .iface _ d => uptoBulk d + 1
  | .map entries => uptoBulkEntries entries + 1
  | .held _ => 1
def uptoBulkAll {H : Type} : List (DataW H) → Nat
  | [] => 0
  | d :: r => uptoBulk d + uptoBulkAll r
def uptoBulkEntries {H : Type} : List (Lit × DataW H) → Nat
  | [] => 0
  | x :: r => uptoBulkEntry x + uptoBulkEntries r
def uptoBulkEntry {H : Type} : Lit × DataW H → Nat
  | (.string bytes, d) => bytes.length + uptoBulk d + 1
  | (_, d) => uptoBulk d + 1
 end
def uptoSmall : (H : Type) → List (DataW H) → Bool := fun _ ds => decide (uptoBulkAll ds ≤ 1048576)
def OpenSpec.upto (s : _root_.Go.ChangeSpec) : _root_.Go.OpenSpec := { _root_.Go.OpenSpec.ofChange s with cond := some uptoSmall }

/-- 'musettetop.TopSlips', WHERE WHAT IT READS IS OF BULK AT MOST 1048576: true; the input reads as it did. -/
def topSlipsUptoRow : OpenClaim := { program := "ytegjabljeepbdaagreatdoor", sum := "63136fea026900a50a2cc47dc69524a1525204622e8af3140ae85f569793175a", func := "musette/musettetop.TopSlips", spec := "topSlips", inPlace := ["internal/reflectlite.ValueOf", "(internal/reflectlite.Value).Type", "(internal/reflectlite.Value).IsNil", "internal/reflectlite.TypeOf", "(internal/reflectlite.Value).Elem", "(internal/reflectlite.Value).Set"], unfollowed := true, recurses := true, named := ["errors.errorType"], plainKeys := false, apart := false, laid := [("errors.errorType", laid_errors_errorType)], narrowed := true }
def TopSlipsUptoSaid : Prop := topSlipsUptoRow.holds Tryz.pinned (OpenSpec.upto topSlipsSpec)

/-- 'musettetop.TopDrawn', WHERE WHAT IT READS IS OF BULK AT MOST 1048576: true; the input reads as it did. -/
def topDrawnUptoRow : OpenClaim := { program := "ytegjabljeepbdaagreatdoor", sum := "63136fea026900a50a2cc47dc69524a1525204622e8af3140ae85f569793175a", func := "musette/musettetop.TopDrawn", spec := "topDrawn", inPlace := ["internal/reflectlite.ValueOf", "(internal/reflectlite.Value).Type", "(internal/reflectlite.Value).IsNil", "internal/reflectlite.TypeOf", "(internal/reflectlite.Value).Elem", "(internal/reflectlite.Value).Set"], unfollowed := true, recurses := true, named := ["errors.errorType"], plainKeys := false, apart := false, laid := [("errors.errorType", laid_errors_errorType)], narrowed := true }
def TopDrawnUptoSaid : Prop := topDrawnUptoRow.holds Tryz.pinned (OpenSpec.upto topDrawnSpec)

/-- 'musettelaw09.BatchWorks', WHERE WHAT IT READS IS OF BULK AT MOST 1048576: true; the input reads as it did. -/
def batchWorksUptoRow : OpenClaim := { program := "ytegjabljeepbdaagreatdoor", sum := "63136fea026900a50a2cc47dc69524a1525204622e8af3140ae85f569793175a", func := "musette/musettelaw09.BatchWorks", spec := "batchWorks", inPlace := ["internal/reflectlite.ValueOf", "(internal/reflectlite.Value).Type", "(internal/reflectlite.Value).IsNil", "internal/reflectlite.TypeOf", "(internal/reflectlite.Value).Elem", "(internal/reflectlite.Value).Set"], unfollowed := true, recurses := true, named := ["errors.errorType"], plainKeys := false, apart := false, laid := [("errors.errorType", laid_errors_errorType)], narrowed := true }
def BatchWorksUptoSaid : Prop := batchWorksUptoRow.holds Tryz.pinned (OpenSpec.upto batchWorksSpec)

/-- 'musettelaw09.BatchDone', WHERE WHAT IT READS IS OF BULK AT MOST 1048576: true; the input reads as it did. -/
def batchDoneUptoRow : OpenClaim := { program := "ytegjabljeepbdaagreatdoor", sum := "63136fea026900a50a2cc47dc69524a1525204622e8af3140ae85f569793175a", func := "musette/musettelaw09.BatchDone", spec := "batchDone", inPlace := ["internal/reflectlite.ValueOf", "(internal/reflectlite.Value).Type", "(internal/reflectlite.Value).IsNil", "internal/reflectlite.TypeOf", "(internal/reflectlite.Value).Elem", "(internal/reflectlite.Value).Set"], unfollowed := true, recurses := true, named := ["errors.errorType"], plainKeys := false, apart := false, laid := [("errors.errorType", laid_errors_errorType)], narrowed := true }
def BatchDoneUptoSaid : Prop := batchDoneUptoRow.holds Tryz.pinned (OpenSpec.upto batchDoneSpec)

end Rows
end Go.Proofs.YtegjabljeepbdaaGreatDoor

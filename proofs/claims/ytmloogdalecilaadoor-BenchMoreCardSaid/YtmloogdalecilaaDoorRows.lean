/-
  NARROWER THAN 'FOR EVERY INPUT', by the rows' own cells (each row's printed sentence says how): BenchTables: laid · BenchBound: laid · BenchKept: laid · BenchMore: laid · BenchSlacks: laid · BenchEnds: laid · BenchLoads: laid · BenchBest: laid · BenchSlack: laid · BenchRenamed: laid · BenchTrue: laid · BenchPut: laid · BenchFirst: laid · BenchKnown: laid.
  DERIVED. THE GIVEN ROWS OF THIS SEAT. 14 by the template 'for every input the law returns true; each argument reads behind the call as it read before'; 0 by the template 'total and deterministic' (their statements: YtmloogdalecilaaDoorTotals.lean).
  GIVEN WITH THE SEED: the statements are not yours to turn. If you find one false, say at which input.
  Laid BY PROGRAM, IN A SANDBOX (cutbox-rows.mjs): the forced cells as the released guide's own fill.sh prints them over the translation 95edb1dbb719dbed… (all of the seat's roots in one cut). By AI agents, Wed Nov 11 2026. No macro, syntax, notation, axiom, sorry.
-/
import Derived.Test.YtmloogdalecilaaDoorChecked
import GoSem.Claim
import GoSem.ClaimJoined
import GoSem.ClaimMapViews
import Derived.JoinedTies
import Derived.KernelRfl
namespace Go.Proofs.YtmloogdalecilaaDoor
/- THE CELL 'sum', in the pinned program and in every row, IS THE sha256 OF THE DUMP (.gsa) THAT YtmloogdalecilaaDoorProg.lean LOADS. Nothing in Lean hashes anything: it is a label: what it is worth is what the hold of that sum in a sandbox is worth. -/
noncomputable def Tryd.pinned : Pinned := { name := "ytmloogdalecilaadoor", sum := "95edb1dbb719dbedb24254c310eb945239c1faec48529ac2ca3778fbc8cd9dc5", checked := Tryd.checked }
namespace Rows
def none {H : Type} : Left H := { results := [], args := [] }

/- WHAT THE LISTED PACKAGE-LEVEL VARIABLES READ AS WHEN THE CALL BEGINS. Each datum BY PROGRAM (the guide's laid-datum.mjs) off the statement by which the dump's own 'gosem.cut.vars' lays the variable. In a bare row this is a premise. The card (YtmloogdalecilaaDoorCards.lean) ties it to the program's text. -/
def laid_errors_errorType {H : Type} : DataW H := .iface "internal/reflectlite.rtype" (.agg [.ptr (.lit (.string [101, 114, 114, 111, 114]))])
def laid_math_bits_deBruijn32tab {H : Type} : DataW H := .agg [.lit (.int .u8 0), .lit (.int .u8 1), .lit (.int .u8 28), .lit (.int .u8 2), .lit (.int .u8 29), .lit (.int .u8 14), .lit (.int .u8 24), .lit (.int .u8 3), .lit (.int .u8 30), .lit (.int .u8 22), .lit (.int .u8 20), .lit (.int .u8 15), .lit (.int .u8 25), .lit (.int .u8 17), .lit (.int .u8 4), .lit (.int .u8 8), .lit (.int .u8 31), .lit (.int .u8 27), .lit (.int .u8 13), .lit (.int .u8 23), .lit (.int .u8 21), .lit (.int .u8 19), .lit (.int .u8 16), .lit (.int .u8 7), .lit (.int .u8 26), .lit (.int .u8 12), .lit (.int .u8 18), .lit (.int .u8 6), .lit (.int .u8 11), .lit (.int .u8 5), .lit (.int .u8 10), .lit (.int .u8 9)]
def laid_math_bits_deBruijn64tab {H : Type} : DataW H := .agg [.lit (.int .u8 0), .lit (.int .u8 1), .lit (.int .u8 56), .lit (.int .u8 2), .lit (.int .u8 57), .lit (.int .u8 49), .lit (.int .u8 28), .lit (.int .u8 3), .lit (.int .u8 61), .lit (.int .u8 58), .lit (.int .u8 42), .lit (.int .u8 50), .lit (.int .u8 38), .lit (.int .u8 29), .lit (.int .u8 17), .lit (.int .u8 4), .lit (.int .u8 62), .lit (.int .u8 47), .lit (.int .u8 59), .lit (.int .u8 36), .lit (.int .u8 45), .lit (.int .u8 43), .lit (.int .u8 51), .lit (.int .u8 22), .lit (.int .u8 53), .lit (.int .u8 39), .lit (.int .u8 33), .lit (.int .u8 30), .lit (.int .u8 24), .lit (.int .u8 18), .lit (.int .u8 12), .lit (.int .u8 5), .lit (.int .u8 63), .lit (.int .u8 55), .lit (.int .u8 48), .lit (.int .u8 27), .lit (.int .u8 60), .lit (.int .u8 41), .lit (.int .u8 37), .lit (.int .u8 16), .lit (.int .u8 46), .lit (.int .u8 35), .lit (.int .u8 44), .lit (.int .u8 21), .lit (.int .u8 52), .lit (.int .u8 32), .lit (.int .u8 23), .lit (.int .u8 11), .lit (.int .u8 54), .lit (.int .u8 26), .lit (.int .u8 40), .lit (.int .u8 15), .lit (.int .u8 34), .lit (.int .u8 20), .lit (.int .u8 31), .lit (.int .u8 10), .lit (.int .u8 25), .lit (.int .u8 14), .lit (.int .u8 19), .lit (.int .u8 9), .lit (.int .u8 13), .lit (.int .u8 8), .lit (.int .u8 7), .lit (.int .u8 6)]
def laid_internal_strconv_uint64pow10 {H : Type} : DataW H := .agg [.lit (.int .u64 1), .lit (.int .u64 10), .lit (.int .u64 100), .lit (.int .u64 1000), .lit (.int .u64 10000), .lit (.int .u64 100000), .lit (.int .u64 1000000), .lit (.int .u64 10000000), .lit (.int .u64 100000000), .lit (.int .u64 1000000000), .lit (.int .u64 10000000000), .lit (.int .u64 100000000000), .lit (.int .u64 1000000000000), .lit (.int .u64 10000000000000), .lit (.int .u64 100000000000000), .lit (.int .u64 1000000000000000), .lit (.int .u64 10000000000000000), .lit (.int .u64 100000000000000000), .lit (.int .u64 1000000000000000000), .lit (.int .u64 10000000000000000000)]

/-- 'musettelaw07.BenchTables': WHATEVER THE INPUT: true; the input reads as it did. -/
def benchTablesSpec : ChangeSpec := { name := "benchTables", fn := fun _ => fun
  | [d1, d2, d3, d4, d5] => { results := [.lit (.bool true)], args := [d1, d2, d3, d4, d5] }
  | _ => none }
def benchTablesRow : OpenClaim := { program := "ytmloogdalecilaadoor", sum := "95edb1dbb719dbedb24254c310eb945239c1faec48529ac2ca3778fbc8cd9dc5", func := "musette/musettelaw07.BenchTables", spec := "benchTables", inPlace := ["internal/reflectlite.ValueOf", "(internal/reflectlite.Value).Type", "(internal/reflectlite.Value).IsNil", "internal/reflectlite.TypeOf", "(internal/reflectlite.Value).Elem", "(internal/reflectlite.Value).Set"], unfollowed := true, recurses := true, named := ["errors.errorType"], plainKeys := false, apart := false, laid := [("errors.errorType", laid_errors_errorType)] }
def BenchTablesSaid : Prop := benchTablesRow.holds Tryd.pinned (OpenSpec.ofChange benchTablesSpec)

/-- ITS FALSE NEIGHBOUR: 'it returns false'. Refute it at one input. -/
def benchTablesWrong : ChangeSpec := { name := "benchTables", fn := fun _ => fun
  | [d1, d2, d3, d4, d5] => { results := [.lit (.bool false)], args := [d1, d2, d3, d4, d5] }
  | _ => none }
def BenchTablesWrongFalsely : Prop := benchTablesRow.holds Tryd.pinned (OpenSpec.ofChange benchTablesWrong)

/-- 'musettelaw07.BenchBound': WHATEVER THE INPUT: true; the input reads as it did. -/
def benchBoundSpec : ChangeSpec := { name := "benchBound", fn := fun _ => fun
  | [d] => { results := [.lit (.bool true)], args := [d] }
  | _ => none }
def benchBoundRow : OpenClaim := { program := "ytmloogdalecilaadoor", sum := "95edb1dbb719dbedb24254c310eb945239c1faec48529ac2ca3778fbc8cd9dc5", func := "musette/musettelaw07.BenchBound", spec := "benchBound", inPlace := ["internal/reflectlite.ValueOf", "(internal/reflectlite.Value).Type", "(internal/reflectlite.Value).IsNil", "internal/reflectlite.TypeOf", "(internal/reflectlite.Value).Elem", "(internal/reflectlite.Value).Set"], unfollowed := true, recurses := true, named := ["errors.errorType"], plainKeys := false, apart := false, laid := [("errors.errorType", laid_errors_errorType)] }
def BenchBoundSaid : Prop := benchBoundRow.holds Tryd.pinned (OpenSpec.ofChange benchBoundSpec)

/-- ITS FALSE NEIGHBOUR: 'it returns false'. Refute it at one input. -/
def benchBoundWrong : ChangeSpec := { name := "benchBound", fn := fun _ => fun
  | [d] => { results := [.lit (.bool false)], args := [d] }
  | _ => none }
def BenchBoundWrongFalsely : Prop := benchBoundRow.holds Tryd.pinned (OpenSpec.ofChange benchBoundWrong)

/-- 'musettelaw07.BenchKept': WHATEVER THE INPUT: true; the input reads as it did. -/
def benchKeptSpec : ChangeSpec := { name := "benchKept", fn := fun _ => fun
  | [d] => { results := [.lit (.bool true)], args := [d] }
  | _ => none }
def benchKeptRow : OpenClaim := { program := "ytmloogdalecilaadoor", sum := "95edb1dbb719dbedb24254c310eb945239c1faec48529ac2ca3778fbc8cd9dc5", func := "musette/musettelaw07.BenchKept", spec := "benchKept", inPlace := ["internal/reflectlite.ValueOf", "(internal/reflectlite.Value).Type", "(internal/reflectlite.Value).IsNil", "internal/reflectlite.TypeOf", "(internal/reflectlite.Value).Elem", "(internal/reflectlite.Value).Set"], unfollowed := true, recurses := true, named := ["errors.errorType"], plainKeys := false, apart := false, laid := [("errors.errorType", laid_errors_errorType)] }
def BenchKeptSaid : Prop := benchKeptRow.holds Tryd.pinned (OpenSpec.ofChange benchKeptSpec)

/-- ITS FALSE NEIGHBOUR: 'it returns false'. Refute it at one input. -/
def benchKeptWrong : ChangeSpec := { name := "benchKept", fn := fun _ => fun
  | [d] => { results := [.lit (.bool false)], args := [d] }
  | _ => none }
def BenchKeptWrongFalsely : Prop := benchKeptRow.holds Tryd.pinned (OpenSpec.ofChange benchKeptWrong)

/-- 'musettelaw07.BenchMore': WHATEVER THE INPUT: true; the input reads as it did. -/
def benchMoreSpec : ChangeSpec := { name := "benchMore", fn := fun _ => fun
  | [d] => { results := [.lit (.bool true)], args := [d] }
  | _ => none }
def benchMoreRow : OpenClaim := { program := "ytmloogdalecilaadoor", sum := "95edb1dbb719dbedb24254c310eb945239c1faec48529ac2ca3778fbc8cd9dc5", func := "musette/musettelaw07.BenchMore", spec := "benchMore", inPlace := ["internal/reflectlite.ValueOf", "(internal/reflectlite.Value).Type", "(internal/reflectlite.Value).IsNil", "internal/reflectlite.TypeOf", "(internal/reflectlite.Value).Elem", "(internal/reflectlite.Value).Set"], unfollowed := true, recurses := true, named := ["errors.errorType"], plainKeys := false, apart := false, laid := [("errors.errorType", laid_errors_errorType)] }
def BenchMoreSaid : Prop := benchMoreRow.holds Tryd.pinned (OpenSpec.ofChange benchMoreSpec)

/-- ITS FALSE NEIGHBOUR: 'it returns false'. Refute it at one input. -/
def benchMoreWrong : ChangeSpec := { name := "benchMore", fn := fun _ => fun
  | [d] => { results := [.lit (.bool false)], args := [d] }
  | _ => none }
def BenchMoreWrongFalsely : Prop := benchMoreRow.holds Tryd.pinned (OpenSpec.ofChange benchMoreWrong)

/-- 'musettelaw07.BenchSlacks': WHATEVER THE INPUT: true; the input reads as it did. -/
def benchSlacksSpec : ChangeSpec := { name := "benchSlacks", fn := fun _ => fun
  | [d1, d2, d3] => { results := [.lit (.bool true)], args := [d1, d2, d3] }
  | _ => none }
def benchSlacksRow : OpenClaim := { program := "ytmloogdalecilaadoor", sum := "95edb1dbb719dbedb24254c310eb945239c1faec48529ac2ca3778fbc8cd9dc5", func := "musette/musettelaw07.BenchSlacks", spec := "benchSlacks", inPlace := ["internal/reflectlite.ValueOf", "(internal/reflectlite.Value).Type", "(internal/reflectlite.Value).IsNil", "internal/reflectlite.TypeOf", "(internal/reflectlite.Value).Elem", "(internal/reflectlite.Value).Set"], unfollowed := true, recurses := true, named := ["errors.errorType"], plainKeys := false, apart := false, laid := [("errors.errorType", laid_errors_errorType)] }
def BenchSlacksSaid : Prop := benchSlacksRow.holds Tryd.pinned (OpenSpec.ofChange benchSlacksSpec)

/-- ITS FALSE NEIGHBOUR: 'it returns false'. Refute it at one input. -/
def benchSlacksWrong : ChangeSpec := { name := "benchSlacks", fn := fun _ => fun
  | [d1, d2, d3] => { results := [.lit (.bool false)], args := [d1, d2, d3] }
  | _ => none }
def BenchSlacksWrongFalsely : Prop := benchSlacksRow.holds Tryd.pinned (OpenSpec.ofChange benchSlacksWrong)

/-- 'musettelaw07.BenchEnds': WHATEVER THE INPUT: true; the input reads as it did. -/
def benchEndsSpec : ChangeSpec := { name := "benchEnds", fn := fun _ => fun
  | [d] => { results := [.lit (.bool true)], args := [d] }
  | _ => none }
def benchEndsRow : OpenClaim := { program := "ytmloogdalecilaadoor", sum := "95edb1dbb719dbedb24254c310eb945239c1faec48529ac2ca3778fbc8cd9dc5", func := "musette/musettelaw07.BenchEnds", spec := "benchEnds", inPlace := ["internal/reflectlite.ValueOf", "(internal/reflectlite.Value).Type", "(internal/reflectlite.Value).IsNil", "internal/reflectlite.TypeOf", "(internal/reflectlite.Value).Elem", "(internal/reflectlite.Value).Set"], unfollowed := true, recurses := true, named := ["errors.errorType"], plainKeys := false, apart := false, laid := [("errors.errorType", laid_errors_errorType)] }
def BenchEndsSaid : Prop := benchEndsRow.holds Tryd.pinned (OpenSpec.ofChange benchEndsSpec)

/-- ITS FALSE NEIGHBOUR: 'it returns false'. Refute it at one input. -/
def benchEndsWrong : ChangeSpec := { name := "benchEnds", fn := fun _ => fun
  | [d] => { results := [.lit (.bool false)], args := [d] }
  | _ => none }
def BenchEndsWrongFalsely : Prop := benchEndsRow.holds Tryd.pinned (OpenSpec.ofChange benchEndsWrong)

/-- 'musettelaw07.BenchLoads': WHATEVER THE INPUT: true; the input reads as it did. -/
def benchLoadsSpec : ChangeSpec := { name := "benchLoads", fn := fun _ => fun
  | [d1, d2, d3] => { results := [.lit (.bool true)], args := [d1, d2, d3] }
  | _ => none }
def benchLoadsRow : OpenClaim := { program := "ytmloogdalecilaadoor", sum := "95edb1dbb719dbedb24254c310eb945239c1faec48529ac2ca3778fbc8cd9dc5", func := "musette/musettelaw07.BenchLoads", spec := "benchLoads", inPlace := ["internal/reflectlite.ValueOf", "(internal/reflectlite.Value).Type", "(internal/reflectlite.Value).IsNil", "internal/reflectlite.TypeOf", "(internal/reflectlite.Value).Elem", "(internal/reflectlite.Value).Set"], unfollowed := true, recurses := true, named := ["errors.errorType"], plainKeys := false, apart := false, laid := [("errors.errorType", laid_errors_errorType)] }
def BenchLoadsSaid : Prop := benchLoadsRow.holds Tryd.pinned (OpenSpec.ofChange benchLoadsSpec)

/-- ITS FALSE NEIGHBOUR: 'it returns false'. Refute it at one input. -/
def benchLoadsWrong : ChangeSpec := { name := "benchLoads", fn := fun _ => fun
  | [d1, d2, d3] => { results := [.lit (.bool false)], args := [d1, d2, d3] }
  | _ => none }
def BenchLoadsWrongFalsely : Prop := benchLoadsRow.holds Tryd.pinned (OpenSpec.ofChange benchLoadsWrong)

/-- 'musettelaw07.BenchBest': WHATEVER THE INPUT: true; the input reads as it did. -/
def benchBestSpec : ChangeSpec := { name := "benchBest", fn := fun _ => fun
  | [d1, d2] => { results := [.lit (.bool true)], args := [d1, d2] }
  | _ => none }
def benchBestRow : OpenClaim := { program := "ytmloogdalecilaadoor", sum := "95edb1dbb719dbedb24254c310eb945239c1faec48529ac2ca3778fbc8cd9dc5", func := "musette/musettelaw07.BenchBest", spec := "benchBest", inPlace := ["internal/reflectlite.ValueOf", "(internal/reflectlite.Value).Type", "(internal/reflectlite.Value).IsNil", "internal/reflectlite.TypeOf", "(internal/reflectlite.Value).Elem", "(internal/reflectlite.Value).Set"], unfollowed := true, recurses := true, named := ["errors.errorType"], plainKeys := false, apart := false, laid := [("errors.errorType", laid_errors_errorType)] }
def BenchBestSaid : Prop := benchBestRow.holds Tryd.pinned (OpenSpec.ofChange benchBestSpec)

/-- ITS FALSE NEIGHBOUR: 'it returns false'. Refute it at one input. -/
def benchBestWrong : ChangeSpec := { name := "benchBest", fn := fun _ => fun
  | [d1, d2] => { results := [.lit (.bool false)], args := [d1, d2] }
  | _ => none }
def BenchBestWrongFalsely : Prop := benchBestRow.holds Tryd.pinned (OpenSpec.ofChange benchBestWrong)

/-- 'musettelaw07.BenchSlack': WHATEVER THE INPUT: true; the input reads as it did. -/
def benchSlackSpec : ChangeSpec := { name := "benchSlack", fn := fun _ => fun
  | [d] => { results := [.lit (.bool true)], args := [d] }
  | _ => none }
def benchSlackRow : OpenClaim := { program := "ytmloogdalecilaadoor", sum := "95edb1dbb719dbedb24254c310eb945239c1faec48529ac2ca3778fbc8cd9dc5", func := "musette/musettelaw07.BenchSlack", spec := "benchSlack", inPlace := ["internal/reflectlite.ValueOf", "(internal/reflectlite.Value).Type", "(internal/reflectlite.Value).IsNil", "internal/reflectlite.TypeOf", "(internal/reflectlite.Value).Elem", "(internal/reflectlite.Value).Set"], unfollowed := true, recurses := true, named := ["errors.errorType"], plainKeys := false, apart := false, laid := [("errors.errorType", laid_errors_errorType)] }
def BenchSlackSaid : Prop := benchSlackRow.holds Tryd.pinned (OpenSpec.ofChange benchSlackSpec)

/-- ITS FALSE NEIGHBOUR: 'it returns false'. Refute it at one input. -/
def benchSlackWrong : ChangeSpec := { name := "benchSlack", fn := fun _ => fun
  | [d] => { results := [.lit (.bool false)], args := [d] }
  | _ => none }
def BenchSlackWrongFalsely : Prop := benchSlackRow.holds Tryd.pinned (OpenSpec.ofChange benchSlackWrong)

/-- 'musettelaw07.BenchRenamed': WHATEVER THE INPUT: true; the input reads as it did. -/
def benchRenamedSpec : ChangeSpec := { name := "benchRenamed", fn := fun _ => fun
  | [d] => { results := [.lit (.bool true)], args := [d] }
  | _ => none }
def benchRenamedRow : OpenClaim := { program := "ytmloogdalecilaadoor", sum := "95edb1dbb719dbedb24254c310eb945239c1faec48529ac2ca3778fbc8cd9dc5", func := "musette/musettelaw07.BenchRenamed", spec := "benchRenamed", inPlace := ["internal/reflectlite.ValueOf", "(internal/reflectlite.Value).Type", "(internal/reflectlite.Value).IsNil", "internal/reflectlite.TypeOf", "(internal/reflectlite.Value).Elem", "(internal/reflectlite.Value).Set"], unfollowed := true, recurses := true, named := ["errors.errorType"], plainKeys := false, apart := false, laid := [("errors.errorType", laid_errors_errorType)] }
def BenchRenamedSaid : Prop := benchRenamedRow.holds Tryd.pinned (OpenSpec.ofChange benchRenamedSpec)

/-- ITS FALSE NEIGHBOUR: 'it returns false'. Refute it at one input. -/
def benchRenamedWrong : ChangeSpec := { name := "benchRenamed", fn := fun _ => fun
  | [d] => { results := [.lit (.bool false)], args := [d] }
  | _ => none }
def BenchRenamedWrongFalsely : Prop := benchRenamedRow.holds Tryd.pinned (OpenSpec.ofChange benchRenamedWrong)

/-- 'musettelaw07.BenchTrue': WHATEVER THE INPUT: true; the input reads as it did. -/
def benchTrueSpec : ChangeSpec := { name := "benchTrue", fn := fun _ => fun
  | [d] => { results := [.lit (.bool true)], args := [d] }
  | _ => none }
def benchTrueRow : OpenClaim := { program := "ytmloogdalecilaadoor", sum := "95edb1dbb719dbedb24254c310eb945239c1faec48529ac2ca3778fbc8cd9dc5", func := "musette/musettelaw07.BenchTrue", spec := "benchTrue", inPlace := ["internal/reflectlite.ValueOf", "(internal/reflectlite.Value).Type", "(internal/reflectlite.Value).IsNil", "internal/reflectlite.TypeOf", "(internal/reflectlite.Value).Elem", "(internal/reflectlite.Value).Set"], unfollowed := true, recurses := true, named := ["errors.errorType"], plainKeys := false, apart := false, laid := [("errors.errorType", laid_errors_errorType)] }
def BenchTrueSaid : Prop := benchTrueRow.holds Tryd.pinned (OpenSpec.ofChange benchTrueSpec)

/-- ITS FALSE NEIGHBOUR: 'it returns false'. Refute it at one input. -/
def benchTrueWrong : ChangeSpec := { name := "benchTrue", fn := fun _ => fun
  | [d] => { results := [.lit (.bool false)], args := [d] }
  | _ => none }
def BenchTrueWrongFalsely : Prop := benchTrueRow.holds Tryd.pinned (OpenSpec.ofChange benchTrueWrong)

/-- 'musettelaw07.BenchPut': WHATEVER THE INPUT: true; the input reads as it did. -/
def benchPutSpec : ChangeSpec := { name := "benchPut", fn := fun _ => fun
  | [d] => { results := [.lit (.bool true)], args := [d] }
  | _ => none }
def benchPutRow : OpenClaim := { program := "ytmloogdalecilaadoor", sum := "95edb1dbb719dbedb24254c310eb945239c1faec48529ac2ca3778fbc8cd9dc5", func := "musette/musettelaw07.BenchPut", spec := "benchPut", inPlace := ["internal/reflectlite.ValueOf", "(internal/reflectlite.Value).Type", "(internal/reflectlite.Value).IsNil", "internal/reflectlite.TypeOf", "(internal/reflectlite.Value).Elem", "(internal/reflectlite.Value).Set"], unfollowed := true, recurses := true, named := ["errors.errorType"], plainKeys := false, apart := false, laid := [("errors.errorType", laid_errors_errorType)] }
def BenchPutSaid : Prop := benchPutRow.holds Tryd.pinned (OpenSpec.ofChange benchPutSpec)

/-- ITS FALSE NEIGHBOUR: 'it returns false'. Refute it at one input. -/
def benchPutWrong : ChangeSpec := { name := "benchPut", fn := fun _ => fun
  | [d] => { results := [.lit (.bool false)], args := [d] }
  | _ => none }
def BenchPutWrongFalsely : Prop := benchPutRow.holds Tryd.pinned (OpenSpec.ofChange benchPutWrong)

/-- 'musettelaw07.BenchFirst': WHATEVER THE INPUT: true; the input reads as it did. -/
def benchFirstSpec : ChangeSpec := { name := "benchFirst", fn := fun _ => fun
  | [d] => { results := [.lit (.bool true)], args := [d] }
  | _ => none }
def benchFirstRow : OpenClaim := { program := "ytmloogdalecilaadoor", sum := "95edb1dbb719dbedb24254c310eb945239c1faec48529ac2ca3778fbc8cd9dc5", func := "musette/musettelaw07.BenchFirst", spec := "benchFirst", inPlace := ["internal/reflectlite.ValueOf", "(internal/reflectlite.Value).Type", "(internal/reflectlite.Value).IsNil", "internal/reflectlite.TypeOf", "(internal/reflectlite.Value).Elem", "(internal/reflectlite.Value).Set"], unfollowed := true, recurses := true, named := ["errors.errorType"], plainKeys := false, apart := false, laid := [("errors.errorType", laid_errors_errorType)] }
def BenchFirstSaid : Prop := benchFirstRow.holds Tryd.pinned (OpenSpec.ofChange benchFirstSpec)

/-- ITS FALSE NEIGHBOUR: 'it returns false'. Refute it at one input. -/
def benchFirstWrong : ChangeSpec := { name := "benchFirst", fn := fun _ => fun
  | [d] => { results := [.lit (.bool false)], args := [d] }
  | _ => none }
def BenchFirstWrongFalsely : Prop := benchFirstRow.holds Tryd.pinned (OpenSpec.ofChange benchFirstWrong)

/-- 'musettelaw07.BenchKnown': WHATEVER THE INPUT: true; the input reads as it did. -/
def benchKnownSpec : ChangeSpec := { name := "benchKnown", fn := fun _ => fun
  | [] => { results := [.lit (.bool true)], args := [] }
  | _ => none }
def benchKnownRow : OpenClaim := { program := "ytmloogdalecilaadoor", sum := "95edb1dbb719dbedb24254c310eb945239c1faec48529ac2ca3778fbc8cd9dc5", func := "musette/musettelaw07.BenchKnown", spec := "benchKnown", inPlace := ["internal/reflectlite.ValueOf", "(internal/reflectlite.Value).Type", "(internal/reflectlite.Value).IsNil", "internal/reflectlite.TypeOf", "(internal/reflectlite.Value).Elem", "(internal/reflectlite.Value).Set"], unfollowed := true, recurses := true, named := ["errors.errorType", "internal/strconv.uint64pow10", "math/bits.deBruijn32tab", "math/bits.deBruijn64tab"], plainKeys := false, apart := false, laid := [("math/bits.deBruijn32tab", laid_math_bits_deBruijn32tab), ("math/bits.deBruijn64tab", laid_math_bits_deBruijn64tab), ("internal/strconv.uint64pow10", laid_internal_strconv_uint64pow10), ("errors.errorType", laid_errors_errorType)] }
def BenchKnownSaid : Prop := benchKnownRow.holds Tryd.pinned (OpenSpec.ofChange benchKnownSpec)

/-- ITS FALSE NEIGHBOUR: 'it returns false'. Refute it at one input. -/
def benchKnownWrong : ChangeSpec := { name := "benchKnown", fn := fun _ => fun
  | [] => { results := [.lit (.bool false)], args := [] }
  | _ => none }
def BenchKnownWrongFalsely : Prop := benchKnownRow.holds Tryd.pinned (OpenSpec.ofChange benchKnownWrong)

/- THE SECOND FORM. 'bulk': how many values and letters a reading holds, each counted each time it is reached (what is shared counts as often as it is met; a slice's spare places count too). A statement '..UptoSaid' is the law's where the arguments, and the package variables that the reading takes, are together of bulk at most 1048576: NARROWER than '..Said'. Prove '..Said' where nothing that the law and all that it calls make is longer than what came in: it says more and counts as full. Else prove '..UptoSaid'. A law counts once. -/
mutual
def uptoBulk {H : Type} : DataW H → Nat
  | .lit (.string bytes) => bytes.length + 1
  | .lit _ => 1
  | .nil => 1
  | .ptr d => uptoBulk d + 1
  | .slice elems spare => uptoBulkAll elems + uptoBulkAll spare + 1
  | .agg parts => uptoBulkAll parts + 1
  | .iface _ d => uptoBulk d + 1
  | .map entries => uptoBulkEntries entries + 1
  | .held _ => 1
def uptoBulkAll {H : Type} : List (DataW H) → Nat
  | [] => 0
  | d :: r => uptoBulk d + uptoBulkAll r
def uptoBulkEntries {H : Type} : List (Lit × DataW H) → Nat
  | [] => 0
  | x :: r => uptoBulkEntry x + uptoBulkEntries r
def uptoBulkEntry {H : Type} : Lit × DataW H → Nat
  | (.string bytes, d) => bytes.length + uptoBulk d + 1
  | (_, d) => uptoBulk d + 1
 end
def uptoSmall : (H : Type) → List (DataW H) → Bool := fun _ ds => decide (uptoBulkAll ds ≤ 1048576)
def OpenSpec.upto (s : _root_.Go.ChangeSpec) : _root_.Go.OpenSpec := { _root_.Go.OpenSpec.ofChange s with cond := some uptoSmall }

/-- 'musettelaw07.BenchTables', WHERE WHAT IT READS IS OF BULK AT MOST 1048576: true; the input reads as it did. -/
def benchTablesUptoRow : OpenClaim := { program := "ytmloogdalecilaadoor", sum := "95edb1dbb719dbedb24254c310eb945239c1faec48529ac2ca3778fbc8cd9dc5", func := "musette/musettelaw07.BenchTables", spec := "benchTables", inPlace := ["internal/reflectlite.ValueOf", "(internal/reflectlite.Value).Type", "(internal/reflectlite.Value).IsNil", "internal/reflectlite.TypeOf", "(internal/reflectlite.Value).Elem", "(internal/reflectlite.Value).Set"], unfollowed := true, recurses := true, named := ["errors.errorType"], plainKeys := false, apart := false, laid := [("errors.errorType", laid_errors_errorType)], narrowed := true }
def BenchTablesUptoSaid : Prop := benchTablesUptoRow.holds Tryd.pinned (OpenSpec.upto benchTablesSpec)

/-- 'musettelaw07.BenchBound', WHERE WHAT IT READS IS OF BULK AT MOST 1048576: true; the input reads as it did. -/
def benchBoundUptoRow : OpenClaim := { program := "ytmloogdalecilaadoor", sum := "95edb1dbb719dbedb24254c310eb945239c1faec48529ac2ca3778fbc8cd9dc5", func := "musette/musettelaw07.BenchBound", spec := "benchBound", inPlace := ["internal/reflectlite.ValueOf", "(internal/reflectlite.Value).Type", "(internal/reflectlite.Value).IsNil", "internal/reflectlite.TypeOf", "(internal/reflectlite.Value).Elem", "(internal/reflectlite.Value).Set"], unfollowed := true, recurses := true, named := ["errors.errorType"], plainKeys := false, apart := false, laid := [("errors.errorType", laid_errors_errorType)], narrowed := true }
def BenchBoundUptoSaid : Prop := benchBoundUptoRow.holds Tryd.pinned (OpenSpec.upto benchBoundSpec)

/-- 'musettelaw07.BenchKept', WHERE WHAT IT READS IS OF BULK AT MOST 1048576: true; the input reads as it did. -/
def benchKeptUptoRow : OpenClaim := { program := "ytmloogdalecilaadoor", sum := "95edb1dbb719dbedb24254c310eb945239c1faec48529ac2ca3778fbc8cd9dc5", func := "musette/musettelaw07.BenchKept", spec := "benchKept", inPlace := ["internal/reflectlite.ValueOf", "(internal/reflectlite.Value).Type", "(internal/reflectlite.Value).IsNil", "internal/reflectlite.TypeOf", "(internal/reflectlite.Value).Elem", "(internal/reflectlite.Value).Set"], unfollowed := true, recurses := true, named := ["errors.errorType"], plainKeys := false, apart := false, laid := [("errors.errorType", laid_errors_errorType)], narrowed := true }
def BenchKeptUptoSaid : Prop := benchKeptUptoRow.holds Tryd.pinned (OpenSpec.upto benchKeptSpec)

/-- 'musettelaw07.BenchMore', WHERE WHAT IT READS IS OF BULK AT MOST 1048576: true; the input reads as it did. -/
def benchMoreUptoRow : OpenClaim := { program := "ytmloogdalecilaadoor", sum := "95edb1dbb719dbedb24254c310eb945239c1faec48529ac2ca3778fbc8cd9dc5", func := "musette/musettelaw07.BenchMore", spec := "benchMore", inPlace := ["internal/reflectlite.ValueOf", "(internal/reflectlite.Value).Type", "(internal/reflectlite.Value).IsNil", "internal/reflectlite.TypeOf", "(internal/reflectlite.Value).Elem", "(internal/reflectlite.Value).Set"], unfollowed := true, recurses := true, named := ["errors.errorType"], plainKeys := false, apart := false, laid := [("errors.errorType", laid_errors_errorType)], narrowed := true }
def BenchMoreUptoSaid : Prop := benchMoreUptoRow.holds Tryd.pinned (OpenSpec.upto benchMoreSpec)

/-- 'musettelaw07.BenchSlacks', WHERE WHAT IT READS IS OF BULK AT MOST 1048576: true; the input reads as it did. -/
def benchSlacksUptoRow : OpenClaim := { program := "ytmloogdalecilaadoor", sum := "95edb1dbb719dbedb24254c310eb945239c1faec48529ac2ca3778fbc8cd9dc5", func := "musette/musettelaw07.BenchSlacks", spec := "benchSlacks", inPlace := ["internal/reflectlite.ValueOf", "(internal/reflectlite.Value).Type", "(internal/reflectlite.Value).IsNil", "internal/reflectlite.TypeOf", "(internal/reflectlite.Value).Elem", "(internal/reflectlite.Value).Set"], unfollowed := true, recurses := true, named := ["errors.errorType"], plainKeys := false, apart := false, laid := [("errors.errorType", laid_errors_errorType)], narrowed := true }
def BenchSlacksUptoSaid : Prop := benchSlacksUptoRow.holds Tryd.pinned (OpenSpec.upto benchSlacksSpec)

/-- 'musettelaw07.BenchEnds', WHERE WHAT IT READS IS OF BULK AT MOST 1048576: true; the input reads as it did. -/
def benchEndsUptoRow : OpenClaim := { program := "ytmloogdalecilaadoor", sum := "95edb1dbb719dbedb24254c310eb945239c1faec48529ac2ca3778fbc8cd9dc5", func := "musette/musettelaw07.BenchEnds", spec := "benchEnds", inPlace := ["internal/reflectlite.ValueOf", "(internal/reflectlite.Value).Type", "(internal/reflectlite.Value).IsNil", "internal/reflectlite.TypeOf", "(internal/reflectlite.Value).Elem", "(internal/reflectlite.Value).Set"], unfollowed := true, recurses := true, named := ["errors.errorType"], plainKeys := false, apart := false, laid := [("errors.errorType", laid_errors_errorType)], narrowed := true }
def BenchEndsUptoSaid : Prop := benchEndsUptoRow.holds Tryd.pinned (OpenSpec.upto benchEndsSpec)

/-- 'musettelaw07.BenchLoads', WHERE WHAT IT READS IS OF BULK AT MOST 1048576: true; the input reads as it did. -/
def benchLoadsUptoRow : OpenClaim := { program := "ytmloogdalecilaadoor", sum := "95edb1dbb719dbedb24254c310eb945239c1faec48529ac2ca3778fbc8cd9dc5", func := "musette/musettelaw07.BenchLoads", spec := "benchLoads", inPlace := ["internal/reflectlite.ValueOf", "(internal/reflectlite.Value).Type", "(internal/reflectlite.Value).IsNil", "internal/reflectlite.TypeOf", "(internal/reflectlite.Value).Elem", "(internal/reflectlite.Value).Set"], unfollowed := true, recurses := true, named := ["errors.errorType"], plainKeys := false, apart := false, laid := [("errors.errorType", laid_errors_errorType)], narrowed := true }
def BenchLoadsUptoSaid : Prop := benchLoadsUptoRow.holds Tryd.pinned (OpenSpec.upto benchLoadsSpec)

/-- 'musettelaw07.BenchBest', WHERE WHAT IT READS IS OF BULK AT MOST 1048576: true; the input reads as it did. -/
def benchBestUptoRow : OpenClaim := { program := "ytmloogdalecilaadoor", sum := "95edb1dbb719dbedb24254c310eb945239c1faec48529ac2ca3778fbc8cd9dc5", func := "musette/musettelaw07.BenchBest", spec := "benchBest", inPlace := ["internal/reflectlite.ValueOf", "(internal/reflectlite.Value).Type", "(internal/reflectlite.Value).IsNil", "internal/reflectlite.TypeOf", "(internal/reflectlite.Value).Elem", "(internal/reflectlite.Value).Set"], unfollowed := true, recurses := true, named := ["errors.errorType"], plainKeys := false, apart := false, laid := [("errors.errorType", laid_errors_errorType)], narrowed := true }
def BenchBestUptoSaid : Prop := benchBestUptoRow.holds Tryd.pinned (OpenSpec.upto benchBestSpec)

/-- 'musettelaw07.BenchSlack', WHERE WHAT IT READS IS OF BULK AT MOST 1048576: true; the input reads as it did. -/
def benchSlackUptoRow : OpenClaim := { program := "ytmloogdalecilaadoor", sum := "95edb1dbb719dbedb24254c310eb945239c1faec48529ac2ca3778fbc8cd9dc5", func := "musette/musettelaw07.BenchSlack", spec := "benchSlack", inPlace := ["internal/reflectlite.ValueOf", "(internal/reflectlite.Value).Type", "(internal/reflectlite.Value).IsNil", "internal/reflectlite.TypeOf", "(internal/reflectlite.Value).Elem", "(internal/reflectlite.Value).Set"], unfollowed := true, recurses := true, named := ["errors.errorType"], plainKeys := false, apart := false, laid := [("errors.errorType", laid_errors_errorType)], narrowed := true }
def BenchSlackUptoSaid : Prop := benchSlackUptoRow.holds Tryd.pinned (OpenSpec.upto benchSlackSpec)

/-- 'musettelaw07.BenchRenamed', WHERE WHAT IT READS IS OF BULK AT MOST 1048576: true; the input reads as it did. -/
def benchRenamedUptoRow : OpenClaim := { program := "ytmloogdalecilaadoor", sum := "95edb1dbb719dbedb24254c310eb945239c1faec48529ac2ca3778fbc8cd9dc5", func := "musette/musettelaw07.BenchRenamed", spec := "benchRenamed", inPlace := ["internal/reflectlite.ValueOf", "(internal/reflectlite.Value).Type", "(internal/reflectlite.Value).IsNil", "internal/reflectlite.TypeOf", "(internal/reflectlite.Value).Elem", "(internal/reflectlite.Value).Set"], unfollowed := true, recurses := true, named := ["errors.errorType"], plainKeys := false, apart := false, laid := [("errors.errorType", laid_errors_errorType)], narrowed := true }
def BenchRenamedUptoSaid : Prop := benchRenamedUptoRow.holds Tryd.pinned (OpenSpec.upto benchRenamedSpec)

/-- 'musettelaw07.BenchTrue', WHERE WHAT IT READS IS OF BULK AT MOST 1048576: true; the input reads as it did. -/
def benchTrueUptoRow : OpenClaim := { program := "ytmloogdalecilaadoor", sum := "95edb1dbb719dbedb24254c310eb945239c1faec48529ac2ca3778fbc8cd9dc5", func := "musette/musettelaw07.BenchTrue", spec := "benchTrue", inPlace := ["internal/reflectlite.ValueOf", "(internal/reflectlite.Value).Type", "(internal/reflectlite.Value).IsNil", "internal/reflectlite.TypeOf", "(internal/reflectlite.Value).Elem", "(internal/reflectlite.Value).Set"], unfollowed := true, recurses := true, named := ["errors.errorType"], plainKeys := false, apart := false, laid := [("errors.errorType", laid_errors_errorType)], narrowed := true }
def BenchTrueUptoSaid : Prop := benchTrueUptoRow.holds Tryd.pinned (OpenSpec.upto benchTrueSpec)

/-- 'musettelaw07.BenchPut', WHERE WHAT IT READS IS OF BULK AT MOST 1048576: true; the input reads as it did. -/
def benchPutUptoRow : OpenClaim := { program := "ytmloogdalecilaadoor", sum := "95edb1dbb719dbedb24254c310eb945239c1faec48529ac2ca3778fbc8cd9dc5", func := "musette/musettelaw07.BenchPut", spec := "benchPut", inPlace := ["internal/reflectlite.ValueOf", "(internal/reflectlite.Value).Type", "(internal/reflectlite.Value).IsNil", "internal/reflectlite.TypeOf", "(internal/reflectlite.Value).Elem", "(internal/reflectlite.Value).Set"], unfollowed := true, recurses := true, named := ["errors.errorType"], plainKeys := false, apart := false, laid := [("errors.errorType", laid_errors_errorType)], narrowed := true }
def BenchPutUptoSaid : Prop := benchPutUptoRow.holds Tryd.pinned (OpenSpec.upto benchPutSpec)

/-- 'musettelaw07.BenchFirst', WHERE WHAT IT READS IS OF BULK AT MOST 1048576: true; the input reads as it did. -/
def benchFirstUptoRow : OpenClaim := { program := "ytmloogdalecilaadoor", sum := "95edb1dbb719dbedb24254c310eb945239c1faec48529ac2ca3778fbc8cd9dc5", func := "musette/musettelaw07.BenchFirst", spec := "benchFirst", inPlace := ["internal/reflectlite.ValueOf", "(internal/reflectlite.Value).Type", "(internal/reflectlite.Value).IsNil", "internal/reflectlite.TypeOf", "(internal/reflectlite.Value).Elem", "(internal/reflectlite.Value).Set"], unfollowed := true, recurses := true, named := ["errors.errorType"], plainKeys := false, apart := false, laid := [("errors.errorType", laid_errors_errorType)], narrowed := true }
def BenchFirstUptoSaid : Prop := benchFirstUptoRow.holds Tryd.pinned (OpenSpec.upto benchFirstSpec)

/-- 'musettelaw07.BenchKnown', WHERE WHAT IT READS IS OF BULK AT MOST 1048576: true; the input reads as it did. -/
def benchKnownUptoRow : OpenClaim := { program := "ytmloogdalecilaadoor", sum := "95edb1dbb719dbedb24254c310eb945239c1faec48529ac2ca3778fbc8cd9dc5", func := "musette/musettelaw07.BenchKnown", spec := "benchKnown", inPlace := ["internal/reflectlite.ValueOf", "(internal/reflectlite.Value).Type", "(internal/reflectlite.Value).IsNil", "internal/reflectlite.TypeOf", "(internal/reflectlite.Value).Elem", "(internal/reflectlite.Value).Set"], unfollowed := true, recurses := true, named := ["errors.errorType", "internal/strconv.uint64pow10", "math/bits.deBruijn32tab", "math/bits.deBruijn64tab"], plainKeys := false, apart := false, laid := [("math/bits.deBruijn32tab", laid_math_bits_deBruijn32tab), ("math/bits.deBruijn64tab", laid_math_bits_deBruijn64tab), ("internal/strconv.uint64pow10", laid_internal_strconv_uint64pow10), ("errors.errorType", laid_errors_errorType)], narrowed := true }
def BenchKnownUptoSaid : Prop := benchKnownUptoRow.holds Tryd.pinned (OpenSpec.upto benchKnownSpec)

end Rows
end Go.Proofs.YtmloogdalecilaaDoor

/-
  No cell of these rows narrows 'for every input' (looked for: loops, veiled, ifaces, maps, wideKeys, modest, calm, conditions, laid).
  DERIVED. THE GIVEN ROWS OF THIS SEAT. 13 by the template 'for every input the law returns true; each argument reads behind the call as it read before'; 0 by the template 'total and deterministic' (their statements: YtecfpfhkicapeaaTotals.lean).
  GIVEN WITH THE SEED: the statements are not yours to turn. If you find one false, say at which input.
  Laid BY PROGRAM, IN A SANDBOX (cutbox-rows.mjs): the forced cells as the released guide's own fill.sh prints them over the translation a2f9f98f0ea223e9… (all of the seat's roots in one cut). By AI agents, Wed Nov 11 2026. No macro, syntax, notation, axiom, sorry.
-/
import Derived.Test.YtecfpfhkicapeaaChecked
import GoSem.Claim
import GoSem.ClaimJoined
import GoSem.ClaimMapViews
import Derived.JoinedTies
import Derived.KernelRfl
namespace Go.Proofs.Ytecfpfhkicapeaa
/- THE CELL 'sum', in the pinned program and in every row, IS THE sha256 OF THE DUMP (.gsa) THAT YtecfpfhkicapeaaProg.lean LOADS. Nothing in Lean hashes anything: it is a label: what it is worth is what the hold of that sum in a sandbox is worth. -/
noncomputable def Try.pinned : Pinned := { name := "ytecfpfhkicapeaa", sum := "a2f9f98f0ea223e956c42d18a3670010688425d41deabe17656f7660d68c88f0", checked := Try.checked }
namespace Rows
def none {H : Type} : Left H := { results := [], args := [] }

/-- 'musettelaw09.BatchWrong': WHATEVER THE INPUT: true; the input reads as it did. -/
def batchWrongSpec : ChangeSpec := { name := "batchWrong", fn := fun _ => fun
  | [d1, d2, d3] => { results := [.lit (.bool true)], args := [d1, d2, d3] }
  | _ => none }
def batchWrongRow : OpenClaim := { program := "ytecfpfhkicapeaa", sum := "a2f9f98f0ea223e956c42d18a3670010688425d41deabe17656f7660d68c88f0", func := "musette/musettelaw09.BatchWrong", spec := "batchWrong", unfollowed := true, recurses := true, plainKeys := false, apart := false }
def BatchWrongSaid : Prop := batchWrongRow.holds Try.pinned (OpenSpec.ofChange batchWrongSpec)

/-- ITS FALSE NEIGHBOUR: 'it returns false'. Refute it at one input. -/
def batchWrongWrong : ChangeSpec := { name := "batchWrong", fn := fun _ => fun
  | [d1, d2, d3] => { results := [.lit (.bool false)], args := [d1, d2, d3] }
  | _ => none }
def BatchWrongWrongFalsely : Prop := batchWrongRow.holds Try.pinned (OpenSpec.ofChange batchWrongWrong)

/-- 'musettelaw09.BatchRenamed': WHATEVER THE INPUT: true; the input reads as it did. -/
def batchRenamedSpec : ChangeSpec := { name := "batchRenamed", fn := fun _ => fun
  | [d] => { results := [.lit (.bool true)], args := [d] }
  | _ => none }
def batchRenamedRow : OpenClaim := { program := "ytecfpfhkicapeaa", sum := "a2f9f98f0ea223e956c42d18a3670010688425d41deabe17656f7660d68c88f0", func := "musette/musettelaw09.BatchRenamed", spec := "batchRenamed", unfollowed := true, recurses := true, plainKeys := false, apart := false }
def BatchRenamedSaid : Prop := batchRenamedRow.holds Try.pinned (OpenSpec.ofChange batchRenamedSpec)

/-- ITS FALSE NEIGHBOUR: 'it returns false'. Refute it at one input. -/
def batchRenamedWrong : ChangeSpec := { name := "batchRenamed", fn := fun _ => fun
  | [d] => { results := [.lit (.bool false)], args := [d] }
  | _ => none }
def BatchRenamedWrongFalsely : Prop := batchRenamedRow.holds Try.pinned (OpenSpec.ofChange batchRenamedWrong)

/-- 'musettelaw09.BatchFewest': WHATEVER THE INPUT: true; the input reads as it did. -/
def batchFewestSpec : ChangeSpec := { name := "batchFewest", fn := fun _ => fun
  | [d] => { results := [.lit (.bool true)], args := [d] }
  | _ => none }
def batchFewestRow : OpenClaim := { program := "ytecfpfhkicapeaa", sum := "a2f9f98f0ea223e956c42d18a3670010688425d41deabe17656f7660d68c88f0", func := "musette/musettelaw09.BatchFewest", spec := "batchFewest", unfollowed := true, recurses := true, plainKeys := false, apart := false }
def BatchFewestSaid : Prop := batchFewestRow.holds Try.pinned (OpenSpec.ofChange batchFewestSpec)

/-- ITS FALSE NEIGHBOUR: 'it returns false'. Refute it at one input. -/
def batchFewestWrong : ChangeSpec := { name := "batchFewest", fn := fun _ => fun
  | [d] => { results := [.lit (.bool false)], args := [d] }
  | _ => none }
def BatchFewestWrongFalsely : Prop := batchFewestRow.holds Try.pinned (OpenSpec.ofChange batchFewestWrong)

/-- 'musettelaw09.BatchAny': WHATEVER THE INPUT: true; the input reads as it did. -/
def batchAnySpec : ChangeSpec := { name := "batchAny", fn := fun _ => fun
  | [d] => { results := [.lit (.bool true)], args := [d] }
  | _ => none }
def batchAnyRow : OpenClaim := { program := "ytecfpfhkicapeaa", sum := "a2f9f98f0ea223e956c42d18a3670010688425d41deabe17656f7660d68c88f0", func := "musette/musettelaw09.BatchAny", spec := "batchAny", unfollowed := true, recurses := true, plainKeys := false, apart := false }
def BatchAnySaid : Prop := batchAnyRow.holds Try.pinned (OpenSpec.ofChange batchAnySpec)

/-- ITS FALSE NEIGHBOUR: 'it returns false'. Refute it at one input. -/
def batchAnyWrong : ChangeSpec := { name := "batchAny", fn := fun _ => fun
  | [d] => { results := [.lit (.bool false)], args := [d] }
  | _ => none }
def BatchAnyWrongFalsely : Prop := batchAnyRow.holds Try.pinned (OpenSpec.ofChange batchAnyWrong)

/-- 'musettelaw09.BatchHolds': WHATEVER THE INPUT: true; the input reads as it did. -/
def batchHoldsSpec : ChangeSpec := { name := "batchHolds", fn := fun _ => fun
  | [d1, d2, d3, d4, d5] => { results := [.lit (.bool true)], args := [d1, d2, d3, d4, d5] }
  | _ => none }
def batchHoldsRow : OpenClaim := { program := "ytecfpfhkicapeaa", sum := "a2f9f98f0ea223e956c42d18a3670010688425d41deabe17656f7660d68c88f0", func := "musette/musettelaw09.BatchHolds", spec := "batchHolds", unfollowed := true, recurses := true, plainKeys := false, apart := false }
def BatchHoldsSaid : Prop := batchHoldsRow.holds Try.pinned (OpenSpec.ofChange batchHoldsSpec)

/-- ITS FALSE NEIGHBOUR: 'it returns false'. Refute it at one input. -/
def batchHoldsWrong : ChangeSpec := { name := "batchHolds", fn := fun _ => fun
  | [d1, d2, d3, d4, d5] => { results := [.lit (.bool false)], args := [d1, d2, d3, d4, d5] }
  | _ => none }
def BatchHoldsWrongFalsely : Prop := batchHoldsRow.holds Try.pinned (OpenSpec.ofChange batchHoldsWrong)

/-- 'musettelaw09.BatchFirst': WHATEVER THE INPUT: true; the input reads as it did. -/
def batchFirstSpec : ChangeSpec := { name := "batchFirst", fn := fun _ => fun
  | [d] => { results := [.lit (.bool true)], args := [d] }
  | _ => none }
def batchFirstRow : OpenClaim := { program := "ytecfpfhkicapeaa", sum := "a2f9f98f0ea223e956c42d18a3670010688425d41deabe17656f7660d68c88f0", func := "musette/musettelaw09.BatchFirst", spec := "batchFirst", unfollowed := true, recurses := true, plainKeys := false, apart := false }
def BatchFirstSaid : Prop := batchFirstRow.holds Try.pinned (OpenSpec.ofChange batchFirstSpec)

/-- ITS FALSE NEIGHBOUR: 'it returns false'. Refute it at one input. -/
def batchFirstWrong : ChangeSpec := { name := "batchFirst", fn := fun _ => fun
  | [d] => { results := [.lit (.bool false)], args := [d] }
  | _ => none }
def BatchFirstWrongFalsely : Prop := batchFirstRow.holds Try.pinned (OpenSpec.ofChange batchFirstWrong)

/-- 'musettelaw09.BatchAmounts': WHATEVER THE INPUT: true; the input reads as it did. -/
def batchAmountsSpec : ChangeSpec := { name := "batchAmounts", fn := fun _ => fun
  | [d] => { results := [.lit (.bool true)], args := [d] }
  | _ => none }
def batchAmountsRow : OpenClaim := { program := "ytecfpfhkicapeaa", sum := "a2f9f98f0ea223e956c42d18a3670010688425d41deabe17656f7660d68c88f0", func := "musette/musettelaw09.BatchAmounts", spec := "batchAmounts", unfollowed := true, recurses := true, plainKeys := false, apart := false }
def BatchAmountsSaid : Prop := batchAmountsRow.holds Try.pinned (OpenSpec.ofChange batchAmountsSpec)

/-- ITS FALSE NEIGHBOUR: 'it returns false'. Refute it at one input. -/
def batchAmountsWrong : ChangeSpec := { name := "batchAmounts", fn := fun _ => fun
  | [d] => { results := [.lit (.bool false)], args := [d] }
  | _ => none }
def BatchAmountsWrongFalsely : Prop := batchAmountsRow.holds Try.pinned (OpenSpec.ofChange batchAmountsWrong)

/-- 'musettelaw09.BatchLeft': WHATEVER THE INPUT: true; the input reads as it did. -/
def batchLeftSpec : ChangeSpec := { name := "batchLeft", fn := fun _ => fun
  | [d1, d2, d3] => { results := [.lit (.bool true)], args := [d1, d2, d3] }
  | _ => none }
def batchLeftRow : OpenClaim := { program := "ytecfpfhkicapeaa", sum := "a2f9f98f0ea223e956c42d18a3670010688425d41deabe17656f7660d68c88f0", func := "musette/musettelaw09.BatchLeft", spec := "batchLeft", unfollowed := true, recurses := true, plainKeys := false, apart := false }
def BatchLeftSaid : Prop := batchLeftRow.holds Try.pinned (OpenSpec.ofChange batchLeftSpec)

/-- ITS FALSE NEIGHBOUR: 'it returns false'. Refute it at one input. -/
def batchLeftWrong : ChangeSpec := { name := "batchLeft", fn := fun _ => fun
  | [d1, d2, d3] => { results := [.lit (.bool false)], args := [d1, d2, d3] }
  | _ => none }
def BatchLeftWrongFalsely : Prop := batchLeftRow.holds Try.pinned (OpenSpec.ofChange batchLeftWrong)

/-- 'musettelaw09.BatchAll': WHATEVER THE INPUT: true; the input reads as it did. -/
def batchAllSpec : ChangeSpec := { name := "batchAll", fn := fun _ => fun
  | [d] => { results := [.lit (.bool true)], args := [d] }
  | _ => none }
def batchAllRow : OpenClaim := { program := "ytecfpfhkicapeaa", sum := "a2f9f98f0ea223e956c42d18a3670010688425d41deabe17656f7660d68c88f0", func := "musette/musettelaw09.BatchAll", spec := "batchAll", unfollowed := true, recurses := true, plainKeys := false, apart := false }
def BatchAllSaid : Prop := batchAllRow.holds Try.pinned (OpenSpec.ofChange batchAllSpec)

/-- ITS FALSE NEIGHBOUR: 'it returns false'. Refute it at one input. -/
def batchAllWrong : ChangeSpec := { name := "batchAll", fn := fun _ => fun
  | [d] => { results := [.lit (.bool false)], args := [d] }
  | _ => none }
def BatchAllWrongFalsely : Prop := batchAllRow.holds Try.pinned (OpenSpec.ofChange batchAllWrong)

/-- 'musettelaw09.BatchRecalls': WHATEVER THE INPUT: true; the input reads as it did. -/
def batchRecallsSpec : ChangeSpec := { name := "batchRecalls", fn := fun _ => fun
  | [d1, d2, d3, d4, d5] => { results := [.lit (.bool true)], args := [d1, d2, d3, d4, d5] }
  | _ => none }
def batchRecallsRow : OpenClaim := { program := "ytecfpfhkicapeaa", sum := "a2f9f98f0ea223e956c42d18a3670010688425d41deabe17656f7660d68c88f0", func := "musette/musettelaw09.BatchRecalls", spec := "batchRecalls", unfollowed := true, recurses := true, plainKeys := false, apart := false }
def BatchRecallsSaid : Prop := batchRecallsRow.holds Try.pinned (OpenSpec.ofChange batchRecallsSpec)

/-- ITS FALSE NEIGHBOUR: 'it returns false'. Refute it at one input. -/
def batchRecallsWrong : ChangeSpec := { name := "batchRecalls", fn := fun _ => fun
  | [d1, d2, d3, d4, d5] => { results := [.lit (.bool false)], args := [d1, d2, d3, d4, d5] }
  | _ => none }
def BatchRecallsWrongFalsely : Prop := batchRecallsRow.holds Try.pinned (OpenSpec.ofChange batchRecallsWrong)

/-- 'musettelaw09.BatchBetter': WHATEVER THE INPUT: true; the input reads as it did. -/
def batchBetterSpec : ChangeSpec := { name := "batchBetter", fn := fun _ => fun
  | [d] => { results := [.lit (.bool true)], args := [d] }
  | _ => none }
def batchBetterRow : OpenClaim := { program := "ytecfpfhkicapeaa", sum := "a2f9f98f0ea223e956c42d18a3670010688425d41deabe17656f7660d68c88f0", func := "musette/musettelaw09.BatchBetter", spec := "batchBetter", unfollowed := true, recurses := true, plainKeys := false, apart := false }
def BatchBetterSaid : Prop := batchBetterRow.holds Try.pinned (OpenSpec.ofChange batchBetterSpec)

/-- ITS FALSE NEIGHBOUR: 'it returns false'. Refute it at one input. -/
def batchBetterWrong : ChangeSpec := { name := "batchBetter", fn := fun _ => fun
  | [d] => { results := [.lit (.bool false)], args := [d] }
  | _ => none }
def BatchBetterWrongFalsely : Prop := batchBetterRow.holds Try.pinned (OpenSpec.ofChange batchBetterWrong)

/-- 'musettelaw09.BatchRecalled': WHATEVER THE INPUT: true; the input reads as it did. -/
def batchRecalledSpec : ChangeSpec := { name := "batchRecalled", fn := fun _ => fun
  | [d] => { results := [.lit (.bool true)], args := [d] }
  | _ => none }
def batchRecalledRow : OpenClaim := { program := "ytecfpfhkicapeaa", sum := "a2f9f98f0ea223e956c42d18a3670010688425d41deabe17656f7660d68c88f0", func := "musette/musettelaw09.BatchRecalled", spec := "batchRecalled", unfollowed := true, recurses := true, plainKeys := false, apart := false }
def BatchRecalledSaid : Prop := batchRecalledRow.holds Try.pinned (OpenSpec.ofChange batchRecalledSpec)

/-- ITS FALSE NEIGHBOUR: 'it returns false'. Refute it at one input. -/
def batchRecalledWrong : ChangeSpec := { name := "batchRecalled", fn := fun _ => fun
  | [d] => { results := [.lit (.bool false)], args := [d] }
  | _ => none }
def BatchRecalledWrongFalsely : Prop := batchRecalledRow.holds Try.pinned (OpenSpec.ofChange batchRecalledWrong)

/-- 'musettelaw09.BatchTrue': WHATEVER THE INPUT: true; the input reads as it did. -/
def batchTrueSpec : ChangeSpec := { name := "batchTrue", fn := fun _ => fun
  | [d] => { results := [.lit (.bool true)], args := [d] }
  | _ => none }
def batchTrueRow : OpenClaim := { program := "ytecfpfhkicapeaa", sum := "a2f9f98f0ea223e956c42d18a3670010688425d41deabe17656f7660d68c88f0", func := "musette/musettelaw09.BatchTrue", spec := "batchTrue", unfollowed := true, recurses := true, plainKeys := false, apart := false }
def BatchTrueSaid : Prop := batchTrueRow.holds Try.pinned (OpenSpec.ofChange batchTrueSpec)

/-- ITS FALSE NEIGHBOUR: 'it returns false'. Refute it at one input. -/
def batchTrueWrong : ChangeSpec := { name := "batchTrue", fn := fun _ => fun
  | [d] => { results := [.lit (.bool false)], args := [d] }
  | _ => none }
def BatchTrueWrongFalsely : Prop := batchTrueRow.holds Try.pinned (OpenSpec.ofChange batchTrueWrong)

/- THE SECOND FORM. 'bulk': how many values and letters a reading holds, each counted each time it is reached (what is shared counts as often as it is met; a slice's spare places count too). A statement '..UptoSaid' is the law's where the arguments, and the package variables that the reading takes, are together of bulk at most 1048576: NARROWER than '..Said'. Prove '..Said' where nothing that the law and all that it calls make is longer than what came in: it says more and counts as full. Else prove '..UptoSaid'. A law counts once. -/
mutual
def uptoBulk {H : Type} : DataW H → Nat
  | .lit (.string bytes) => bytes.length + 1
  | .lit _ => 1
  | .nil => 1
  | .ptr d => uptoBulk d + 1
  | .slice elems spare => uptoBulkAll elems + uptoBulkAll spare + 1
  | .agg parts => uptoBulkAll parts + 1
  | .iface _ d => uptoBulk d + 1
  | .map entries => uptoBulkEntries entries + 1
  | .held _ => 1
def uptoBulkAll {H : Type} : List (DataW H) → Nat
  | [] => 0
  | d :: r => uptoBulk d + uptoBulkAll r
def uptoBulkEntries {H : Type} : List (Lit × DataW H) → Nat
  | [] => 0
  | x :: r => uptoBulkEntry x + uptoBulkEntries r
def uptoBulkEntry {H : Type} : Lit × DataW H → Nat
  | (.string bytes, d) => bytes.length + uptoBulk d + 1
  | (_, d) => uptoBulk d + 1
 end
def uptoSmall : (H : Type) → List (DataW H) → Bool := fun _ ds => decide (uptoBulkAll ds ≤ 1048576)
def OpenSpec.upto (s : _root_.Go.ChangeSpec) : _root_.Go.OpenSpec := { _root_.Go.OpenSpec.ofChange s with cond := some uptoSmall }

/-- 'musettelaw09.BatchWrong', WHERE WHAT IT READS IS OF BULK AT MOST 1048576: true; the input reads as it did. -/
def batchWrongUptoRow : OpenClaim := { program := "ytecfpfhkicapeaa", sum := "a2f9f98f0ea223e956c42d18a3670010688425d41deabe17656f7660d68c88f0", func := "musette/musettelaw09.BatchWrong", spec := "batchWrong", unfollowed := true, recurses := true, plainKeys := false, apart := false, narrowed := true }
def BatchWrongUptoSaid : Prop := batchWrongUptoRow.holds Try.pinned (OpenSpec.upto batchWrongSpec)

/-- 'musettelaw09.BatchRenamed', WHERE WHAT IT READS IS OF BULK AT MOST 1048576: true; the input reads as it did. -/
def batchRenamedUptoRow : OpenClaim := { program := "ytecfpfhkicapeaa", sum := "a2f9f98f0ea223e956c42d18a3670010688425d41deabe17656f7660d68c88f0", func := "musette/musettelaw09.BatchRenamed", spec := "batchRenamed", unfollowed := true, recurses := true, plainKeys := false, apart := false, narrowed := true }
def BatchRenamedUptoSaid : Prop := batchRenamedUptoRow.holds Try.pinned (OpenSpec.upto batchRenamedSpec)

/-- 'musettelaw09.BatchFewest', WHERE WHAT IT READS IS OF BULK AT MOST 1048576: true; the input reads as it did. -/
def batchFewestUptoRow : OpenClaim := { program := "ytecfpfhkicapeaa", sum := "a2f9f98f0ea223e956c42d18a3670010688425d41deabe17656f7660d68c88f0", func := "musette/musettelaw09.BatchFewest", spec := "batchFewest", unfollowed := true, recurses := true, plainKeys := false, apart := false, narrowed := true }
def BatchFewestUptoSaid : Prop := batchFewestUptoRow.holds Try.pinned (OpenSpec.upto batchFewestSpec)

/-- 'musettelaw09.BatchAny', WHERE WHAT IT READS IS OF BULK AT MOST 1048576: true; the input reads as it did. -/
def batchAnyUptoRow : OpenClaim := { program := "ytecfpfhkicapeaa", sum := "a2f9f98f0ea223e956c42d18a3670010688425d41deabe17656f7660d68c88f0", func := "musette/musettelaw09.BatchAny", spec := "batchAny", unfollowed := true, recurses := true, plainKeys := false, apart := false, narrowed := true }
def BatchAnyUptoSaid : Prop := batchAnyUptoRow.holds Try.pinned (OpenSpec.upto batchAnySpec)

/-- 'musettelaw09.BatchHolds', WHERE WHAT IT READS IS OF BULK AT MOST 1048576: true; the input reads as it did. -/
def batchHoldsUptoRow : OpenClaim := { program := "ytecfpfhkicapeaa", sum := "a2f9f98f0ea223e956c42d18a3670010688425d41deabe17656f7660d68c88f0", func := "musette/musettelaw09.BatchHolds", spec := "batchHolds", unfollowed := true, recurses := true, plainKeys := false, apart := false, narrowed := true }
def BatchHoldsUptoSaid : Prop := batchHoldsUptoRow.holds Try.pinned (OpenSpec.upto batchHoldsSpec)

/-- 'musettelaw09.BatchFirst', WHERE WHAT IT READS IS OF BULK AT MOST 1048576: true; the input reads as it did. -/
def batchFirstUptoRow : OpenClaim := { program := "ytecfpfhkicapeaa", sum := "a2f9f98f0ea223e956c42d18a3670010688425d41deabe17656f7660d68c88f0", func := "musette/musettelaw09.BatchFirst", spec := "batchFirst", unfollowed := true, recurses := true, plainKeys := false, apart := false, narrowed := true }
def BatchFirstUptoSaid : Prop := batchFirstUptoRow.holds Try.pinned (OpenSpec.upto batchFirstSpec)

/-- 'musettelaw09.BatchAmounts', WHERE WHAT IT READS IS OF BULK AT MOST 1048576: true; the input reads as it did. -/
def batchAmountsUptoRow : OpenClaim := { program := "ytecfpfhkicapeaa", sum := "a2f9f98f0ea223e956c42d18a3670010688425d41deabe17656f7660d68c88f0", func := "musette/musettelaw09.BatchAmounts", spec := "batchAmounts", unfollowed := true, recurses := true, plainKeys := false, apart := false, narrowed := true }
def BatchAmountsUptoSaid : Prop := batchAmountsUptoRow.holds Try.pinned (OpenSpec.upto batchAmountsSpec)

/-- 'musettelaw09.BatchLeft', WHERE WHAT IT READS IS OF BULK AT MOST 1048576: true; the input reads as it did. -/
def batchLeftUptoRow : OpenClaim := { program := "ytecfpfhkicapeaa", sum := "a2f9f98f0ea223e956c42d18a3670010688425d41deabe17656f7660d68c88f0", func := "musette/musettelaw09.BatchLeft", spec := "batchLeft", unfollowed := true, recurses := true, plainKeys := false, apart := false, narrowed := true }
def BatchLeftUptoSaid : Prop := batchLeftUptoRow.holds Try.pinned (OpenSpec.upto batchLeftSpec)

/-- 'musettelaw09.BatchAll', WHERE WHAT IT READS IS OF BULK AT MOST 1048576: true; the input reads as it did. -/
def batchAllUptoRow : OpenClaim := { program := "ytecfpfhkicapeaa", sum := "a2f9f98f0ea223e956c42d18a3670010688425d41deabe17656f7660d68c88f0", func := "musette/musettelaw09.BatchAll", spec := "batchAll", unfollowed := true, recurses := true, plainKeys := false, apart := false, narrowed := true }
def BatchAllUptoSaid : Prop := batchAllUptoRow.holds Try.pinned (OpenSpec.upto batchAllSpec)

/-- 'musettelaw09.BatchRecalls', WHERE WHAT IT READS IS OF BULK AT MOST 1048576: true; the input reads as it did. -/
def batchRecallsUptoRow : OpenClaim := { program := "ytecfpfhkicapeaa", sum := "a2f9f98f0ea223e956c42d18a3670010688425d41deabe17656f7660d68c88f0", func := "musette/musettelaw09.BatchRecalls", spec := "batchRecalls", unfollowed := true, recurses := true, plainKeys := false, apart := false, narrowed := true }
def BatchRecallsUptoSaid : Prop := batchRecallsUptoRow.holds Try.pinned (OpenSpec.upto batchRecallsSpec)

/-- 'musettelaw09.BatchBetter', WHERE WHAT IT READS IS OF BULK AT MOST 1048576: true; the input reads as it did. -/
def batchBetterUptoRow : OpenClaim := { program := "ytecfpfhkicapeaa", sum := "a2f9f98f0ea223e956c42d18a3670010688425d41deabe17656f7660d68c88f0", func := "musette/musettelaw09.BatchBetter", spec := "batchBetter", unfollowed := true, recurses := true, plainKeys := false, apart := false, narrowed := true }
def BatchBetterUptoSaid : Prop := batchBetterUptoRow.holds Try.pinned (OpenSpec.upto batchBetterSpec)

/-- 'musettelaw09.BatchRecalled', WHERE WHAT IT READS IS OF BULK AT MOST 1048576: true; the input reads as it did. -/
def batchRecalledUptoRow : OpenClaim := { program := "ytecfpfhkicapeaa", sum := "a2f9f98f0ea223e956c42d18a3670010688425d41deabe17656f7660d68c88f0", func := "musette/musettelaw09.BatchRecalled", spec := "batchRecalled", unfollowed := true, recurses := true, plainKeys := false, apart := false, narrowed := true }
def BatchRecalledUptoSaid : Prop := batchRecalledUptoRow.holds Try.pinned (OpenSpec.upto batchRecalledSpec)

/-- 'musettelaw09.BatchTrue', WHERE WHAT IT READS IS OF BULK AT MOST 1048576: true; the input reads as it did. -/
def batchTrueUptoRow : OpenClaim := { program := "ytecfpfhkicapeaa", sum := "a2f9f98f0ea223e956c42d18a3670010688425d41deabe17656f7660d68c88f0", func := "musette/musettelaw09.BatchTrue", spec := "batchTrue", unfollowed := true, recurses := true, plainKeys := false, apart := false, narrowed := true }
def BatchTrueUptoSaid : Prop := batchTrueUptoRow.holds Try.pinned (OpenSpec.upto batchTrueSpec)

end Rows
end Go.Proofs.Ytecfpfhkicapeaa

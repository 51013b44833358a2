/- Part KnownA of the proofs about the benches of the accordion maker: see the last text of the claim for what is proved. -/
import Derived.Test.YtmloogdalecilaaDoorMachE
import Derived.Test.YtmloogdalecilaaDoorBenchD
import Derived.Test.YtmloogdalecilaaDoorMachF
import Derived.Test.YtmloogdalecilaaDoorMachD
import Derived.Test.YtmloogdalecilaaDoorRunsX
import Derived.Test.YtmloogdalecilaaDoorLoadsA
import Derived.Test.YtmloogdalecilaaDoorSlackA
import Derived.Test.YtmloogdalecilaaDoorTrueA
import Derived.Test.YtmloogdalecilaaDoorTabA
import Derived.Test.YtmloogdalecilaaDoorPutA
set_option linter.unusedVariables false
set_option linter.unusedSimpArgs false
set_option linter.unnecessarySimpa false
set_option linter.constructorNameAsVariable false

/-! A66 -/
namespace Go.Abs
open Go

section
variable {P : Program} {T : TT} {r : Option Nat} {m : Nat} {ops : Array Oper} {Q : AX → St → Prop} {s : St}

theorem draw_callFG {A : Ar} (hA : A = ar) {Dk : List Nat → List (Nat × PK) → St → Prop} (hD : Dk = DrawA P T r m ops Q) (kk : List Nat) {i : Nat} {L : List Nat} {pend : List (Nat × PK)} {o oj : Oper} {j t : Nat} (want : Bool)
    (hoi : ops[i]? = some o) (hd : dstOk s.nt o.dst = true) (hlk : looksB ops o pend = true) (hw : writesB ops o (dropP o pend) = true) (hrd : readyB ops i L = true) (hg : o.guard = some (j, want)) (hj : ops[j]? = some oj) (hjd : oj.dst = some t) (hb : getE (s.only (o.looksAt ops)).env t = some (.v (.bool want)))
    (h : ∀ CG, CG = (fun s' => CallG P o (fun d H' ds => AftG P T r m ops Q L (dropP o pend) (s.step o.dst d H' ds)) s') → frzS A kk (s.only (o.looksAt ops)) CG) : Dk (i :: L) pend s := by
  subst hD
  refine drawA_eff hoi hd hlk hw hrd ?_
  have h1 := h _ rfl
  have run : OpA P r o (s.only (o.looksAt ops)) (fun d H' ds => aftA ar T ops (fun p s => DrawA P T r m ops Q L p s) (dropP o pend) (s.step o.dst d H' ds)) (fun d H' => ∀ e, Q (.pan d) { env := e, H := H', nt := s.nt, dfs := s.dfs }) := by
    refine opA_frz hA kk ?_
    subst hA
    have mono : ∀ {K1 K2 : St → Prop}, (∀ s, K1 s → K2 s) → frzS ar kk (s.only (o.looksAt ops)) K1 → frzS ar kk (s.only (o.looksAt ops)) K2 := fun {K1 K2} hk hf => frzS_mono hk hf
    refine mono (fun s' hs' => ?_) h1
    exact (callG_op hs' _).mono (fun d H' ds hk => ⟨hk.pins, hk.go⟩) (fun _ _ hx => hx)
  simp only [guardA, hg, hj, hjd, hb]
  cases want <;> simp only [setE_self hb] <;> exact run
end
end Go.Abs

/-! D78 -/
namespace Go.Proofs.YtmloogdalecilaaDoor
open Go Go.Abs Go.Proofs

/-- A text, by its bytes. -/
def tx (l : List UInt8) : D := .v (.string ⟨⟨l⟩⟩)

set_option maxRecDepth 20000 in
theorem kSmall0 (Q) (hq : Q (RA.ret (tx [48])) []) : CallA Tryd.prog 132 [I 0] [] Q := by
  refine callA_start (A := ar) tokT rfl Tryd.func132 rfl rfl rfl rfl rfl fun S hS => ?_
  cbv
  repeat (refine And.intro (Int.NonNeg.mk _) ?_)
  repeat (refine And.intro rfl ?_)
  exact gh_view [] (by decide) pre0 (H' := []) (d' := tx [48]) trivial rfl (gh_done hq)
set_option maxRecDepth 20000 in
theorem kFmt0 (Q) (hq : Q (RA.ret (tx [48])) []) : CallA Tryd.prog 126 [I 0, I 10] [] Q := by
  refine callA_start (A := ar) tokT rfl Tryd.func126 rfl rfl rfl rfl rfl fun S hS => ?_
  cbv
  refine ops_call hS [I 0] [] [] rfl rfl rfl rfl rfl rfl rfl rfl (by decide) trivial (kSmall0 _ ?_)
  refine ops_go (A := ar) tokT rfl hS ?_
  cbv
  exact gh_view [] (by decide) pre0 (H' := []) (d' := tx [48]) trivial rfl (gh_done hq)
set_option maxRecDepth 20000 in
theorem kItoaI0 (Q) (hq : Q (RA.ret (tx [48])) []) : CallA Tryd.prog 120 [I 0] [] Q := by
  refine callA_start (A := ar) tokT rfl Tryd.func120 rfl rfl rfl rfl rfl fun S hS => ?_
  cbv
  refine ops_call hS [I 0, I 10] [] [] rfl rfl rfl rfl rfl rfl rfl rfl (by decide) trivial (kFmt0 _ ?_)
  refine ops_go (A := ar) tokT rfl hS ?_
  cbv
  exact gh_view [] (by decide) pre0 (H' := []) (d' := tx [48]) trivial rfl (gh_done hq)
set_option maxRecDepth 20000 in
theorem kItoa0 (Q) (hq : Q (RA.ret (tx [48])) []) : CallA Tryd.prog 105 [I 0] [] Q := by
  refine callA_start (A := ar) tokT rfl Tryd.func105 rfl rfl rfl rfl rfl fun S hS => ?_
  cbv
  refine ops_call hS [I 0] [] [] rfl rfl rfl rfl rfl rfl rfl rfl (by decide) trivial (kItoaI0 _ ?_)
  refine ops_go (A := ar) tokT rfl hS ?_
  cbv
  exact gh_view [] (by decide) pre0 (H' := []) (d' := tx [48]) trivial rfl (gh_done hq)

set_option maxRecDepth 20000 in
theorem kSmall1 (Q) (hq : Q (RA.ret (tx [49])) []) : CallA Tryd.prog 132 [I 1] [] Q := by
  refine callA_start (A := ar) tokT rfl Tryd.func132 rfl rfl rfl rfl rfl fun S hS => ?_
  cbv
  repeat (refine And.intro (Int.NonNeg.mk _) ?_)
  repeat (refine And.intro rfl ?_)
  exact gh_view [] (by decide) pre0 (H' := []) (d' := tx [49]) trivial rfl (gh_done hq)
set_option maxRecDepth 20000 in
theorem kFmt1 (Q) (hq : Q (RA.ret (tx [49])) []) : CallA Tryd.prog 126 [I 1, I 10] [] Q := by
  refine callA_start (A := ar) tokT rfl Tryd.func126 rfl rfl rfl rfl rfl fun S hS => ?_
  cbv
  refine ops_call hS [I 1] [] [] rfl rfl rfl rfl rfl rfl rfl rfl (by decide) trivial (kSmall1 _ ?_)
  refine ops_go (A := ar) tokT rfl hS ?_
  cbv
  exact gh_view [] (by decide) pre0 (H' := []) (d' := tx [49]) trivial rfl (gh_done hq)
set_option maxRecDepth 20000 in
theorem kItoaI1 (Q) (hq : Q (RA.ret (tx [49])) []) : CallA Tryd.prog 120 [I 1] [] Q := by
  refine callA_start (A := ar) tokT rfl Tryd.func120 rfl rfl rfl rfl rfl fun S hS => ?_
  cbv
  refine ops_call hS [I 1, I 10] [] [] rfl rfl rfl rfl rfl rfl rfl rfl (by decide) trivial (kFmt1 _ ?_)
  refine ops_go (A := ar) tokT rfl hS ?_
  cbv
  exact gh_view [] (by decide) pre0 (H' := []) (d' := tx [49]) trivial rfl (gh_done hq)
set_option maxRecDepth 20000 in
theorem kItoa1 (Q) (hq : Q (RA.ret (tx [49])) []) : CallA Tryd.prog 105 [I 1] [] Q := by
  refine callA_start (A := ar) tokT rfl Tryd.func105 rfl rfl rfl rfl rfl fun S hS => ?_
  cbv
  refine ops_call hS [I 1] [] [] rfl rfl rfl rfl rfl rfl rfl rfl (by decide) trivial (kItoaI1 _ ?_)
  refine ops_go (A := ar) tokT rfl hS ?_
  cbv
  exact gh_view [] (by decide) pre0 (H' := []) (d' := tx [49]) trivial rfl (gh_done hq)

set_option maxRecDepth 20000 in
theorem kSmall2 (Q) (hq : Q (RA.ret (tx [50])) []) : CallA Tryd.prog 132 [I 2] [] Q := by
  refine callA_start (A := ar) tokT rfl Tryd.func132 rfl rfl rfl rfl rfl fun S hS => ?_
  cbv
  repeat (refine And.intro (Int.NonNeg.mk _) ?_)
  repeat (refine And.intro rfl ?_)
  exact gh_view [] (by decide) pre0 (H' := []) (d' := tx [50]) trivial rfl (gh_done hq)
set_option maxRecDepth 20000 in
theorem kFmt2 (Q) (hq : Q (RA.ret (tx [50])) []) : CallA Tryd.prog 126 [I 2, I 10] [] Q := by
  refine callA_start (A := ar) tokT rfl Tryd.func126 rfl rfl rfl rfl rfl fun S hS => ?_
  cbv
  refine ops_call hS [I 2] [] [] rfl rfl rfl rfl rfl rfl rfl rfl (by decide) trivial (kSmall2 _ ?_)
  refine ops_go (A := ar) tokT rfl hS ?_
  cbv
  exact gh_view [] (by decide) pre0 (H' := []) (d' := tx [50]) trivial rfl (gh_done hq)
set_option maxRecDepth 20000 in
theorem kItoaI2 (Q) (hq : Q (RA.ret (tx [50])) []) : CallA Tryd.prog 120 [I 2] [] Q := by
  refine callA_start (A := ar) tokT rfl Tryd.func120 rfl rfl rfl rfl rfl fun S hS => ?_
  cbv
  refine ops_call hS [I 2, I 10] [] [] rfl rfl rfl rfl rfl rfl rfl rfl (by decide) trivial (kFmt2 _ ?_)
  refine ops_go (A := ar) tokT rfl hS ?_
  cbv
  exact gh_view [] (by decide) pre0 (H' := []) (d' := tx [50]) trivial rfl (gh_done hq)
set_option maxRecDepth 20000 in
theorem kItoa2 (Q) (hq : Q (RA.ret (tx [50])) []) : CallA Tryd.prog 105 [I 2] [] Q := by
  refine callA_start (A := ar) tokT rfl Tryd.func105 rfl rfl rfl rfl rfl fun S hS => ?_
  cbv
  refine ops_call hS [I 2] [] [] rfl rfl rfl rfl rfl rfl rfl rfl (by decide) trivial (kItoaI2 _ ?_)
  refine ops_go (A := ar) tokT rfl hS ?_
  cbv
  exact gh_view [] (by decide) pre0 (H' := []) (d' := tx [50]) trivial rfl (gh_done hq)

set_option maxRecDepth 20000 in
theorem kSmall3 (Q) (hq : Q (RA.ret (tx [51])) []) : CallA Tryd.prog 132 [I 3] [] Q := by
  refine callA_start (A := ar) tokT rfl Tryd.func132 rfl rfl rfl rfl rfl fun S hS => ?_
  cbv
  repeat (refine And.intro (Int.NonNeg.mk _) ?_)
  repeat (refine And.intro rfl ?_)
  exact gh_view [] (by decide) pre0 (H' := []) (d' := tx [51]) trivial rfl (gh_done hq)
set_option maxRecDepth 20000 in
theorem kFmt3 (Q) (hq : Q (RA.ret (tx [51])) []) : CallA Tryd.prog 126 [I 3, I 10] [] Q := by
  refine callA_start (A := ar) tokT rfl Tryd.func126 rfl rfl rfl rfl rfl fun S hS => ?_
  cbv
  refine ops_call hS [I 3] [] [] rfl rfl rfl rfl rfl rfl rfl rfl (by decide) trivial (kSmall3 _ ?_)
  refine ops_go (A := ar) tokT rfl hS ?_
  cbv
  exact gh_view [] (by decide) pre0 (H' := []) (d' := tx [51]) trivial rfl (gh_done hq)
set_option maxRecDepth 20000 in
theorem kItoaI3 (Q) (hq : Q (RA.ret (tx [51])) []) : CallA Tryd.prog 120 [I 3] [] Q := by
  refine callA_start (A := ar) tokT rfl Tryd.func120 rfl rfl rfl rfl rfl fun S hS => ?_
  cbv
  refine ops_call hS [I 3, I 10] [] [] rfl rfl rfl rfl rfl rfl rfl rfl (by decide) trivial (kFmt3 _ ?_)
  refine ops_go (A := ar) tokT rfl hS ?_
  cbv
  exact gh_view [] (by decide) pre0 (H' := []) (d' := tx [51]) trivial rfl (gh_done hq)
set_option maxRecDepth 20000 in
theorem kItoa3 (Q) (hq : Q (RA.ret (tx [51])) []) : CallA Tryd.prog 105 [I 3] [] Q := by
  refine callA_start (A := ar) tokT rfl Tryd.func105 rfl rfl rfl rfl rfl fun S hS => ?_
  cbv
  refine ops_call hS [I 3] [] [] rfl rfl rfl rfl rfl rfl rfl rfl (by decide) trivial (kItoaI3 _ ?_)
  refine ops_go (A := ar) tokT rfl hS ?_
  cbv
  exact gh_view [] (by decide) pre0 (H' := []) (d' := tx [51]) trivial rfl (gh_done hq)

set_option maxRecDepth 20000 in
theorem kSmall20 (Q) (hq : Q (RA.ret (tx [50, 48])) []) : CallA Tryd.prog 132 [I 20] [] Q := by
  refine callA_start (A := ar) tokT rfl Tryd.func132 rfl rfl rfl rfl rfl fun S hS => ?_
  cbv
  repeat (refine And.intro (Int.NonNeg.mk _) ?_)
  repeat (refine And.intro rfl ?_)
  exact gh_view [] (by decide) pre0 (H' := []) (d' := tx [50, 48]) trivial rfl (gh_done hq)
set_option maxRecDepth 20000 in
theorem kFmt20 (Q) (hq : Q (RA.ret (tx [50, 48])) []) : CallA Tryd.prog 126 [I 20, I 10] [] Q := by
  refine callA_start (A := ar) tokT rfl Tryd.func126 rfl rfl rfl rfl rfl fun S hS => ?_
  cbv
  refine ops_call hS [I 20] [] [] rfl rfl rfl rfl rfl rfl rfl rfl (by decide) trivial (kSmall20 _ ?_)
  refine ops_go (A := ar) tokT rfl hS ?_
  cbv
  exact gh_view [] (by decide) pre0 (H' := []) (d' := tx [50, 48]) trivial rfl (gh_done hq)
set_option maxRecDepth 20000 in
theorem kItoaI20 (Q) (hq : Q (RA.ret (tx [50, 48])) []) : CallA Tryd.prog 120 [I 20] [] Q := by
  refine callA_start (A := ar) tokT rfl Tryd.func120 rfl rfl rfl rfl rfl fun S hS => ?_
  cbv
  refine ops_call hS [I 20, I 10] [] [] rfl rfl rfl rfl rfl rfl rfl rfl (by decide) trivial (kFmt20 _ ?_)
  refine ops_go (A := ar) tokT rfl hS ?_
  cbv
  exact gh_view [] (by decide) pre0 (H' := []) (d' := tx [50, 48]) trivial rfl (gh_done hq)
set_option maxRecDepth 20000 in
theorem kItoa20 (Q) (hq : Q (RA.ret (tx [50, 48])) []) : CallA Tryd.prog 105 [I 20] [] Q := by
  refine callA_start (A := ar) tokT rfl Tryd.func105 rfl rfl rfl rfl rfl fun S hS => ?_
  cbv
  refine ops_call hS [I 20] [] [] rfl rfl rfl rfl rfl rfl rfl rfl (by decide) trivial (kItoaI20 _ ?_)
  refine ops_go (A := ar) tokT rfl hS ?_
  cbv
  exact gh_view [] (by decide) pre0 (H' := []) (d' := tx [50, 48]) trivial rfl (gh_done hq)
end Go.Proofs.YtmloogdalecilaaDoor

/-! D79 -/
namespace Go.Proofs.YtmloogdalecilaaDoor
open Go Go.Abs Go.Proofs

def lnT : List UInt8 := [98, 101, 110, 99, 104, 101, 115, 32, 50, 10, 111, 114, 100, 101, 114, 32, 48, 32, 50, 48, 32, 49, 58, 49, 45, 51, 10, 99, 108, 111, 115, 101, 100, 10]
def exL : Sh := ⟨2, [⟨0, 20, [⟨1, 1, 3⟩]⟩]⟩
theorem exLOk : ShopOk exL := ⟨by decide, by decide, ⟨by decide, by decide⟩⟩

set_option maxRecDepth 20000 in
set_option maxHeartbeats 4000000 in
theorem kWriteL (Q) (hq : Q (RA.ret (.tup [tx lnT, I 0])) []) : CallA Tryd.prog 70 [shopD exL] [] Q := by
  refine callA_start (A := ar) tokT rfl Tryd.func70 rfl rfl rfl rfl rfl fun S hS => ?_
  cbv
  refine ops_call hS [.agg [I 2, .sl 3 (exL.tasks.map taskD)]] [] [] rfl rfl rfl rfl rfl rfl rfl rfl (by decide) trivial (bCheck exL exLOk.fin _ rfl 0 exLOk.chk.symm _ ?_)
  refine ops_go (A := ar) tokT rfl hS ?_
  cbv
  refine ops_call hS [I 2] [] [] rfl rfl rfl rfl rfl rfl rfl rfl (by decide) trivial (kItoa2 _ ?_)
  refine ops_go (A := ar) tokT rfl hS ?_
  cbv
  refine loop_rounds hS 2 fun Rn hR => ?_
  refine rn_go (A := ar) tokT rfl hS hR ?_
  cbv
  repeat (first | (refine ⟨Int.NonNeg.mk _, ?_⟩) | (refine Need.mk ⟨_, rfl, ?_⟩; cbv))
  refine draw_go (A := ar) tokT rfl hS [0, 1, 2, 6, 7, 3, 4, 5, 8, 9, 10, 11] rfl rfl fun Dk hD => ?_
  cbv
  refine draw_call (A := ar) rfl hD [I 0] [] [] rfl rfl rfl rfl rfl rfl rfl rfl rfl rfl rfl (by decide) trivial (kItoa0 _ ⟨by cbv, draw_on (A := ar) tokT rfl hD ?_⟩)
  cbv
  refine draw_call (A := ar) rfl hD [I 20] [] [] rfl rfl rfl rfl rfl rfl rfl rfl rfl rfl rfl (by decide) trivial (kItoa20 _ ⟨by cbv, draw_on (A := ar) tokT rfl hD ?_⟩)
  cbv
  repeat (first | (refine ⟨Int.NonNeg.mk _, ?_⟩) | (refine Need.mk ⟨_, rfl, ?_⟩; cbv))
  refine loop_rounds hS 2 fun Rn2 hR2 => ?_
  refine rn_go (A := ar) tokT rfl hS hR2 ?_
  cbv
  repeat (first | (refine ⟨Int.NonNeg.mk _, ?_⟩) | (refine Need.mk ⟨_, rfl, ?_⟩; cbv))
  refine draw_go (A := ar) tokT rfl hS [0, 1, 2, 6, 7, 8, 12, 13, 14, 3, 4, 5, 9, 10, 11, 15, 16, 17, 18] rfl rfl fun Dk hD => ?_
  cbv
  refine draw_call (A := ar) rfl hD [I 1] [] [] rfl rfl rfl rfl rfl rfl rfl rfl rfl rfl rfl (by decide) trivial (kItoa1 _ ⟨by cbv, draw_on (A := ar) tokT rfl hD ?_⟩)
  cbv
  refine draw_call (A := ar) rfl hD [I 1] [] [] rfl rfl rfl rfl rfl rfl rfl rfl rfl rfl rfl (by decide) trivial (kItoa1 _ ⟨by cbv, draw_on (A := ar) tokT rfl hD ?_⟩)
  cbv
  refine draw_call (A := ar) rfl hD [I 3] [] [] rfl rfl rfl rfl rfl rfl rfl rfl rfl rfl rfl (by decide) trivial (kItoa3 _ ⟨by cbv, draw_on (A := ar) tokT rfl hD ?_⟩)
  cbv
  repeat (first | (refine ⟨Int.NonNeg.mk _, ?_⟩) | (refine Need.mk ⟨_, rfl, ?_⟩; cbv))
  refine rn_go (A := ar) tokT rfl hS hR2 ?_
  cbv
  repeat (first | (refine ⟨Int.NonNeg.mk _, ?_⟩) | (refine Need.mk ⟨_, rfl, ?_⟩; cbv))
  refine rn_go (A := ar) tokT rfl hS hR ?_
  cbv
  repeat (first | (refine ⟨Int.NonNeg.mk _, ?_⟩) | (refine Need.mk ⟨_, rfl, ?_⟩; cbv))
  exact gh_view [] (by decide) pre0 (H' := []) (d' := .tup [tx lnT, I 0]) trivial rfl (gh_done hq)
end Go.Proofs.YtmloogdalecilaaDoor

/-! D80 -/
namespace Go.Proofs.YtmloogdalecilaaDoor
open Go Go.Abs Go.Proofs

def wD (b lo hi : Int) : D := .agg [I b, I lo, I hi]
def exR0 : List D := [wD 0 2 3, wD 1 4 4]
def exR1 : List D := [wD 1 2 2, wD 0 3 5]
def exR2 : List D := [wD 1 1 3]
def exE (x0 x1 x2 : Value) : List D := [.agg [I 0, I 8, .v x0], .agg [I 1, I 6, .v x1], .agg [I 0, I 20, .v x2]]
def exN (x0 x1 x2 : Value) : List Ent := [(x0, some exR0), (x1, some exR1), (x2, some exR2)]

set_option maxRecDepth 20000 in
theorem kShopG (Q) (hq : ∀ x0 x1 x2, Q (RA.ret (.agg [I 2, .o 0 3 3])) [.els 3 (exE x0 x1 x2), .ob (.gr 3 (exN x0 x1 x2))]) : CallA Tryd.prog 67 [] [] Q := by
  refine callA_start (A := ar) tokT rfl Tryd.func67 rfl rfl rfl rfl rfl fun S hS => ?_
  cbv
  refine ops_call hS [I 0, I 2, I 3] [] [] rfl rfl rfl rfl rfl rfl rfl rfl (by decide) trivial (workF _ _ _ _ ?_)
  refine ops_go (A := ar) tokT rfl hS ?_
  cbv
  refine ops_call hS [I 1, I 4, I 4] [] [] rfl rfl rfl rfl rfl rfl rfl rfl (by decide) trivial (workF _ _ _ _ ?_)
  refine ops_part (A := ar) tokT rfl hS [2] [3, 4, 5, 6, 7, 8, 9, 10, 11, 12, 13] ?_
  cbv
  refine ops_gs hS (gs_grNewN 3 [] (fun j e row h => by simp at h) ?_)
  refine gs_grPutS 2 1 0 3 (row := exR0) rfl rfl rfl rfl (Nat.le_refl _) (fun e row h => by simp at h) (by decide) fun x0 h0 => ?_
  refine gs_done (at_ops hS (ops_go (A := ar) tokT rfl hS ?_))
  cbv
  refine ops_call hS [I 1, I 2, I 2] [] [] rfl rfl rfl rfl rfl rfl rfl rfl (by decide) trivial (workF _ _ _ _ ?_)
  refine ops_go (A := ar) tokT rfl hS ?_
  cbv
  refine ops_call hS [I 0, I 3, I 5] [] [] rfl rfl rfl rfl rfl rfl rfl rfl (by decide) trivial (workF _ _ _ _ ?_)
  refine ops_part (A := ar) tokT rfl hS [6] [7, 8, 9, 10, 11, 12, 13] ?_
  cbv
  refine ops_gs hS (gs_grPutS 2 3 1 7 (row := exR1) rfl rfl rfl rfl (Nat.le_refl _) (fun e row h => by simp at h) (by decide) fun x1 h1 => ?_)
  refine gs_done (at_ops hS (ops_go (A := ar) tokT rfl hS ?_))
  cbv
  refine ops_call hS [I 1, I 1, I 3] [] [] rfl rfl rfl rfl rfl rfl rfl rfl (by decide) trivial (workF _ _ _ _ ?_)
  refine ops_part (A := ar) tokT rfl hS [9] [10, 11, 12, 13] ?_
  cbv
  refine ops_gs hS (gs_grPutS 2 4 2 10 (row := exR2) rfl rfl rfl rfl (Nat.le_refl _) (fun e row h => by simp at h) (by decide) fun x2 h2 => ?_)
  refine gs_done (at_ops hS (ops_go (A := ar) tokT rfl hS ?_))
  cbv
  exact gh_view [5, 2] (by decide) pre0 (H' := [.els 3 (exE x0 x1 x2), .ob (.gr 3 (exN x0 x1 x2))]) (d' := .agg [I 2, .o 0 3 3]) ⟨rfl, rfl, trivial⟩ rfl (gh_done (hq x0 x1 x2))
end Go.Proofs.YtmloogdalecilaaDoor

/-! D81a -/
namespace Go.Proofs.YtmloogdalecilaaDoor
open Go Go.Abs Go.Proofs

def exPl : List Int := [0, 1, 1, 2, 0]
def exRun : List Sl := [⟨0, 0, 0, 0, 0, 2, 3⟩, ⟨1, 0, 1, 1, 1, 3, 3⟩, ⟨1, 1, 0, 3, 3, 6, 8⟩, ⟨2, 0, 1, 3, 3, 4, 6⟩, ⟨0, 1, 1, 4, 6, 8, 10⟩]
theorem exLoadN : ldD exS.benches.toNat (preW exS exS.tasks.length 0) = [rngD (5, 8), rngD (7, 9)] := by
  have h : ((List.range exS.benches.toNat).map fun b => (ldS false (preW exS exS.tasks.length 0) b, ldS true (preW exS exS.tasks.length 0) b)) = [(5, 8), (7, 9)] := by decide +kernel
  have h2 := congrArg (List.map rngD) h
  rw [List.map_map] at h2
  exact h2
theorem exRunN : runS exS (fun _ => 0) exP = exRun := by decide +kernel
theorem exLastN : lastS (runS exS (fun _ => 0) exP) = (8, 10) := by decide +kernel
theorem exLateN : lateS exS exP = [3, 3, 2] := by decide +kernel
theorem exCritN : critL exS exP exP.length = [1, 3, 4] := by decide +kernel
theorem exPromptS : promptS exS = (true, [0, 0, 1, 1, 2], 1) := by decide +kernel
theorem exClash1 : clashN exS [[0, 3], [1, 3], [7]] = (0, 0, 11) := by decide +kernel
theorem exClash2 : clashN exS [[0, 3], [0, 3], [7]] = (1, 0, 0) := by decide +kernel
theorem exRunF : 7 = chkSP exS [0, 1, 1, 2] := by decide +kernel
theorem exRunM : 6 = chkSP exS [0, 1, 1, 2, 0, 0] := by decide +kernel
theorem exRunU : 3 = chkSP exS [0, 1, 1, 3] := by decide +kernel
def exTwo : Sh := ⟨2, exS.tasks.take 2⟩
def exT2 : Tk := ⟨0, 20, [⟨1, 1, 3⟩]⟩
theorem exPutN : leastS (worst (addT exTwo exT2)) (plansK exTwo.tasks.length [0, 1, 1, 0] (addT exTwo exT2)) = (true, [0, 1, 1, 0, 2], 10) := by decide +kernel
theorem exPutE : chkSP exTwo [0, 1, 1, 0] = 0 ∧ chkS (addT exTwo exT2) = 0 := by decide +kernel
theorem ex_nat {p : List Nat} (h : ([0, 1, 1, 0] : List Int) = p.map fun i : Nat => (i : Int)) : p = [0, 1, 1, 0] := by
  have h2 := congrArg (List.map Int.toNat) h
  rw [List.map_map] at h2
  have h3 : p.map (Int.toNat ∘ fun i : Nat => (i : Int)) = p.map id := List.map_congr_left fun i _ => Int.toNat_natCast i
  rw [h3, List.map_id] at h2
  exact h2.symm
end Go.Proofs.YtmloogdalecilaaDoor

/- Part MachF of the proofs about the benches of the accordion maker: see the last text of the claim for what is proved. -/
import Derived.Test.YtecfpfhkicapeaaMachE
set_option linter.unusedVariables false
set_option linter.unusedSimpArgs false
set_option linter.unnecessarySimpa false
set_option linter.constructorNameAsVariable false

namespace Go.Abs
open Go
section
variable {P : Program} {T : TT} {r : Option Nat} {m : Nat} {ops : Array Oper} {Q : AX → St → Prop} {s : St}
theorem draw_allocF (hT : TOK P T) {A : Ar} (hA : A = ar) {Dk : List Nat → List (Nat × PK) → St → Prop} (hD : Dk = DrawA P T r m ops Q) (kk : List Nat) {i : Nat} {L : List Nat} {pend : List (Nat × PK)} {o : Oper}
    (hoi : ops[i]? = some o) (hd : dstOk s.nt o.dst = true) (hlk : looksB ops o pend = true) (hw : writesB ops o (dropP o pend) = true) (hrd : readyB ops i L = true) (hg : o.guard = none)
    (h : ∀ KG : List (Nat × PK) → St → Prop, KG = AftG P T r m ops Q L → frzS A kk (s.only (o.looksAt ops)) (fun s' => alcA A T s' (fun x mk => KG (dropP o pend) (s.step o.dst (mk s'.H.length) (s'.H ++ [x]) s'.dfs)) o.op)) : Dk (i :: L) pend s := by
  subst hD
  refine drawA_eff hoi hd hlk hw hrd ?_
  simp only [guardA, hg]
  refine opA_frz hA kk ?_
  have h1 := h _ rfl
  subst hA
  have mono : ∀ {K1 K2 : St → Prop}, (∀ s, K1 s → K2 s) → frzS ar kk (s.only (o.looksAt ops)) K1 → frzS ar kk (s.only (o.looksAt ops)) K2 := fun {K1 K2} hk hf => frzS_mono hk hf
  refine mono (fun s' hs' => ?_) h1
  exact (opA_alc (P := P) (r := r) (o := o) (s := s') (K := fun d H' ds => AftG P T r m ops Q L (dropP o pend) (s.step o.dst d H' ds)) (X := fun _ _ => False) hT hs').mono (fun d H' ds hk => ⟨hk.pins, hk.go⟩) (fun _ _ hx => hx.elim)
end
end Go.Abs

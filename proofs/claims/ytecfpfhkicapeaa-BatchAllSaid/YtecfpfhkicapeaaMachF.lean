/- Part MachF of the proofs about the benches of the accordion maker: see the last text of the claim for what is proved. -/
import Derived.Test.YtecfpfhkicapeaaMachE
set_option linter.unusedVariables false
set_option linter.unusedSimpArgs false
set_option linter.unnecessarySimpa false
set_option linter.constructorNameAsVariable false

namespace Go.Abs
open Go
section
variable {P : Program} {T : TT} {r : Option Nat} {m : Nat} {ops : Array Oper} {Q : AX -> St -> Prop} {s : St}
theorem Z13j (hT : TOK P T) {A : Ar} (hA : A = ar) {Dk : List Nat -> List (Nat × PK) -> St -> Prop} (hD : Dk = DrawA P T r m ops Q) (kk : List Nat) {i : Nat} {L : List Nat} {pend : List (Nat × PK)} {o : Oper}
  (hoi : ops[i]? = some o) (hd : Z36 s.nt o.dst = true) (hlk : Z4s ops o pend = true) (hw : Z2l ops o (Z1j o pend) = true) (hrd : Z8n ops i L = true) (hg : o.guard = none)
  (h : ∀ KG : List (Nat × PK) -> St -> Prop, KG = AftG P T r m ops Q L -> Zij A kk (s.only (o.looksAt ops)) (fun s' => Z5g A T s' (fun x mk => KG (Z1j o pend) (s.step o.dst (mk s'.H.length) (s'.H ++ [x]) s'.dfs)) o.op)) : Dk (i :: L) pend s := by
 subst hD;refine Z5p hoi hd hlk hw hrd ?_;simp only [Zh, hg];refine Zup hA kk ?_;have h1 := h _ rfl;subst hA;have mono : ∀ {K1 K2 : St -> Prop}, (∀ s, K1 s -> K2 s) -> Zij ar kk (s.only (o.looksAt ops)) K1 -> Zij ar kk (s.only (o.looksAt ops)) K2 := fun {K1 K2} hk hf => Zpq hk hf;refine mono (fun s' hs' => ?_) h1;exact (Znv (P := P) (r := r) (o := o) (s := s') (K := fun d H' ds => AftG P T r m ops Q L (Z1j o pend) (s.step o.dst d H' ds)) (X := fun _ _ => False) hT hs').mono (fun d H' ds hk => ⟨hk.pins, hk.go⟩) (fun _ _ hx => hx.elim)
end
end Go.Abs

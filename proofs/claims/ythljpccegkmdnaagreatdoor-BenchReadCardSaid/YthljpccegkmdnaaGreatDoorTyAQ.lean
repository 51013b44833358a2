/- Part TyAQ of the proofs about the benches of the accordion maker: see the last text of the claim for what is proved. -/
import Derived.Test.YthljpccegkmdnaaGreatDoorTyAP
set_option linter.unusedVariables false
set_option linter.unusedSimpArgs false
set_option linter.unnecessarySimpa false
set_option linter.constructorNameAsVariable false

namespace Go.Abs
open Go
section
variable {P : Program} {T : TT} {r : Option Nat} {m : Nat} {Q : AX -> St -> Prop}
theorem Z5q (hT : TOK P T) {ops : Array Oper} {K : List Nat -> St -> Prop} {l2 : List Nat} (hK : ∀ l s, K l s -> OpsA P r m ops Q (l ++ l2) s) : ∀ (l : List Nat) (s : St), Z4h ar T ops K l s -> OpsA P r m ops Q (l ++ l2) s
 | [], s, h => hK _ _ h
 | i :: l, s, h => by
  simp only [Z4h] at h
  split at h
  ·exact h.elim
  ·rename_i o ho
   split at h
   ·rename_i hd
    refine Z3k ho hd (Z53 h (fun e hk => ?_) (fun e hk => Z5q hT hK l _ hk));have := Zeg (P := P) (r := r) (o := o) (s := { s with env := e }) (K := fun d H' ds => Z4h ar T ops K l (St.step { s with env := e } o.dst d H' ds)) (X := fun _ _ => False) hT hk;exact this.mono (fun d H ds hk => Z5q hT hK l _ hk) (fun _ _ h => h.elim)
   ·rename_i hd
    refine Z3k ho hd (Z53 h (fun e hk => ?_) (fun e hk => Z5q hT hK l _ hk));have := Znv (P := P) (r := r) (o := o) (s := { s with env := e }) (K := fun d H' ds => Z4h ar T ops K l (St.step { s with env := e } o.dst d H' ds)) (X := fun _ _ => False) hT hk;exact this.mono (fun d H ds hk => Z5q hT hK l _ hk) (fun _ _ h => h.elim)
   ·rename_i hd
    refine Z3k ho hd (Z53 h (fun e hk => ?_) (fun e hk => Z5q hT hK l _ hk));have := Zgs (P := P) (r := r) (o := o) (s := { s with env := e }) (K := fun d H' ds => Z4h ar T ops K l (St.step { s with env := e } o.dst d H' ds)) (X := fun _ _ => False) hT hk;exact this.mono (fun d H ds hk => Z5q hT hK l _ hk) (fun _ _ h => h.elim)
   ·exact hK _ _ h
theorem Zke (hT : TOK P T) {A : Ar} (hA : A = ar) {S : Stop} (hS : S = Zo P r m) {ops : Array Oper} {s : St} (l1 l2 : List Nat)
  (h : Z4h A T ops (fun l s => match l with | [] => S.ops ops Q l2 s | i :: l => S.ops ops Q (i :: l ++ l2) s) l1 s) : OpsA P r m ops Q (l1 ++ l2) s := by
 subst hA; subst hS;refine Z5q hT (fun l s hk => ?_) l1 s h
 cases l with
 | nil => exact hk
 | cons i l => exact hk
end
end Go.Abs

namespace Go.Abs
open Go
def vcF (A : Ar) (T : TT) (S : Stop) (sp : List Nat) : Code -> (AX -> St -> Prop) -> St -> Prop
 | .seq x y, Q, s => vcF A T S sp x (Zb1 (vcF A T S sp y Q) Q) s
 | .skip, Q, s => Q .normal s
 | .label _, Q, s => Q .normal s
 | .ret, Q, s => Q .ret s
 | .exit id, Q, s => Q (.exit id) s
 | .block id c, Q, s => vcF A T S sp c (Zi3 id Q) s
 | .region id ops false, Q, s => match Z7a sp id with
  | true => S.code (.region id ops false) Q s
  | false => Z4h A T ops (fun l s => match l with | [] => Q .normal s | i :: l => S.ops ops Q (i :: l) s) (List.range ops.size) s
 | .cond c x y, Q, s => Zfc s c (vcF A T S sp x Q) (vcF A T S sp y Q)
 | c, Q, s => S.code c Q s
section
variable {P : Program} {T : TT} {r : Option Nat} {m : Nat} {Q : AX -> St -> Prop}
theorem Z5r (hT : TOK P T) {sp : List Nat} : ∀ (c : Code) (Q : AX -> St -> Prop) (s : St), vcF ar T (Zo P r m) sp c Q s -> WpA P r m c Q s
 | .seq x y, Q, s, h => by
  simp only [vcF] at h;refine Znq (Z94 (Z5r hT x _ s h) fun a s hq => ?_)
  cases a <;> first | exact Z5r hT y Q _ hq | exact hq
 | .skip, Q, s, h => Zje (by simpa only [vcF] using h)
 | .label l, Q, s, h => Zgi (by simpa only [vcF] using h)
 | .ret, Q, s, h => Znr (by simpa only [vcF] using h)
 | .exit id, Q, s, h => Zjf (by simpa only [vcF] using h)
 | .block id c, Q, s, h => Zgj (Z5r hT c _ s (by simpa only [vcF] using h))
 | .region id ops false, Q, s, h => by
  simp only [vcF] at h
  split at h
  ·simpa only [Zo] using h
  refine Zbh (Z3v hT (fun l s hk => ?_) _ _ h)
  cases l with
  | nil => exact Zf6 hk
  | cons i l => exact hk
 | .region id ops true, Q, s, h => by simpa only [vcF, Zo] using h
 | .cond c x y, Q, s, h => by
  simp only [vcF] at h;exact Zdw (Zfd h (fun s h => Z5r hT x Q s h) (fun s h => Z5r hT y Q s h))
 | .loop c, Q, s, h => by simpa only [vcF, Zo] using h
 | .scope c, Q, s, h => by simpa only [vcF, Zo] using h
 | .goto l, Q, s, h => by simpa only [vcF, Zo] using h
 | .refuse w, Q, s, h => by simpa only [vcF, Zo] using h
 | .rangeFunc a b c d, Q, s, h => by simpa only [vcF, Zo] using h
theorem Z38 (hT : TOK P T) {A : Ar} (hA : A = ar) (sp : List Nat) {f : FuncId} {fn : Func} {c : Code} (hf : P.funcs[f]? = some fn) (hb : fn.body = some c) (hnm : (fn.name == "runtime.NumGoroutine") = false) {as : List D} {H : List Blk} {Q : RA -> List Blk -> Prop} (hnt : Nat.ble as.length fn.ntmps = true) {rs : List ResultVar} (hrs : fn.results.toList = rs) {nt : Nat} (hnt2 : fn.ntmps = nt)
  (h : ∀ S, S = Zo P none H.length -> vcF A T S sp c (Znx A T rs (ghQ H.length Q)) { env := Zd6 0 as, H := H, nt := nt, dfs := [] }) : CallA P f as H Q := by
 subst hA; subst hrs; subst hnt2;exact Zcb (Zfb hT hf hb hnm hnt (Z5r hT c _ _ (h _ rfl)))
theorem Z2w (hT : TOK P T) {A : Ar} (hA : A = ar) {S : Stop} (hS : S = Zo P r m) (sp : List Nat) {c : Code} {s : St} (h : vcF A T S sp c Q s) : WpA P r m c Q s := by
 subst hA; subst hS; exact Z5r hT c _ _ h
end
end Go.Abs

namespace Go.Abs
open Go
end Go.Abs

namespace Go.Abs
open Go
section
variable {P : Program} {T : TT} {r : Option Nat} {m : Nat} {Q : AX -> St -> Prop} {F : Fz} {μ : Mu} {w : World} {K : St -> Prop} {s : St}
structure FzP (k2 isz : Nat) (row : List D) (d d' : D) : Prop where
 len : d'.cells.length = d.cells.length
 cel : ∀ (r : Nat) (c' : D), d'.cells[r]? = some c' -> d.cells[r]? = some c' ∨ (d.cells[r]? = some (.o k2 isz row.length) /\ c' = .sl isz row)
theorem FzP.same {k2 isz : Nat} {row : List D} (d : D) : FzP k2 isz row d d := ⟨rfl, fun _ _ h => .inl h⟩
end
end Go.Abs

namespace Go.Abs
open Go
section
variable {P : Program} {T : TT} {r : Option Nat} {m : Nat} {Q : AX -> St -> Prop} {F : Fz} {μ : Mu} {w : World} {K : St -> Prop} {s : St}
def Nm (s : St) (k : Nat) : Prop := (∃ t sz n, Z1c s.env t = some (.o k sz n)) ∨ ∃ (t kb off : Nat) (d : D) (r sz n : Nat), Z1c s.env t = some (.b kb off) /\ Z1m s.H kb = some (.box d) /\ d.cells[r]? = some (.o k sz n)
theorem Zoe {k sz n : Nat} {v : Value} (h : VR F μ (.o k sz n) v) : μ k ≠ none := by
 cases h with
 | cl _ _ hc => cases hc
 | o _ _ _ b m cap h1 h2 h3 => rw [h1]; simp
 | oNil _ _ a h1 => rw [h1]; simp
theorem Nm.ne {k : Nat} {a : Act} (h : Nm s k) (hr : RL m F μ s a w) : μ k ≠ none := by
 rcases h with ⟨t, sz, n, h1⟩ | ⟨t, kb, off, d, r, sz, n, h1, h2, h3⟩
 ·obtain ⟨v, -, hv⟩ := hr.er.env t _ h1;exact Zoe hv
 ·obtain ⟨v, -, hv⟩ := hr.er.env t _ h1
  cases hv with
  | cl _ _ hc => cases hc
  | b _ _ b m hμ =>
   obtain ⟨v, -, -, h4⟩ := hr.hr.cells (Z7c h2) hμ 0 d rfl r _ h3;exact Zoe h4
end
end Go.Abs

namespace Go.Abs
open Go
section
variable {P : Program} {T : TT} {r : Option Nat} {m : Nat} {Q : AX -> St -> Prop}
end
end Go.Abs

namespace Go.Abs
open Go
section
variable {P : Program} {T : TT} {r : Option Nat} {m : Nat} {F : Fz} {μ : Mu} {w : World} {H : List Blk} {d : D} {K : D -> List Blk -> Prop}
end
end Go.Abs

/- Part TxAO of the proofs about the benches of the accordion maker: see the last text of the claim for what is proved. -/
import Derived.Test.YthljpccegkmdnaaGreatDoorTxAN
set_option linter.unusedVariables false
set_option linter.unusedSimpArgs false
set_option linter.unnecessarySimpa false
set_option linter.constructorNameAsVariable false

namespace Go.Abs
open Go
section
variable {P : Program} {T : TT}
theorem Zmu {F : Fence} {n : Nat} {ops : Array Oper} {Q : Exit -> Act -> List Frame -> World -> Prop} {i : Nat} {rest : List Nat} {a : Act} {cs cs' : List Frame} {w w' : World} {o : Oper} {y : Value} (ho : ops[i]? = some o) (hab : ∀ f, o.about P w a.eval = some f -> F.fn f) (hg : Region.wanted o (yielded ops a.tmps) = true)
  (hr : (execOp a.eval o).run P w = .ok .recover w') (hrec : recoverD cs = some (y, cs') ∨ (recoverD cs = none /\ y = .nilIface /\ cs' = cs)) (h : wpOpsSIn F n P ops Q rest (a.put o.dst y) cs' w') : wpOpsSIn F n P ops Q (i :: rest) a cs w := by
 simp only [wpOpsSIn, ho];refine ⟨hab, ?_⟩;rw [if_pos hg, hr];rcases hrec with g | ⟨g, e1, e2⟩
 ·simp only [g]; exact h
 ·subst e1 e2;simp only [g]; exact h
theorem Zmv {F : Fence} {n : Nat} {ops : Array Oper} {Q : Exit -> Act -> List Frame -> World -> Prop} {i : Nat} {rest : List Nat} {a : Act} {cs : List Frame} {w w' : World} {o : Oper} {v : Value} (ho : ops[i]? = some o) (hab : ∀ f, o.about P w a.eval = some f -> F.fn f) (hg : Region.wanted o (yielded ops a.tmps) = true)
  (hr : (execOp a.eval o).run P w = .ok (.value v) w') (h : wpOpsSIn F n P ops Q rest (a.put o.dst v) cs w') : wpOpsSIn F n P ops Q (i :: rest) a cs w := by
 simp only [wpOpsSIn, ho];refine ⟨hab, ?_⟩;rw [if_pos hg, hr];exact h
def Zuz (Q : List Blk -> Prop) : AX -> St -> Prop
 | .normal, s => s.dfs = [] /\ Q s.H
 | .ret, s => s.dfs = [] /\ Q s.H
 | _, _ => False
theorem Zh5 {g id : Nat} {fn : Func} {o1 o2 : Oper} {rest : Code} {t1 t2 : Nat} (hf : P.funcs[g]? = some fn) (hb : fn.body = some (.seq (.region id #[o1, o2] false) rest)) (hnm : (fn.name == "runtime.NumGoroutine") = false)
  (ho1 : o1.op = .call { callee := .builtin .recover, args := #[], argTypes := #[] }) (hd1 : o1.dst = some t1) (hg1 : o1.guard = none) (ho2 : o2.op = .assign (.tmp t1)) (hd2 : o2.dst = some t2) (hg2 : o2.guard = none) (hres : fn.results = #[])
  {as : List D} {H : List Blk} {u : Option D} {Q : List Blk -> Prop} (hnt : Nat.ble as.length fn.ntmps = true) (h1 : Nat.blt t1 fn.ntmps = true) (h2 : Nat.blt t2 fn.ntmps = true) (x : D) (hx : x = u.getD (.v .nilIface))
  (h : WpA P none H.length rest (Zuz Q) { env := Z9c (Z9c (Zd6 0 as) (some t1) x) (some t2) x, H := H, nt := fn.ntmps, dfs := [] }) : CallD P g as H u Q := by
 refine ⟨⟨fn, hf, by rw [hb]; rfl, hnm⟩, fun F μ vs w md hr hl hv hmd => ?_⟩;have hle := Nat.le_of_ble_eq_true hnt;refine callsDIn_of_wpSIn hf hb trivial fun c₀ cs hu => ?_;have her0 : ER F μ { env := Zd6 0 as, H := H, nt := fn.ntmps, dfs := [] } { tmps := vs ++ Array.replicate (fn.ntmps - vs.size) undef, defers := [] } := by
  refine ⟨fun t d ht => ?_, by simp; omega, rfl⟩;obtain ⟨-, g2⟩ := Z9h 0 as t d ht;rw [Nat.sub_zero] at g2;have hlt : t < vs.size := by rw [<- hl]; exact (List.getElem?_eq_some_iff.1 g2).1
  refine ⟨vs[t], ?_, hv t d _ g2 (Array.getElem?_eq_getElem hlt)⟩;rw [Array.getElem?_append_left hlt, Array.getElem?_eq_getElem hlt]
 generalize ha0 : ({ tmps := vs ++ Array.replicate (fn.ntmps - vs.size) undef, defers := [] } : Act) = a0 at her0 ⊢
 obtain ⟨y, md', hvy, hset, hrec⟩ : ∃ (y : Value) (md' : FrameMode), VR F μ x y /\ settle md' = .returning /\ ((recoverD (c₀ :: cs) = some (y, { c₀ with mode := md' } :: cs)) ∨ (recoverD (c₀ :: cs) = none /\ y = .nilIface /\ md' = c₀.mode)) := by
  cases u with
  | none =>
   have hmd' : md = .returning := hmd;refine ⟨.nilIface, .returning, by subst hx; exact Z3d rfl, rfl, .inr ⟨?_, rfl, by rw [hu, hmd']⟩⟩;simp [recoverD, hu, hmd']
  | some d =>
   obtain ⟨v, e1, e2⟩ := hmd;refine ⟨v, .panicking [{ v := v, recovered := true }], by subst hx; exact e2, rfl, .inl ?_⟩;simp [recoverD, hu, e1]
 have hst : Stp F μ H w F μ H w := Stp.refl hr;have her1 := Zmf (dst := some t1) her0 hr hst hvy (by exact h1) (ds := []) (dv := a0.defers) (by have := her0.dfs; exact this);have her2 := Zmf (dst := some t2) her1 hr hst hvy (by exact h2) (ds := []) (dv := a0.defers) (by have := her0.dfs; exact this);have hlt1 : t1 < a0.tmps.size := by rw [her0.nt]; exact Nat.le_of_ble_eq_true h1
 have hev : (({ a0 with defers := a0.defers } : Act).put (some t1) y).eval (.tmp t1) = y := by
  show ((a0.tmps.setIfInBounds t1 y).getD t1 undef) = y;simp [Array.getD, hlt1]
 refine wpSIn_seq (wpSIn_region ?_);have hrun1 : (execOp a0.eval o1).run P w = .ok .recover w := by
  unfold execOp; rw [ho1]; rfl
 have fin : ∀ a2 : Act, ER F μ { env := Z9c (Z9c (Zd6 0 as) (some t1) x) (some t2) x, H := H, nt := fn.ntmps, dfs := [] } a2 -> rest.wpSIn (Fc none) 0 P (bodyPostS P fn c₀ cs fun e u' w' => (∃ v, e = .returned v) /\ settle u' = .returning /\ ∃ F' μ' H', Stp F μ H w F' μ' H' w' /\ Q H') a2 ({ c₀ with mode := md' } :: cs) w := fun a2 her => by
  refine wpSIn_of_wpIn rfl (wpIn_mono (h.out F μ a2 w ⟨hr, her, Nat.le_refl _⟩) fun e a' w' hp => ?_);obtain ⟨F', μ', s', ax, p1, p2, p3, p4, p5⟩ := hp;have stp : Stp F μ H w F' μ' s'.H w' := ⟨p1, p3.hr, p3.len, p2.same, fun k hk => p2.mks k (Z2p hk) hk⟩;have leave : s'.dfs = [] -> Q s'.H -> a'.defers = [] /\ ∃ u', ({ c₀ with mode := md' } :: cs : List Frame) = { c₀ with mode := u' } :: cs /\ ∃ v, (results fn a'.tmps).run P w' = .ok v w' /\ (∃ v', Ending.returned v = .returned v') /\ settle u' = .returning /\ ∃ F' μ' H', Stp F μ H w F' μ' H' w' /\ Q H' := fun g1 g2 => by
   have hds := p3.er.dfs;rw [g1] at hds;refine ⟨hds, md', rfl, .tuple #[], ?_, ⟨_, rfl⟩, hset, F', μ', s'.H, stp, g2⟩;simp [results, hres]
  cases e <;> cases ax <;> try exact p4.elim
  case normal.normal => exact leave p5.1 p5.2
  case ret.ret => exact leave p5.1 p5.2
  all_goals exact p5.elim
 have hrun2 : ∀ a1 : Act, (execOp a1.eval o2).run P w = .ok (.value (a1.eval (.tmp t1))) w := fun a1 => by
  unfold execOp; rw [ho2]; rfl
 have hw : ∀ (o : Oper) (l : Array Value), o.guard = none -> Region.wanted o (yielded #[o1, o2] l) = true := fun o l hg => by
  unfold Region.wanted; rw [hg]
 have hab : ∀ (o : Oper) (a1 : Act), ∀ f, o.about P w a1.eval = some f -> (Fc none).fn f := fun _ _ _ _ => trivial;refine Zmu (i := 0) (rest := [1]) (o := o1) (y := y) (cs' := { c₀ with mode := md' } :: cs) rfl (hab o1 a0) (hw o1 _ hg1) hrun1 ?_ ?_
 ·rcases hrec with g | ⟨g, e1, e2⟩
  ·exact .inl g
  ·exact .inr ⟨g, e1, by rw [e2]⟩
 refine Zmv (i := 1) (rest := []) (o := o2) rfl (hab o2 _) (hw o2 _ hg2) (hrun2 _) ?_;refine fin _ ?_;rw [hd1, hd2];have : (a0.put (some t1) y).eval (.tmp t1) = y := hev;rw [this];exact her2
end
end Go.Abs

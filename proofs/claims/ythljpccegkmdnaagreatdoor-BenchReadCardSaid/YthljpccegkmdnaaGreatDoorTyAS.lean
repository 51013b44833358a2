/- Part TyAS of the proofs about the benches of the accordion maker: see the last text of the claim for what is proved. -/
import Derived.Laws.IdiomRangeMap
import Derived.RecoverIn
import Derived.Laws.RangeString
import Derived.Laws.IdiomStrings
import Derived.Test.YthljpccegkmdnaaGreatDoorTyAP
import Derived.Test.YthljpccegkmdnaaGreatDoorTyAR
set_option linter.unusedVariables false
set_option linter.unusedSimpArgs false
set_option linter.unnecessarySimpa false
set_option linter.constructorNameAsVariable false

namespace Go.Abs
open Go
section
variable {P : Program} {T : TT} {F : Fz} {μ : Mu} {w : World} {r : Option Nat} {m : Nat} {ops : Array Oper} {Q : AX -> St -> Prop} {s : St}
end
end Go.Abs

namespace Go.Abs
open Go
def Zsd (F : Fz) (μ : Mu) : Option D -> FrameMode -> Prop
 | none, md => md = .returning
 | some d, md => ∃ v, md = .panicking [{ v := v, recovered := false }] /\ VR F μ d v
structure CallD (P : Program) (f : FuncId) (as : List D) (H : List Blk) (u : Option D) (Q : List Blk -> Prop) : Prop where
 fn : ∃ fn, P.funcs[f]? = some fn /\ fn.body.isSome = true /\ (fn.name == "runtime.NumGoroutine") = false
 out : ∀ F μ (vs : Array Value) w md, HR F μ H w -> as.length = vs.size -> (∀ (i : Nat) (d : D) (v : Value), as[i]? = some d -> vs[i]? = some v -> VR F μ d v) -> Zsd F μ u md ->
  CallsDIn (Fc none) 0 P f vs md w fun e u' w' => (∃ v, e = .returned v) /\ settle u' = .returning /\ ∃ F' μ' H', Stp F μ H w F' μ' H' w' /\ Q H'
structure LeaveD (P : Program) (T : TT) (rs : List ResultVar) (Q : RA -> List Blk -> Prop) (u : Option D) (s : St) : Prop where
 out : ∃ g caps as as' ix Hf, s.dfs = [.fn g caps as] /\ renL (rho ix s.H.length) as' = as ++ caps /\ ix.Nodup /\ Z62 (rho ix s.H.length) s.H ix Hf /\ (∀ d, u = some d -> frD d = true) /\
  CallD P g as' Hf u (fun Hf' => Zih ar T { s with H := Z10 s.H ix Hf', dfs := [] } (fun d => Q (.ret d) (Z10 s.H ix Hf')) rs)
section
variable {P : Program} {T : TT} {F : Fz} {μ : Mu} {w : World} {r : Option Nat} {m : Nat} {ops : Array Oper} {Q : AX -> St -> Prop} {s : St}
end
end Go.Abs

namespace Go.Abs
open Go
section
variable {P : Program} {T : TT} {r : Option Nat} {m : Nat} {ops : Array Oper} {Q : AX -> St -> Prop} {s : St}
end
end Go.Abs

namespace Go.Abs
open Go
section
variable {P : Program} {T : TT} {F : Fz} {μ : Mu} {w : World} {r : Option Nat} {m : Nat} {ops : Array Oper} {Q : AX -> St -> Prop} {s : St}
theorem Z1j8 (hT : TOK P T) {t : TypeId} {e : TE} (he : Z1d T t = some e) (hk : e.kc = 2) : P.underlying t = some .string := by
 obtain ⟨d, hd, hkc, -⟩ := Z1e hT he;rw [hk] at hkc;obtain rfl : d = .string := by cases d <;> simp [Zaw] at hkc; rfl
 exact hd
theorem Z1iu {o : Oper} {K : D -> List Blk -> List AD -> Prop} {X : D -> List Blk -> Prop} (hT : TOK P T) {src dst t8 : TypeId} {e1 e2 e3 : TE} {x : Operand} {k : Nat} {z : Int} (b : UInt8) (hb : z = (b.toNat : Int)) (ho : o.op = .convert src dst x) (hx : evo s.env x = some (.o k 1 1))
  (hk : Z1m s.H k = some (.els 1 [.v (.int .u8 z)])) (h1 : Z1d T src = some e1) (h2 : Z1d T dst = some e2) (h3 : Z1d T t8 = some e3) (h4 : e1.el = some (none, t8)) (h5 : e2.kc = 2) (h6 : e3.ik = some .u8)
  (h : K (.v (.string ⟨#[b]⟩)) s.H s.dfs) : OpA P r o s K X := by
 refine ⟨fun F μ a w hr he next Q hn _ => ?_⟩;have hxv := he.evo hx;obtain ⟨d1, hd1, -, hel, -⟩ := Z1e hT h1;obtain ⟨d3, hd3, -, -, hi3⟩ := Z1e hT h3;rw [h4] at hel;rw [h6] at hi3;obtain rfl : d1 = .slice t8 := by cases d1 <;> simp at hel; rw [hel]
 obtain rfl : d3 = .int .u8 := by cases d3 <;> simp at hi3; rw [hi3]
 have hbk : Z17 s.H k = some (1, [.v (.int .u8 z)]) := Z5f hk;obtain ⟨b0, m0, cap, hav, hμ⟩ : ∃ b m cap, a.eval x = .slice (some ⟨b, 0, none⟩) 1 cap /\ μ k = some (some (b, m)) := by
  generalize a.eval x = v at hxv
  cases hxv with
  | cl _ _ hc => cases hc
  | o _ _ _ b m cap h hc hm => exact ⟨b, m, cap, rfl, h⟩
 have hcell := hr.cells hbk hμ 0 _ rfl 0 _ rfl;obtain ⟨v, c1, -, c3⟩ := hcell;have := c3.v_inv;subst this;have hrun := run_convert_bytes_back (P := P) w src dst t8 ⟨b0, 0, none⟩ cap [b] hd1 hd3 (Z1j8 hT h2 h5) (fun j hj => by
  have : j = 0 := by simpa using hj
  subst this
  rw [add_lit]
  simpa [hb] using c1)
 rw [Oper.semAt_eq r a.eval o (fun c e => by rw [ho] at e; cases e)];have hex : (execOp a.eval o).run P w = .ok (.value (.string ⟨#[b]⟩)) w := by
  unfold execOp;rw [ho];simp only [hav, Sem.run_bind];have hrun' : (convert src dst (.slice (some ⟨b0, 0, none⟩) 1 cap)).run P w = .ok (.string ⟨#[b]⟩) w := hrun;rw [hrun'];rfl
 rw [hex, Oper.uponIn_value];exact hn F μ s.H w s.dfs _ _ _ (Stp.refl hr) he.dfs (Z3d rfl) h
theorem Z1ho (hT : TOK P T) {A : Ar} (hA : A = ar) {Dk : List Nat -> List (Nat × PK) -> St -> Prop} (hD : Dk = DrawA P T r m ops Q) {i : Nat} {L : List Nat} {pend : List (Nat × PK)} {o : Oper} {src dst t8 : TypeId} {e1 e2 e3 : TE} {x : Operand} {k : Nat} {z : Int} (b : UInt8) (hb : z = (b.toNat : Int))
  (hoi : ops[i]? = some o) (hd : Z36 s.nt o.dst = true) (hlk : Z4s ops o pend = true) (hw : Z2l ops o (Z1j o pend) = true) (hrd : Z8n ops i L = true) (hg : o.guard = none)
  (ho : o.op = .convert src dst x) (hx : evo (s.only (o.looksAt ops)).env x = some (.o k 1 1)) (hk : Z1m s.H k = some (.els 1 [.v (.int .u8 z)])) (h1 : Z1d T src = some e1) (h2 : Z1d T dst = some e2) (h3 : Z1d T t8 = some e3) (h4 : e1.el = some (none, t8)) (h5 : e2.kc = 2) (h6 : e3.ik = some .u8)
  (hp : Z7f A T ops (s.step o.dst (.v (.string ⟨#[b]⟩)) s.H s.dfs) (Z1j o pend)) (h : vcD A T ops (Q .normal) Dk L (Z1j o pend) (s.step o.dst (.v (.string ⟨#[b]⟩)) s.H s.dfs)) : Dk (i :: L) pend s := by
 have h7 := Zx hT hA hD h;subst hA hD;refine Z5p hoi hd hlk hw hrd ?_;simp only [Zh, hg];exact Z1iu hT b hb ho hx hk h1 h2 h3 h4 h5 h6 ⟨hp, h7⟩
end
end Go.Abs

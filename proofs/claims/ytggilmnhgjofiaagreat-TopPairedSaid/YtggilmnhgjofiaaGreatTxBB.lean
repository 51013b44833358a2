/- Part TxBB of the proofs about the benches of the accordion maker: see the last text of the claim for what is proved. -/
import Derived.Conc.SmallLaws
import Derived.Conc.DeferLaws
import Derived.Conc.Own2
import Derived.Test.YtggilmnhgjofiaaGreatTxBA
import Derived.Test.YtggilmnhgjofiaaGreatTxAR
set_option linter.unusedVariables false
set_option linter.unusedSimpArgs false
set_option linter.unnecessarySimpa false
set_option linter.constructorNameAsVariable false

namespace Go.Abs
open Go Go.Conc
section
variable {P : Program} {T : TT} {main : Bool} {N cb : Nat} {w₀ w : World} {F : Fz} {μ : Mu} {s : St} {O : Nat -> Prop} {ops : Array Oper} {Q : AX -> St -> Prop} {r : Option Nat}
theorem Z224 {o : Oper} {K : D -> List Blk -> List AD -> Prop} {X : D -> List Blk -> Prop} {t e : TypeId} {dir : ChanDir} {i : TypeInfo} (ht : P.underlying t = some (.chan dir e)) (hi : P.info? e = some i) (ho : o.op = .makeChan t (.const (.int .i64 0)))
  (h : ∀ b, K (.v (.chan (some b))) (s.H ++ [.ob (.ch b)]) s.dfs) : OpA P r o s K X := by
 refine ⟨fun F μ a w hr her next Q hn _ => ?_⟩;obtain ⟨u1, u2, u3⟩ := Zjj hr (x := .ch w.heap.size) (o := .chan 0 #[] false 0 0 false) (by intro e; cases e) (fun hb hm => ⟨Z2f _ _ _, hb, fun c hc => hr.non _ (hr.dom _ (Nat.le_refl _)) c hc⟩);have hst : Stp F μ s.H w F (Z4v μ s.H.length (some (w.heap.size, 0))) (s.H ++ [.ob (.ch w.heap.size)]) (w.alloc (.chan 0 #[] false 0 0 false)) :=
  ⟨u2, u1, by simp, fun j hj => by rw [Z2k _ (by omega)], .app _ _ _ _ _⟩
 have hrun := run_makeChan (P := P) (w := w) ht hi .i64 0 (by omega) (by omega);have hev := events_makeChan (P := P) (w := w) ht hi .i64 0 (by omega) (by omega) #[];have hex : (execOp a.eval o).run P w = .ok (.value (.chan (some w.heap.size))) (w.alloc (.chan 0 #[] false 0 0 false)) := by
  obtain ⟨dst, op, type, pos, after, guard⟩ := o;simp only at ho;subst ho;show ((do pure (Next.value (<- Instr.makeChan t (.int .i64 ((0 : Nat) : Int)))) : Sem Next)).run P w = _;rw [Sem.run_bind, hrun];rfl
 have hexe : (execOp a.eval o).events P w #[] = #[] := by
  obtain ⟨dst, op, type, pos, after, guard⟩ := o;simp only at ho;subst ho;show ((do pure (Next.value (<- Instr.makeChan t (.int .i64 ((0 : Nat) : Int)))) : Sem Next)).events P w #[] = _;rw [Sem.events_bind, hrun, hev];rfl
 have es := Oper.semAt_eq r a.eval o (fun c e => by rw [ho] at e; cases e);refine ⟨by rw [es, hexe]; exact .nil, ?_⟩;rw [es, hex, Z1uq];exact hn F _ _ _ s.dfs _ _ _ hst (hst.adr hr her.dfs) (.cl _ _ (.v _ rfl)) (h _)
theorem Z225 {o : Oper} {i : Nat} {l : List Nat} {x : Nat} {ats : Array TypeId} {v : Value} (ho : ops[i]? = some o) (hg : o.guard = none) (hd : o.dst = none) (hop : o.op = .defer { callee := .builtin .close, args := #[.tmp x], argTypes := ats })
  (hx : evo s.env (.tmp x) = some (.v v)) (h : OpsG P main N cb w₀ ops Q l { s with dfs := .lit { target := .builtin .close ats o.type #[false], args := #[v] } :: s.dfs }) : OpsG P main N cb w₀ ops Q (i :: l) s := by
 obtain ⟨dst, op, type, pos, after, guard⟩ := o;simp only at hg hd hop;subst hg hd hop;refine ⟨fun F μ a w O h1 hv b k cs hb => .step fun w₁ hr => ?_⟩;have hg' := Z1wa (P := P) (main := main) (b := b) (k := k) (cs := cs) (w := w₁) (rest := l) (a := a) ho rfl;have hxv := (h1.er.evo hx).v_inv;have hrun : (execOp a.eval ⟨none, .defer { callee := .builtin .close, args := #[.tmp x], argTypes := ats }, type, pos, after, none⟩).run P w₁ = .ok (.defer { target := .builtin .close ats type #[false], args := #[v] }) w₁ := by
  simp [execOp, resolve, hxv]
 have hev : (execOp a.eval ⟨none, .defer { callee := .builtin .close, args := #[.tmp x], argTypes := ats }, type, pos, after, none⟩).events P w₁ #[] = #[] := by
  simp [execOp, resolve]
 rw [hb] at hg';have hfin : ({ b.atR a (.inRegion ops (i :: l) :: k) with defers := { target := .builtin .close ats type #[false], args := #[v] } :: a.defers } : Frame).finish undef =
   b.atR { a with defers := { target := .builtin .close ats type #[false], args := #[v] } :: a.defers } (.inRegion ops l :: k) := by
  have := Frame.finish_atR b { a with defers := { target := .builtin .close ats type #[false], args := #[v] } :: a.defers } ops i l k undef;rw [ho] at this;exact this
 refine ⟨b.atR { a with defers := { target := .builtin .close ats type #[false], args := #[v] } :: a.defers } (.inRegion ops l :: k), cs, w₁, #[], O, ?_, Gr.refl fun b hb => Nat.lt_of_lt_of_le (hv.ge b hb).2 hr.size, .nil, ?_⟩
 ·rw [show (G (b.atR a (.inRegion ops (i :: l) :: k)) cs) = { frame := b.atR a (.inRegion ops (i :: l) :: k), callers := cs, status := .running, dying := none } from rfl, hg', <- hfin];have hsem : (⟨none, .defer { callee := .builtin .close, args := #[.tmp x], argTypes := ats }, type, pos, after, none⟩ : Oper).semAt none a.eval = execOp a.eval ⟨none, .defer { callee := .builtin .close, args := #[.tmp x], argTypes := ats }, type, pos, after, none⟩ := rfl;rw [hsem];simp [stepG.apply, hrun, hev, GStep.after, G, Frame.atR, seen_none]
 ·have h1' := h1.rl hv hr;exact h.out F μ { a with defers := { target := .builtin .close ats type #[false], args := #[v] } :: a.defers } w₁ O ⟨h1'.hr, ⟨h1'.er.env, h1'.er.nt, ⟨_, rfl, h1'.er.dfs⟩⟩, Nat.zero_le _⟩ (hv.rl hr) b k cs hb
end
def botF (P : Program) : Frame := { (default : Frame) with fn := P.funcs.size, defers := [], mode := .panicking [goexitEntry] }
section
variable {P : Program}
theorem Z226 {f : FuncId} {fn : Func} {c : Code} {caps : Array Value} (hf : P.funcs[f]? = some fn) (hb : fn.body = some c) (hn : (fn.name == "runtime.NumGoroutine") = false) (w : World) :
  stepG P false (born P { target := .fn (.func f) caps, args := #[] }) w = .go (G ((baseD f).atR { tmps := caps ++ Array.replicate (fn.ntmps - caps.size) undef, defers := [] } [.code c]) [botF P]) w := by
 have h1 : ¬ fn.name = "runtime.NumGoroutine" := by simpa using hn
 have he : Frame.enter P f caps .deferred = (baseD f).atR { tmps := caps ++ Array.replicate (fn.ntmps - caps.size) undef, defers := [] } [.code c] := enter_atD caps hf hb;rw [<- he];simp [born, stepG, unwind, callDeferred, invoke, callFunc, hf, h1, hb, GStep.after, seen_none, G, botF]
theorem Z227 {b : Frame} {a : Act} {todo : List Item} {fn : Func} (hk : b.kind = .deferred) (hd : a.defers = []) (hf : P.funcs[b.fn]? = some fn) (hr : fn.results = #[]) :
  QuitsIn P 2 (G { b.atR a todo with mode := .returning } [botF P]) := by
 refine .inr ⟨rfl, G (botF P) [], fun w => ?_, .inr ⟨rfl, { G (botF P) [] with status := .finished }, fun w => ?_, rfl⟩⟩
 ·simp [G, stepG, unwind, doReturn, results, Frame.atR, hk, hd, hf, hr, seen_none, GStep.after, botF, goexitEntry]
 ·simp [G, stepG, unwind, botF, goexitEntry, Frame.catches];rfl
theorem Z21e {b : Frame} {a : Act} {todo : List Item} {cs : List Frame} {ats : Array TypeId} {ty : TypeId} {co : Array Bool} {cb s r : Nat} {tm : Bool} {w : World} (hd : a.defers = [{ target := .builtin .close ats ty co, args := #[.chan (some cb)] }])
  (hc : w.heap[cb]? = some (.chan 0 #[] false s r tm)) :
  ∃ es', stepG P false (G { b.atR a todo with mode := .returning } cs) w = .go (G { b.atR { a with defers := [] } todo with mode := .returning } cs) (w.shut cb s r tm) es' /\ es' = seen P b.fn #[⟨.obj cb, false, true⟩, ⟨.obj cb, true, true⟩] := by
 have hrun := run_close_open (P := P) ats ty hc;have hev := events_close_open (P := P) (es := #[]) ats ty hc;refine ⟨_, ?_, rfl⟩;simp [G, stepG, unwind, callDeferred, Frame.atR, hd, invoke, builtin, hrun, hev, GStep.after, World.shut]
end
end Go.Abs

namespace Go.Abs
open Go Go.Conc
def AtI (P : Program) (main : Bool) (N cb : Nat) (w₀ : World) (S : StpG) (b : Frame) (cs : List Frame) (items : List Item) (s : St) : Prop :=
 ∀ (O : Nat -> Prop) (F : Fz) (μ : Mu) (a : Act) (w : World), RL 0 F μ s a w -> VisW N cb w₀ F μ s.H O w -> Gx P main N cb S O (b.atR a items) cs w
section
variable {P : Program} {T : TT} {main : Bool} {N cb : Nat} {w₀ : World} {S : StpG} {b : Frame} {cs : List Frame} {k : List Item} {s : St}
theorem Z1w7 {i1 i2 : List Item} (hs : ∀ a w, stepG P main (G (b.atR a i1) cs) w = .go (G (b.atR a i2) cs) w) (h : AtI P main N cb w₀ S b cs i2 s) : AtI P main N cb w₀ S b cs i1 s :=
 fun O F μ a w h1 hv => Z1y2 (fun b hb => (hv.ge b hb).2) (fun w => hs a w) fun w₁ hr => h O F μ a w₁ (h1.rl hv hr) (hv.rl hr)
theorem Z1ug {x y : Code} (h : AtI P main N cb w₀ S b cs (.code x :: .code y :: k) s) : AtI P main N cb w₀ S b cs (.code (.seq x y) :: k) s := Z1w7 (fun _ _ => Z21y) h
theorem Z1xe {c : Code} (h : AtI P main N cb w₀ S b cs (.code c :: .inLoop c :: k) s) : AtI P main N cb w₀ S b cs (.code (.loop c) :: k) s := Z1w7 (fun _ _ => Z20g) h
theorem Z1xf {c : Code} (h : AtI P main N cb w₀ S b cs (.code c :: .inLoop c :: k) s) : AtI P main N cb w₀ S b cs (.inLoop c :: k) s := Z1w7 (fun _ _ => Z1y7) h
theorem Z1vl {id : Nat} {c : Code} (h : AtI P main N cb w₀ S b cs (.code c :: .inBlock id :: k) s) : AtI P main N cb w₀ S b cs (.code (.block id c) :: k) s := Z1w7 (fun _ _ => Z20x) h
theorem Z1x0 {id : Nat} (h : AtI P main N cb w₀ S b cs k s) : AtI P main N cb w₀ S b cs (.inBlock id :: k) s := Z1w7 (fun _ _ => Z1yy) h
theorem Z1yt (h : AtI P main N cb w₀ S b cs k s) : AtI P main N cb w₀ S b cs (.code .skip :: k) s := Z1w7 (fun _ _ => Z22p) h
theorem Z1yu {id : Nat} {k' : List Item} (he : exitTo id k = some k') (h : AtI P main N cb w₀ S b cs k' s) : AtI P main N cb w₀ S b cs (.code (.exit id) :: k) s := Z1w7 (fun _ _ => Z20h he) h
theorem Z1u5 {id : Nat} {ops : Array Oper} (h : AtI P main N cb w₀ S b cs (.inRegion ops (List.range ops.size) :: k) s) : AtI P main N cb w₀ S b cs (.code (.region id ops false) :: k) s := Z1w7 (fun _ _ => Z1y8) h
theorem Z1u9 {ops : Array Oper} (h : AtI P main N cb w₀ S b cs k s) : AtI P main N cb w₀ S b cs (.inRegion ops [] :: k) s := Z1w7 (fun _ _ => Z1vj) h
theorem Z1w8 {c : Operand} {x y : Code} (t : Bool) (hc : evo s.env c = some (.v (.bool t))) (h : AtI P main N cb w₀ S b cs (.code (if t then x else y) :: k) s) : AtI P main N cb w₀ S b cs (.code (.cond c x y) :: k) s :=
 fun O F μ a w h1 hv => Z1y2 (fun b hb => (hv.ge b hb).2) (fun _ => Z22q ((h1.er.evo hc).bool)) fun w₁ hr => h O F μ a w₁ (h1.rl hv hr) (hv.rl hr)
theorem Z24g (hb : b.roundOf = none) {ops : Array Oper} {i : Nat} {l : List Nat} {o : Oper} (ho : ops[i]? = some o) (hd : Z36 s.nt o.dst = true) (hg : o.guard = none) (h : OpG P o s (fun d H' => AtI P main N cb w₀ S b cs (.inRegion ops l :: k) (s.step o.dst d H' s.dfs))) :
  AtI P main N cb w₀ S b cs (.inRegion ops (i :: l) :: k) s := fun O F μ a w h1 hv => Z24e ho (by simp [Region.wanted, hg]) hb h1.hr h1.er hv h fun w₁ d v H' μ' w' hr hst hvr hk hv2 => by
 have h1' := h1.rl hv hr;have h2 := h1'.step (ds := s.dfs) (dst := o.dst) hst (hst.adr h1'.hr h1'.er.dfs) hvr hd;have he : ({ a with defers := a.defers } : Act) = a := rfl;rw [he] at h2;exact hk _ F μ' _ w' h2 hv2
theorem Z1xg (hT : TOK P T) (hb : b.roundOf = none) {ops : Array Oper} {K : List Nat -> St -> Prop} (hK : ∀ l s, K l s -> AtI P main N cb w₀ S b cs (.inRegion ops l :: k) s) : ∀ (l : List Nat) (s : St), Z1wz ar T ops K l s -> AtI P main N cb w₀ S b cs (.inRegion ops l :: k) s
 | [], s, h => hK _ _ h
 | i :: l, s, h => by
  simp only [Z1wz] at h
  split at h
  ·exact h.elim
  ·rename_i o ho
   split at h
   ·rename_i hd hgu
    split at h
    ·rename_i hg
     exact Z24g hb ho hd hgu ((Z22x (K := fun d H => Z1wz ar T ops K l (s.step o.dst d H s.dfs)) hT hg h).mono fun d H hk => Z1xg hT hb hK l _ hk)
    ·exact h.elim
   ·rename_i hd hgu
    split at h
    ·rename_i hg
     cases hop : o.op <;> first | (rw [hop] at hg; cases hg; done) | skip
     exact Z24g hb ho hd hgu ((Z25l (K := fun d H => Z1wz ar T ops K l (s.step o.dst d H s.dfs)) hT hop h).mono fun d H hk => Z1xg hT hb hK l _ hk)
    ·exact h.elim
   ·rename_i hd hgu
    split at h
    ·rename_i hg
     cases hop : o.op <;> first | (rw [hop] at hg; cases hg; done) | skip
     rw [hop] at hg;exact Z24g hb ho hd hgu ((Z206 (K := fun d H => Z1wz ar T ops K l (s.step o.dst d H s.dfs)) hT hop hg h).mono fun d H hk => Z1xg hT hb hK l _ hk)
    ·exact h.elim
   ·exact hK _ _ h
theorem Z1uw (hT : TOK P T) (hb : b.roundOf = none) {ops : Array Oper} {l : List Nat} (h : ∀ K : List Nat -> St -> Prop, (∀ l s, AtI P main N cb w₀ S b cs (.inRegion ops l :: k) s -> K l s) -> Z1wz ar T ops K l s) : AtI P main N cb w₀ S b cs (.inRegion ops l :: k) s :=
 Z1xg hT hb (K := fun l s => AtI P main N cb w₀ S b cs (.inRegion ops l :: k) s) (fun _ _ h => h) l s (h _ fun _ _ h => h)
theorem Z22y (hT : TOK P T) (hb : b.roundOf = none) {id : Nat} {ops : Array Oper} (L : List Nat) (hE : Zim ops = true) (hL : Zh0 ops.size L = true) (h : ∀ K : St -> Prop, (∀ s, AtI P main N cb w₀ S b cs k s -> K s) -> vcDG ar T ops K L [] s) : AtI P main N cb w₀ S b cs (.code (.region id ops true) :: k) s := by
 have hw := Z24f (main := main) (N := N) (cb := cb) (w₀ := w₀) (Q := fun x s => x = .normal /\ AtI P main N cb w₀ S b cs k s) (s := s) (id := id) hT L hE hL (fun A hA => by subst hA; exact h _ fun s hs => ⟨rfl, hs⟩);exact fun O F μ a w h1 hv => (hw.out F μ a w O h1 hv b k cs hb).trans fun O fr cs' w ⟨ec, F, μ, s, a, ax, ex, g1, g2, g3, g4, g5⟩ => by
  subst ec;obtain ⟨rfl, g4⟩ := g4
  cases ex <;> try exact g3.elim
  obtain rfl : fr = _ := g5;exact g4 O F μ a w g1 g2
theorem Z24h (hb : b.roundOf = none) {ops : Array Oper} {o : Oper} {i : Nat} {l : List Nat} {x : Nat} {ats : Array TypeId} {v : Value} (ho : ops[i]? = some o) (hg : o.guard = none) (hd : o.dst = none) (hop : o.op = .defer { callee := .builtin .close, args := #[.tmp x], argTypes := ats })
  (hx : evo s.env (.tmp x) = some (.v v)) (hl : l = []) (h : AtI P main N cb w₀ S b cs k { s with dfs := .lit { target := .builtin .close ats o.type #[false], args := #[v] } :: s.dfs }) : AtI P main N cb w₀ S b cs (.inRegion ops (i :: l) :: k) s := by
 subst hl;have hw := Z225 (P := P) (main := main) (N := N) (cb := cb) (w₀ := w₀) (Q := fun x s => x = .normal /\ AtI P main N cb w₀ S b cs k s) (s := s) (l := []) ho hg hd hop hx (Z24d ⟨rfl, h⟩);exact fun O F μ a w h1 hv => (hw.out F μ a w O h1 hv b k cs hb).trans fun O fr cs' w ⟨ec, F, μ, s, a, ax, ex, g1, g2, g3, g4, g5⟩ => by
  subst ec;obtain ⟨rfl, g4⟩ := g4
  cases ex <;> try exact g3.elim
  obtain rfl : fr = _ := g5;exact g4 O F μ a w g1 g2
theorem Z21f (j : Nat) {d : D} (d' : D) (hk : Z1m s.H j = some (.box d)) (hw : WkL d.cells d'.cells) (h : AtI P main N cb w₀ S b cs k { s with H := s.H.set j (.box d') }) : AtI P main N cb w₀ S b cs k s := fun O F μ a w h1 hv => by
 obtain ⟨g1, g2, -⟩ := Zs1 hk hw h1;exact h O F μ a w g1 ⟨hv.n, hv.cbN, hv.ge, fun b hb => hv.own b (by
  by_cases ho : Own μ s.H b
  ·exact ho
  ·exact absurd hb (g2.keep b (g1.hr.lt b hb) ho).2), hv.frz, hv.base⟩
theorem Z25o {z : Value} {vs : List Value} (hb : b.roundOf = none) {ops : Array Oper} {o : Oper} {i : Nat} {l : List Nat} {c x : Operand} {v : Value} {d : D} (ho : ops[i]? = some o) (hg : o.guard = none) (hd : o.dst = none) (hop : o.op = .send c x) (hc : evo s.env c = some (.v (.chan (some cb)))) (hx : evo s.env x = some d)
  (hv : ∀ F μ v', VR F μ d v' -> v' = v) (h : AtI P false N cb w₀ (Z1w5 P N cb (.tuple #[]) vs) b cs (.inRegion ops l :: k) s) : AtI P false N cb w₀ (Z1w5 P N cb (.tuple #[]) (v :: vs)) b cs (.inRegion ops (i :: l) :: k) s := by
 obtain ⟨dst, op, type, pos, after, guard⟩ := o;simp only at hg hd hop;subst hg hd hop;intro O F μ a w h1 hvw;refine .stop ⟨fun w₁ => ?_, ?_⟩
 ·have hg' := Z1wa (P := P) (main := false) (b := b) (k := k) (cs := cs) (w := w₁) (rest := l) (a := a) ho rfl;have hcv := (h1.er.evo hc).v_inv;have hxv := hv _ _ _ (h1.er.evo hx);rw [hb] at hg';rw [show (G (b.atR a (.inRegion ops (i :: l) :: k)) cs) = { frame := b.atR a (.inRegion ops (i :: l) :: k), callers := cs, status := .running, dying := none } from rfl, hg'];have hsem : (⟨none, .send c x, type, pos, after, none⟩ : Oper).semAt none a.eval = execOp a.eval ⟨none, .send c x, type, pos, after, none⟩ := rfl;rw [hsem];simp [stepG.apply, execOp, hcv, hxv, GStep.after, seen_none, scase]
 ·have hf : (b.atR a (.inRegion ops (i :: l) :: k)).finish undef = b.atR a (.inRegion ops l :: k) := by
   rw [Frame.finish_atR, ho]; rfl
  rw [hf];exact h O F μ a w h1 hvw
theorem Z271 {fn : Func} {z : Value} {ats : Array TypeId} {ty : TypeId} {co : Array Bool} (hb : b.roundOf = none) (hk : b.kind = .deferred) (hdf : s.dfs = [.lit { target := .builtin .close ats ty co, args := #[.chan (some cb)] }]) (hf : P.funcs[b.fn]? = some fn) (hr : fn.results = #[])
  (hseen : seen P b.fn #[⟨.obj cb, false, true⟩, ⟨.obj cb, true, true⟩] = #[⟨.obj cb, false, true⟩, ⟨.obj cb, true, true⟩]) (hcs : cs = [botF P]) : AtI P false N cb w₀ (Z1w5 P N cb z []) b cs (.code .ret :: k) s := by
 subst hcs;intro O F μ a w h1 hv;refine .step fun w₁ hr1 => ⟨_, [botF P], w₁, #[], O, Z21z hb, Gr.refl fun b hb => Nat.lt_of_lt_of_le (hv.ge b hb).2 hr1.size, .nil, .stop ?_⟩;have hd : a.defers = [{ target := .builtin .close ats ty co, args := #[.chan (some cb)] }] := by
  have := h1.er.dfs;rw [hdf] at this;obtain ⟨ds', e1, e2⟩ := this;rw [e1, show ds' = [] from e2]
 refine ⟨_, 2, rfl, fun w₁ s r tm hc => ?_, Z227 (b := b) (a := { a with defers := [] }) (todo := .code .ret :: k) hk rfl hf hr⟩;obtain ⟨es', e1, e2⟩ := Z21e (P := P) (b := b) (a := a) (todo := .code .ret :: k) (cs := [botF P]) hd hc;rw [e1, e2, hseen]
end
end Go.Abs

namespace Go.Abs
open Go Go.Conc
section
variable {P : Program} {T : TT} {N cb : Nat} {w₀ : World} {b : Frame} {cs : List Frame} {k : List Item} {s : St}
theorem Z1zd {F : Fz} {μ : Mu} {a : Act} {ops : Array Oper} {o : Oper} {i : Nat} {l : List Nat} {c : Operand} {t el : TypeId} {dir : ChanDir} {z : Value} (hb : b.roundOf = none) (ho : ops[i]? = some o) (hg : o.guard = none) (hop : o.op = .recv t c true) (her : ER F μ s a) (hc : evo s.env c = some (.v (.chan (some cb))))
  (ht : P.underlying t = some (.chan dir el)) (hz : ∀ w, (zeroValue el).run P w = .ok z w) (w₁ : World) : stepG P true (G (b.atR a (.inRegion ops (i :: l) :: k)) cs) w₁ = .comm (G (b.atR a (.inRegion ops (i :: l) :: k)) cs) #[rcase cb z] true (.recv true) w₁ := by
 obtain ⟨dst, op, type, pos, after, guard⟩ := o;simp only at hg hop;subst hg hop;have hg' := Z1wa (P := P) (main := true) (b := b) (k := k) (cs := cs) (w := w₁) (rest := l) (a := a) ho rfl;have hcv := (her.evo hc).v_inv;rw [hb] at hg';rw [show (G (b.atR a (.inRegion ops (i :: l) :: k)) cs) = { frame := b.atR a (.inRegion ops (i :: l) :: k), callers := cs, status := .running, dying := none } from rfl, hg'];have hsem : (⟨dst, .recv t c true, type, pos, after, none⟩ : Oper).semAt none a.eval = execOp a.eval ⟨dst, .recv t c true, type, pos, after, none⟩ := rfl;rw [hsem];have hrun : (execOp a.eval ⟨dst, .recv t c true, type, pos, after, none⟩).run P w₁ = .ok (.comm #[rcase cb z] true (.recv true)) w₁ := by
  simp [execOp, run_underlying ht, hz, hcv, rcase]
 have hev : (execOp a.eval ⟨dst, .recv t c true, type, pos, after, none⟩).events P w₁ #[] = #[] := by
  simp [execOp, run_underlying ht, hz]
 simp [stepG.apply, hrun, hev, GStep.after, seen_none]
theorem Z25p {X : Frame -> List Frame -> World -> Prop} {vs : List Value} {ops : Array Oper} {o : Oper} {i : Nat} {l : List Nat} {c : Operand} {t el : TypeId} {dir : ChanDir} {z v : Value} {d : D} (hb : b.roundOf = none) (ho : ops[i]? = some o) (hd : Z36 s.nt o.dst = true) (hg : o.guard = none) (hop : o.op = .recv t c true) (hc : evo s.env c = some (.v (.chan (some cb))))
  (ht : P.underlying t = some (.chan dir el)) (hz : ∀ w, (zeroValue el).run P w = .ok z w) (hv : ∀ F, CR F d v) (h : AtI P true N cb w₀ (Z1w1 P N cb z X vs) b cs (.inRegion ops l :: k) (s.step o.dst (.tup [d, .v (.bool true)]) s.H s.dfs)) :
  AtI P true N cb w₀ (Z1w1 P N cb z X (v :: vs)) b cs (.inRegion ops (i :: l) :: k) s := by
 intro O F μ a w h1 hvw;refine .stop ⟨Z1zd hb ho hg hop h1.er hc ht hz, ?_⟩;have hf : (b.atR a (.inRegion ops (i :: l) :: k)).finish (.tuple #[v, .bool true]) = b.atR (a.put o.dst (.tuple #[v, .bool true])) (.inRegion ops l :: k) := by
  rw [Frame.finish_atR, ho]; rfl
 rw [hf];have hvr : VR F μ (.tup [d, .v (.bool true)]) (.tuple #[v, .bool true]) := .cl _ _ (.tup _ _ rfl fun i c x h1 h2 => by
  match i, h1, h2 with
  | 0, h1, h2 => cases h1; cases h2; exact hv F
  | 1, h1, h2 => cases h1; cases h2; exact .v _ rfl)
 have h2 := h1.step (ds := s.dfs) (dst := o.dst) (Stp.refl h1.hr) h1.er.dfs hvr hd;exact h O F μ _ w h2 hvw
theorem Z24i {X : Frame -> List Frame -> World -> Prop} {ops : Array Oper} {o : Oper} {i : Nat} {l : List Nat} {c : Operand} {t el : TypeId} {dir : ChanDir} {z : Value} (hb : b.roundOf = none) (ho : ops[i]? = some o) (hg : o.guard = none) (hop : o.op = .recv t c true) (hc : evo s.env c = some (.v (.chan (some cb))))
  (ht : P.underlying t = some (.chan dir el)) (hz : ∀ w, (zeroValue el).run P w = .ok z w) (h : ∀ (O : Nat -> Prop) (F : Fz) (μ : Mu) (a : Act) (w : World), RL 0 F μ s a w -> VisW N cb w₀ F μ s.H O w -> X (b.atR (a.put o.dst (.tuple #[z, .bool false])) (.inRegion ops l :: k)) cs w) :
  AtI P true N cb w₀ (Z1w1 P N cb z X []) b cs (.inRegion ops (i :: l) :: k) s := by
 intro O F μ a w h1 hvw;refine .stop ⟨Z1zd hb ho hg hop h1.er hc ht hz, fun w₁ hr => ?_⟩;have hf : (b.atR a (.inRegion ops (i :: l) :: k)).finish (.tuple #[z, .bool false]) = b.atR (a.put o.dst (.tuple #[z, .bool false])) (.inRegion ops l :: k) := by
  rw [Frame.finish_atR, ho]; rfl
 rw [hf];exact h O F μ a w₁ (h1.rl hvw hr) (hvw.rl hr)
end
end Go.Abs

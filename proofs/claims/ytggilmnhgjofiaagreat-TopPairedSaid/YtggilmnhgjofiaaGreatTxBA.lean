/- Part TxBA of the proofs about the benches of the accordion maker: see the last text of the claim for what is proved. -/
import Derived.Test.YtggilmnhgjofiaaGreatTxAY
import Derived.Test.YtggilmnhgjofiaaGreatTxAZ
import Derived.Test.YtggilmnhgjofiaaGreatTxAM
import Derived.Test.YtggilmnhgjofiaaGreatTxAQ
set_option linter.unusedVariables false
set_option linter.unusedSimpArgs false
set_option linter.unnecessarySimpa false
set_option linter.constructorNameAsVariable false

namespace Go.Abs
open Go Go.Conc
structure VisW (N cb : Nat) (w₀ : World) (F : Fz) (μ : Mu) (H : List Blk) (O : Nat -> Prop) (w : World) : Prop where
 n : N <= w.heap.size
 cbN : cb < N
 ge : ∀ b, O b -> N <= b /\ b < w.heap.size
 own : ∀ b, Own μ H b -> O b
 frz : ∀ b o v, F b o = some v -> b ≠ cb /\ (b < N ∨ O b)
 base : Rl N cb (fun _ => False) w₀ w
section
variable {P : Program} {T : TT} {main : Bool} {N cb : Nat} {w₀ w w₁ w' : World} {F : Fz} {μ μ' : Mu} {H H' : List Blk} {O : Nat -> Prop}
theorem VisW.rl (h : VisW N cb w₀ F μ H O w) (hr : Rl N cb O w w₁) : VisW N cb w₀ F μ H O w₁ :=
 ⟨Nat.le_trans h.n hr.size, h.cbN, fun b hb => ⟨(h.ge b hb).1, Nat.lt_of_lt_of_le (h.ge b hb).2 hr.size⟩, h.own, h.frz, h.base.trans ⟨hr.tape, hr.os, hr.output, hr.size, hr.old, fun _ h => h.elim⟩⟩
theorem HR.rl (h : HR F μ H w) (hv : VisW N cb w₀ F μ H O w) (hr : Rl N cb O w w₁) : HR F μ H w₁ := by
 have hown : ∀ k b, Z20 H k = true -> Z40 μ k b -> w₁.heap[b]? = w.heap[b]? := fun k b hk hf => hr.own b (hv.own b ⟨k, hk, hf⟩);refine ⟨h.dom, fun k sz es hk hn => ?_, h.plain, fun k x hx hn => ?_, h.non, h.inj, fun b hb => Nat.lt_of_lt_of_le (h.lt b hb) hr.size, fun b o v hf => ?_, h.fr, fun b p hp => by cases hp⟩
 ·rcases h.row k sz es hk hn with h1 | ⟨b, m, c, t, h1, h2, h3⟩
  ·exact .inl h1
  ·exact .inr ⟨b, m, c, t, h1, by rw [hown k b (Z15 hk) (.inl ⟨m, h1⟩)]; exact h2, h3⟩
 ·exact (h.obj k x hx hn).frame (fun _ _ _ e => e) (fun _ _ e => e) (fun _ => Iff.rfl) fun b hb => hown k b (Z2j hx) hb
 ·obtain ⟨h1, h2⟩ := h.frz b o v hf;have hb : w₁.heap[b]? = w.heap[b]? := (hv.frz b o v hf).2.elim (fun h => hr.old b h (hv.frz b o v hf).1) fun h => hr.own b h;exact ⟨by rw [World.cell?_of_block (w := w) hb]; exact h1, h2⟩
theorem Stp.gr (h : Stp F μ H w F μ' H' w') (hv : VisW N cb w₀ F μ H O w) : Gr O (fun b => O b ∨ Own μ' H' b) w w' /\ VisW N cb w₀ F μ' H' (fun b => O b ∨ Own μ' H' b) w' := by
 have new : ∀ b, Own μ' H' b -> O b ∨ (w.heap.size <= b /\ b < w'.heap.size) := fun b hb => by
  rcases Nat.lt_or_ge b w.heap.size with hlt | hge
  ·by_cases ho : Own μ H b
   ·exact .inl (hv.own b ho)
   ·exact absurd hb (h.post.keep b hlt ho).2
  ·exact .inr ⟨hge, h.hr.lt b hb⟩
 have hg : Gr O (fun b => O b ∨ Own μ' H' b) w w' := ⟨h.post.tape, h.post.os, h.post.output, h.post.size, fun b hb ho => (h.post.keep b hb fun x => ho (hv.own b x)).1, fun b hb => .inl hb, fun b hb => hb.elim .inl (new b)⟩;refine ⟨hg, Nat.le_trans hv.n h.post.size, hv.cbN, fun b hb => ?_, fun b hb => .inr hb, fun b o v hf => ⟨(hv.frz b o v hf).1, (hv.frz b o v hf).2.imp id .inl⟩, hv.base.trans ⟨hg.tape, hg.os, hg.output, hg.size, fun b hb _ => hg.oth b (Nat.lt_of_lt_of_le hb hv.n) fun x => by have := (hv.ge b x).1; omega, fun _ h => h.elim⟩⟩;rcases hb with hb | hb
 ·exact ⟨(hv.ge b hb).1, Nat.lt_of_lt_of_le (hv.ge b hb).2 h.post.size⟩
 ·rcases new b hb with hb | ⟨h1, h2⟩
  ·exact ⟨(hv.ge b hb).1, Nat.lt_of_lt_of_le (hv.ge b hb).2 h.post.size⟩
  ·exact ⟨Nat.le_trans hv.n h1, h2⟩
theorem Z26z {α : Type} {s : Sem α} (h : Ev P (Bt F μ H) s w) (hv : VisW N cb w₀ F μ H O w) {O' : Nat -> Prop} (ho : ∀ b, O b -> O' b) {fn : FuncId} {es : Array Event} (hes : ∀ e ∈ es, e ∈ s.events P w #[]) : EvO N O' (seen P fn es) := by
 refine ⟨fun e he => (h e (hes e (mem_seen he))).1, fun e he x hx => ?_⟩;obtain ⟨a, h1, h2⟩ := (h e (hes e (mem_seen he))).2 x hx;refine .inl ⟨a, h1, ?_⟩;rcases h2 with h2 | ⟨h2, o, v, h3⟩
 ·exact .inl (ho _ (hv.own _ h2))
 ·exact (hv.frz _ _ _ h3).2.elim (fun h => .inr ⟨h, h2⟩) fun h => .inl (ho _ h)
theorem EvO.nil : EvO N O #[] := ⟨.nil, fun e he => by simp at he⟩
theorem Gr.refl (hge : ∀ b, O b -> b < w.heap.size) : Gr O O w w := ⟨rfl, rfl, rfl, Nat.le_refl _, fun _ _ _ => rfl, fun _ h => h, fun b h => .inl h⟩
def ArrG (N cb : Nat) (w₀ : World) (b : Frame) (k : List Item) (cs : List Frame) (Q : AX -> St -> Prop) : StpG := fun O fr cs' w =>
 cs' = cs /\ ∃ F μ s a x e, RL 0 F μ s a w /\ VisW N cb w₀ F μ s.H O w /\ XR F μ e x /\ Q x s /\ ArrF b k e a fr
structure WpG (P : Program) (main : Bool) (N cb : Nat) (w₀ : World) (c : Code) (Q : AX -> St -> Prop) (s : St) : Prop where
 out : ∀ F μ a w O, RL 0 F μ s a w -> VisW N cb w₀ F μ s.H O w -> ∀ (b : Frame) (k : List Item) (cs : List Frame), b.roundOf = none -> Gx P main N cb (ArrG N cb w₀ b k cs Q) O (b.atR a (.code c :: k)) cs w
structure OpsG (P : Program) (main : Bool) (N cb : Nat) (w₀ : World) (ops : Array Oper) (Q : AX -> St -> Prop) (l : List Nat) (s : St) : Prop where
 out : ∀ F μ a w O, RL 0 F μ s a w -> VisW N cb w₀ F μ s.H O w -> ∀ (b : Frame) (k : List Item) (cs : List Frame), b.roundOf = none -> Gx P main N cb (ArrG N cb w₀ b k cs Q) O (b.atR a (.inRegion ops l :: k)) cs w
structure InG (P : Program) (main : Bool) (N cb : Nat) (w₀ : World) (c : Code) (Q : AX -> St -> Prop) (s : St) : Prop where
 out : ∀ F μ a w O, RL 0 F μ s a w -> VisW N cb w₀ F μ s.H O w -> ∀ (b : Frame) (k : List Item) (cs : List Frame), b.roundOf = none -> Gx P main N cb (ArrG N cb w₀ b k cs Q) O (b.atR a (.inLoop c :: k)) cs w
variable {Q Q' : AX -> St -> Prop} {s : St} {a : Act} {b : Frame} {k : List Item} {cs : List Frame}
theorem RL.rl (h : RL 0 F μ s a w) (hv : VisW N cb w₀ F μ s.H O w) (hr : Rl N cb O w w₁) : RL 0 F μ s a w₁ := ⟨h.hr.rl hv hr, h.er, h.len⟩
theorem Z1y2 {S : StpG} {fr fr' : Frame} {cs' : List Frame} (hge : ∀ b, O b -> b < w.heap.size) (h : ∀ w, stepG P main (G fr cs) w = .go (G fr' cs') w) (hr : ∀ w₁, Rl N cb O w w₁ -> Gx P main N cb S O fr' cs' w₁) : Gx P main N cb S O fr cs w :=
 .step fun w₁ h1 => ⟨fr', cs', w₁, #[], O, h _, Gr.refl fun b hb => Nat.lt_of_lt_of_le (hge b hb) h1.size, .nil, hr w₁ h1⟩
theorem Z22w {x : AX} {e : Exit} {fr : Frame} (h1 : RL 0 F μ s a w) (hv : VisW N cb w₀ F μ s.H O w) (hx : XR F μ e x) (hq : Q x s) (hf : ArrF b k e a fr) : Gx P main N cb (ArrG N cb w₀ b k cs Q) O fr cs w := .stop ⟨rfl, F, μ, s, a, x, e, h1, hv, hx, hq, hf⟩
theorem Z24d {ops : Array Oper} (h : Q .normal s) : OpsG P main N cb w₀ ops Q [] s :=
 ⟨fun F μ a w O h1 hv b k cs _ => Z1y2 (fun b hb => (hv.ge b hb).2) (fun _ => Z1vj) fun w₁ hr => Z22w (x := .normal) (e := .normal) (h1.rl hv hr) (hv.rl hr) trivial h rfl⟩
structure OpG (P : Program) (o : Oper) (s : St) (K : D -> List Blk -> Prop) : Prop where
 out : ∀ F μ a w, HR F μ s.H w -> ER F μ s a -> ∃ nx d v H' μ' w', (o.semAt none a.eval).run P w = .ok nx w' /\ (nx = .value v ∨ (nx = .skip /\ v = undef)) /\ Ev P (Bt F μ s.H) (o.semAt none a.eval) w /\ Stp F μ s.H w F μ' H' w' /\ VR F μ' d v /\ K d H'
theorem OpG.mono {o : Oper} {K K' : D -> List Blk -> Prop} (h : OpG P o s K) (hk : ∀ d H, K d H -> K' d H) : OpG P o s K' := ⟨fun F μ a w h1 h2 => by
 obtain ⟨nx, d, v, H', μ', w', g1, g2, g3, g4, g5, g6⟩ := h.out F μ a w h1 h2
 exact ⟨nx, d, v, H', μ', w', g1, g2, g3, g4, g5, hk _ _ g6⟩⟩
theorem Z1wa {ops : Array Oper} {i : Nat} {rest : List Nat} {o : Oper} (ho : ops[i]? = some o) (hw : Region.wanted o (yielded ops a.tmps) = true) :
  stepG P main { frame := b.atR a (.inRegion ops (i :: rest) :: k), callers := cs, status := .running, dying := none } w =
   stepG.apply P true (b.atR a (.inRegion ops (i :: rest) :: k)) cs none (o.semAt b.roundOf a.eval) w := by
 have he := Frame.eval_atR b a (.inRegion ops (i :: rest) :: k);simp only [Frame.atR] at he;simp only [stepG, stepG.exec, stepG.oper, Frame.oper?, Frame.atR, ho, hw, he, Option.map_some, Option.getD_some, if_true, Oper.semAt]
 cases b.roundOf <;> cases o.op <;> rfl
theorem Z24e {S : StpG} {o : Oper} {ops : Array Oper} {i : Nat} {rest : List Nat} {K : D -> List Blk -> Prop} (ho : ops[i]? = some o) (hw : Region.wanted o (yielded ops a.tmps) = true) (hb : b.roundOf = none) (h1 : HR F μ s.H w) (he : ER F μ s a) (hv : VisW N cb w₀ F μ s.H O w) (hop : OpG P o s K)
  (next : ∀ w₁ d v H' μ' w', Rl N cb O w w₁ -> Stp F μ s.H w₁ F μ' H' w' -> VR F μ' d v -> K d H' -> VisW N cb w₀ F μ' H' (fun b => O b ∨ Own μ' H' b) w' -> Gx P main N cb S (fun b => O b ∨ Own μ' H' b) (b.atR (a.put o.dst v) (.inRegion ops rest :: k)) cs w') :
  Gx P main N cb S O (b.atR a (.inRegion ops (i :: rest) :: k)) cs w := by
 refine .step fun w₁ hr => ?_;obtain ⟨nx, d, v, H', μ', w', hrun, hnx, hev, hst, hvr, hk⟩ := hop.out F μ a w₁ (h1.rl hv hr) he;have hg := Z1wa (P := P) (main := main) (b := b) (k := k) (cs := cs) (w := w₁) (rest := rest) ho hw;rw [hb] at hg;have hfin : ∀ v, (b.atR a (.inRegion ops (i :: rest) :: k)).finish v = b.atR (a.put o.dst v) (.inRegion ops rest :: k) := by
  intro v; rw [Frame.finish_atR, ho]; rfl
 have hv1 := hv.rl hr;obtain ⟨hgr, hv2⟩ := hst.gr hv1;refine ⟨b.atR (a.put o.dst v) (.inRegion ops rest :: k), cs, w', _, fun b => O b ∨ Own μ' H' b, ?_, hgr, Z26z (es := if ((b.atR a (.inRegion ops (i :: rest) :: k)).kind == .early) = true then #[] else (o.semAt none a.eval).events P w₁ #[]) (fn := (b.atR a (.inRegion ops (i :: rest) :: k)).fn) hev hv1 (fun b hb => .inl hb) (fun e he => by split at he <;> first | exact he | simp at he), next w₁ d v H' μ' w' hr hst hvr hk hv2⟩;rw [show (G (b.atR a (.inRegion ops (i :: rest) :: k)) cs) = { frame := b.atR a (.inRegion ops (i :: rest) :: k), callers := cs, status := .running, dying := none } from rfl, hg, <- hfin v];rcases hnx with rfl | ⟨rfl, rfl⟩
 ·simp [stepG.apply, hrun, GStep.after, G]
 ·simp [stepG.apply, hrun, GStep.after, G]
end
end Go.Abs

namespace Go.Abs
open Go Go.Conc
section
variable {P : Program} {T : TT} {main : Bool} {N cb : Nat} {w₀ w : World} {F : Fz} {μ : Mu} {s : St}
theorem Z22x (hT : TOK P T) {o : Oper} {K : D -> List Blk -> Prop} (hg : Z216 s o.op = true) (h : Z1q ar T s (fun d => K d s.H) o.op) : OpG P o s K := by
 refine ⟨fun F μ a w hr he => ?_⟩;obtain ⟨h1, d, v, h2, h3, h4⟩ := Zez hT hr he h;have e := Oper.semAt_eq none a.eval o h1;exact ⟨.value v, d, v, s.H, μ, w, by rw [e]; exact h2, .inl rfl, by rw [e]; exact Z25k hT hr he hg h, Stp.refl hr, h3, h4⟩
theorem Z270 {B : Touch -> Prop} {a : Act} {o : Oper} {t : TypeId} (ho : o.op = .alloc t) : Ev P B (execOp a.eval o) w := by
 obtain ⟨dst, op, type, pos, after, guard⟩ := o;simp only at ho;subst ho;refine Ev.value ?_;unfold Instr.alloc;exact (NoEv.bind (Z1th t) fun z => NoEv.bind (Z1ue t z) fun _ => Z1u8 _).ev
theorem Z25l (hT : TOK P T) {o : Oper} {K : D -> List Blk -> Prop} {t : TypeId} (ho : o.op = .alloc t) (h : Z5g ar T s (fun x mk => K (mk s.H.length) (s.H ++ [x])) o.op) : OpG P o s K := by
 refine ⟨fun F μ a w hr he => ?_⟩;obtain ⟨h1, x, mk, y, ⟨hbf, sz, es, c, ty, v, g1, g2, g3, g4, g5⟩, h3, h4⟩ := Zf2 (μ := μ) (w := w) hT he h;have e := Oper.semAt_eq none a.eval o h1;have hl := Zbg hr hbf g1 g3 g4 ty;exact ⟨.value v, _, v, _, _, _, by rw [e, h3, Sem.run_bind, g2]; rfl, .inl rfl, by rw [e]; exact Z270 ho, hl.stp, g5 s.H.length _ (Z2f _ _ _), h4⟩
theorem Z26m (hT : TOK P T) {t : TypeId} {e : TE} (he : Z1d T t = some e) {H : List Blk} (hr : HR F μ H w) {k off : Nat} {d d' : D} (hd : Z1m H k = some (.box d)) {b m : Nat} (hμ : μ k = some (some (b, m))) {vx : Value} (hwr : Written F μ d d' off vx e.size) :
  Ev P (Bt F μ H) (Instr.storeAt t (.pointer (some ⟨b, off, none⟩)) vx) w := by
 rcases hr.row k _ _ (Z7c hd) (by rw [hμ]; simp) with ⟨e1, -⟩ | ⟨b', m', c, ty, e1, hw, hcs, hsz, hc⟩
 ·rw [hμ] at e1; cases e1
 ·rw [hμ] at e1; cases e1;have hfit : off + e.size <= c.size := by
   have h1 := hwr.fit;simp only [List.length_singleton, Nat.one_mul] at hsz;omega
  unfold Instr.storeAt;refine (Z1um _).ev.bind fun a' w' hrr => ?_
  cases hrr
  unfold storeVar;refine (Z1to t).ev.bind fun n w' hrr => ?_;rw [Z6i hT he] at hrr
  cases hrr
  rw [if_neg (by rw [hwr.size]; simp)];refine Z247 (b := b) (fun ev hev => (events_storeCells_at b off ty vx.cells.toList 0 c w #[] hw (by simp [hwr.size]; omega) (fun u hu => by
   obtain ⟨i, hi⟩ := List.mem_iff_getElem?.1 hu
   exact hwr.one i u (by simpa using hi)) ev hev).elim (fun h => by simp at h) id) (Z248 ⟨k, Z15 (Z7c hd), .inl ⟨_, hμ⟩⟩)
theorem Z206 (hT : TOK P T) {o : Oper} {K : D -> List Blk -> Prop} {t : TypeId} {p x : Operand} (ho : o.op = .store t p x) (hp : (match evo s.env p with | some (.b _ _) => true | some (.bs _ _) => true | _ => false) = true) (h : wA ar T s (fun _ H' => K (.tup []) H') o.op) : OpG P o s K := by
 obtain ⟨dst, op, type, pos, after, guard⟩ := o;simp only at ho;subst ho;refine ⟨fun F μ a w hr he => ?_⟩;simp only [wA] at h
 split at h
 ·rename_i e dp dx h1 h2 h3
  rw [h2] at hp;obtain ⟨H', w', g1, g2, g3, g4, go, g5⟩ := Zpb (P := P) hT h1 hr (he.evo h2) (he.evo h3) h;have e0 : ({ dst := dst, op := .store t p x, type := type, pos := pos, after := after, guard := guard } : Oper).semAt none a.eval = execOp a.eval { dst := dst, op := .store t p x, type := type, pos := pos, after := after, guard := guard } := Oper.semAt_eq none a.eval _ (fun c e => by cases e);have hst : Stp F μ s.H w F μ H' w' := ⟨g3, g2, Nat.le_of_eq g4.symm, fun _ _ => rfl, fun k hk => ⟨go k _ hk, fun _ h => h⟩⟩;refine ⟨.skip, .tup [], undef, H', μ, w', by rw [e0]; simp only [execOp, Sem.run_bind, g1, Result.andThen_ok, Sem.run_pure], .inr ⟨rfl, rfl⟩, ?_, hst, Z5h, g5⟩;rw [e0];simp only [execOp]
  cases dp <;> first | (cases hp; done) | skip
  case b k off =>
   simp only [stP] at h
   split at h
   ·rename_i d hd
    obtain ⟨d', hwr, -, -⟩ := Za9 (he.evo h3) h;have hp := he.evo h2
    generalize a.eval p = vp at hp ⊢
    cases hp with
    | cl _ _ hc => cases hc
    | b _ _ b m hμ => exact (Z26m hT h1 hr hd hμ hwr).bind fun _ _ _ => .pure _
   ·exact h.elim
  case bs k off =>
   simp only [stP] at h
   split at h
   ·rename_i d hd
    obtain ⟨d', hwr, -⟩ := Zpa (he.evo h3) h;have hp := he.evo h2
    generalize a.eval p = vp at hp ⊢
    cases hp with
    | cl _ _ hc => cases hc
    | bs _ _ b m hμ => exact (Z26m hT h1 hr hd hμ hwr).bind fun _ _ _ => .pure _
   ·exact h.elim
 ·exact h.elim
def Z27m : Op -> Bool
 | .alloc _ => true
 | _ => false
def isSt (s : St) : Op -> Bool
 | .store _ p _ => (match evo s.env p with | some (.b _ _) => true | some (.bs _ _) => true | _ => false)
 | _ => false
def Z1wz (A : Ar) (T : TT) (ops : Array Oper) (K : List Nat -> St -> Prop) : List Nat -> St -> Prop
 | [], s => K [] s
 | i :: l, s =>
  match ops[i]? with
  | none => False
  | some o =>
   match Zr4 o.op, Z36 s.nt o.dst, o.guard with
   | 1, true, none => (match Z216 s o.op with | true => Z1q A T s (fun d => Z1wz A T ops K l (s.step o.dst d s.H s.dfs)) o.op | false => False)
   | 2, true, none => (match Z27m o.op with | true => Z5g A T s (fun x mk => Z1wz A T ops K l (s.step o.dst (mk s.H.length) (s.H ++ [x]) s.dfs)) o.op | false => False)
   | 3, true, none => (match isSt s o.op with | true => wA A T s (fun _ H' => Z1wz A T ops K l (s.step o.dst (.tup []) H' s.dfs)) o.op | false => False)
   | _, _, _ => K (i :: l) s
structure StopG where
 code : Code -> (AX -> St -> Prop) -> St -> Prop
 ops : Array Oper -> (AX -> St -> Prop) -> List Nat -> St -> Prop
variable {Q : AX -> St -> Prop}
variable (P main N cb w₀) in
end
end Go.Abs

namespace Go.Abs
open Go Go.Conc
def Z21c : Op -> Bool
 | .move _ | .assign _ | .extract _ _ | .fieldAddr _ _ _ | .indexAddr _ _ _ | .load _ _ => true
 | .call { callee := .builtin .len, .. } => true
 | .call { callee := .builtin .max, .. } => true
 | _ => false
theorem Z25m {op : Op} (h : Z21c op = true) (s : St) : Z216 s op = true := by
 cases op <;> first | rfl | (cases h; done) | skip
 case call c =>
  obtain ⟨callee, args, ats⟩ := c
  cases callee with
  | value f => cases h
  | invoke a b => cases h
  | builtin b => cases b <;> first | rfl | (cases h; done)
section
variable {P : Program} {T : TT} {main : Bool} {N cb : Nat} {w₀ w w₁ w' : World} {F : Fz} {μ μ' : Mu} {s : St} {O : Nat -> Prop} {ops : Array Oper} {Q : AX -> St -> Prop}
theorem RD.rl {L : List Nat} {und : List (Nat × PK)} {listed : Array Bool} {a : Act} (h : RD T 0 ops F μ s L und listed a w) (hv : VisW N cb w₀ F μ s.H O w) (hr : Rl N cb O w w₁) : RD T 0 ops F μ s L und listed a w₁ :=
 ⟨h.hr.rl hv hr, h.env, h.nt, h.dfs, h.len, h.size, h.opn, h.nd, h.ok, h.cl, h.ds, h.pr, h.ks⟩
theorem RD.dropV {L : List Nat} {und : List (Nat × PK)} {listed : Array Bool} {a : Act} (h : RD T 0 ops F μ s L und listed a w) {i : Nat} {d : D} (hu : (i, PK.val d) ∈ und) (hval : ∀ u ∈ und, ∃ d, u.2 = .val d) {o : Oper} (ho : ops[i]? = some o) (hst : Stp F μ s.H w F μ' s.H w') {v : Value} (hv : VR F μ' d v) :
  RD T 0 ops F μ' s L (Z3p und i) (listed.setIfInBounds i true) (a.put o.dst v) w' := by
 obtain ⟨o', ho', hdk, hdst, -⟩ := (h.ok _ hu).out;rw [ho] at ho'; cases ho';refine ⟨hst.hr, fun t d0 ht hun => ?_, by rw [Zk6]; exact h.nt, by rw [Zo3]; exact hst.adr h.hr h.dfs, h.len, by rw [Array.size_setIfInBounds]; exact h.size, Zrq h hu, Zuj h _, fun u' hu' => h.ok u' (Z1x.1 hu').1,
  fun u1 h1 u2 h2 => h.cl u1 (Z1x.1 h1).1 u2 (Z1x.1 h2).1, fun u1 h1 u2 h2 => h.ds u1 (Z1x.1 h1).1 u2 (Z1x.1 h2).1, fun u1 h1 k x d1 e => ?_, fun u1 h1 u2 h2 => h.ks u1 (Z1x.1 h1).1 u2 (Z1x.1 h2).1⟩
 ·rw [Zo2]
  by_cases e : o.dst = some t
  ·have := hdst t e;rw [ht] at this; cases this;exact ⟨v, by rw [if_pos ⟨e, by rw [h.nt]; exact Zrr hdk e⟩], hv⟩
  ·rw [if_neg (fun hh => e hh.1)];obtain ⟨v', h1, h2⟩ := h.env t d0 ht fun u' hu' o' ho' => by
    by_cases e' : u'.1 = i
    ·rw [e', ho] at ho'; cases ho'; exact e
    ·exact hun u' (Z1x.2 ⟨hu', e'⟩) o' ho'
   exact ⟨v', h1, hst.vr h.hr h2⟩
 ·obtain ⟨d2, h2⟩ := hval u1 (Z1x.1 h1).1;rw [h2] at e; cases e
theorem Z25n {t : Nat} {listed : Array Bool} : ∀ {fuel : Nat}, Region.ready .any ops listed = [] -> Region.linearise.go .any ops fuel t listed [] = []
 | 0, _ => rfl
 | fuel + 1, h => by
  simp only [Region.linearise.go]
  change (match (Region.ready .any ops listed)[t % (Region.ready .any ops listed).length]? with
   | some i => Region.linearise.go .any ops fuel (t / (Region.ready .any ops listed).length) (listed.setIfInBounds i true) [i]
   | none => [].reverse) = []
  rw [h];rfl
theorem Z1zb (hT : TOK P T) (hE : ∀ (i : Nat) (o : Oper), ops[i]? = some o -> ∀ e ∈ ons o, e < i) {iL : Nat} {oL : Oper} (hoL : ops[iL]? = some oL) (hgL : oL.guard = none) (hdL : Z36 s.nt oL.dst = true)
  (hop : OpG P oL (s.only (oL.looksAt ops)) (fun d H' => Q .normal (s.step oL.dst d H' s.dfs))) :
  ∀ (fuel t : Nat) (und : List (Nat × PK)), und.length + 1 <= fuel -> (∀ u ∈ und, (∃ d, u.2 = .val d) /\ u.1 ∈ ons oL /\ ∀ o, ops[u.1]? = some o -> Z21c o.op = true /\ o.guard = none) ->
   (∀ u ∈ und, ∀ o' t, ops[u.1]? = some o' -> o'.dst = some t -> t ∈ oL.looksAt ops -> u.1 ∈ ons oL) ->
   ∀ (F : Fz) (μ : Mu) (listed : Array Bool) (a : Act) (w : World) (O : Nat -> Prop), RD T 0 ops F μ s [iL] und listed a w -> VisW N cb w₀ F μ s.H O w -> ∀ (b : Frame) (k : List Item) (cs : List Frame), b.roundOf = none ->
    Gx P main N cb (ArrG N cb w₀ b k cs Q) O (b.atR a (.inRegion ops (Region.linearise.go .any ops fuel t listed []) :: k)) cs w
 | 0, _, _, hf, _, _, _, _, _, _, _, _, _, _, _, _, _, _ => absurd hf (by omega)
 | fuel + 1, t, und, hf, hk, hl, F, μ, listed, a, w, O, hrd, hv, b, k, cs, hb => by
  simp only [Region.linearise.go]
  change Gx P main N cb _ O (b.atR a (.inRegion ops (match (Region.ready .any ops listed)[t % (Region.ready .any ops listed).length]? with
   | some i => Region.linearise.go .any ops fuel (t / (Region.ready .any ops listed).length) (listed.setIfInBounds i true) [i]
   | none => [].reverse) :: k)) cs w
  have hne := hrd.progress hE ⟨iL, .inl (by simp)⟩;have hlt : t % (Region.ready .any ops listed).length < (Region.ready .any ops listed).length := Nat.mod_lt _ (List.length_pos_iff.2 hne);obtain ⟨j, hj⟩ : ∃ j, (Region.ready .any ops listed)[t % (Region.ready .any ops listed).length]? = some j := ⟨_, List.getElem?_eq_getElem hlt⟩;rw [hj];simp only [];rw [linearise_go_acc, List.reverse_singleton, List.singleton_append];have hjm := List.mem_of_getElem? hj;rcases hrd.open_of_ready hjm with hjL | ⟨u, hu, rfl⟩
  ·obtain rfl : j = iL := by simpa using hjL
   have hund : und = [] := by
    cases und with
    | nil => rfl
    | cons u us => exact (hrd.pre hoL hjm u.1 (hk u (by simp)).2.1 (.inr ⟨u, by simp, rfl⟩)).elim
   subst hund;have er := hrd.er hoL hjm (fun u' hu' o' t h1 h2 h3 => hl u' hu' o' t h1 h2 h3);refine Z24e (s := s.only (oL.looksAt ops)) hoL (by simp [Region.wanted, hgL]) hb hrd.hr er hv hop fun w₁ d v H' μ' w' hr hst hvr hq hv2 => ?_;have hrd1 := hrd.rl hv hr;have hrd2 := hrd1.eff rfl hdL (o := oL) (ds := s.dfs) hst (hst.adr hrd1.hr hrd1.dfs) hvr (fun u hu => by simp at hu);have hnil : Region.ready .any ops (listed.setIfInBounds j true) = [] := by
    cases hr : Region.ready .any ops (listed.setIfInBounds j true) with
    | nil => rfl
    | cons x xs =>
     have := hrd2.open_of_ready (i := x) (by rw [hr]; simp);simp at this
   rw [Z25n hnil];have he : ({ a with defers := a.defers } : Act) = a := rfl;rw [he] at hrd2;exact Z1y2 (fun b hb => (hv2.ge b hb).2) (fun _ => Z1vj) fun w₂ hr2 => Z22w (x := .normal) (e := .normal) (s := s.step oL.dst d H' s.dfs)
    (RL.rl (s := s.step oL.dst d H' s.dfs) ⟨hrd2.hr, ⟨fun t d ht => hrd2.env t d ht (fun u hu => by simp at hu), hrd2.nt, hrd2.dfs⟩, Nat.zero_le _⟩ hv2 hr2) (hv2.rl hr2) trivial hq rfl
  ·obtain ⟨⟨d, hd⟩, hon, hkk⟩ := hk u hu;obtain ⟨i, pk⟩ := u;simp only at hd hjm hkk;subst hd;obtain ⟨o, ho, hdk, hdst, hm⟩ := (hrd.ok _ hu).out;simp only at ho hm hdst;obtain ⟨hkp, hgu⟩ := hkk o ho;have er := hrd.er ho hjm (fun u' hu' o' t h1 h2 h3 => hrd.cl _ hu u' hu' o o' t ho h1 h2 h3);have hya : Z1q ar T (s.only (o.looksAt ops)) (fun x => x = d) o.op := by
    unfold Z9i Zh at hm; rw [hgu] at hm; exact hm
   refine Z24e (s := s.only (o.looksAt ops)) ho (by simp [Region.wanted, hgu]) hb hrd.hr er hv (Z22x (K := fun x H => x = d /\ H = s.H) hT (Z25m hkp _) (by have e : (fun x => x = d /\ (s.only (o.looksAt ops)).H = s.H) = (fun x => x = d) := (by funext x; simp [St.only]); rw [e]; exact hya)) fun w₁ d' v H' μ' w' hr hst hvr hq hv2 => ?_;obtain ⟨rfl, rfl⟩ := hq;have hrd1 := hrd.rl hv hr;have hrd2 := hrd1.dropV hu (fun u hu => (hk u hu).1) ho hst hvr;have hnd := hrd.nd;rw [List.nodup_append] at hnd;have hlen := Z6k hnd.2.1 (List.mem_map.2 ⟨_, hu, rfl⟩);simp only at hlen;exact Z1zb hT hE hoL hgL hdL hop fuel _ (Z3p und i) (by omega) (fun u hu => hk u (Z1x.1 hu).1) (fun u hu => hl u (Z1x.1 hu).1) F μ' _ _ w' _ hrd2 hv2 b k cs hb
inductive DrawG (P : Program) (T : TT) (ops : Array Oper) (Q : AX -> St -> Prop) : List Nat -> List (Nat × PK) -> St -> Prop
 | last {i : Nat} {pend : List (Nat × PK)} {s : St} {o : Oper} (ho : ops[i]? = some o) (hg : o.guard = none) (hd : Z36 s.nt o.dst = true) (hl : LooksOk ops o pend) (hon : ∀ u ∈ pend, u.1 ∈ ons o)
   (hop : OpG P o (s.only (o.looksAt ops)) (fun d H' => Q .normal (s.step o.dst d H' s.dfs))) : DrawG P T ops Q [i] pend s
 | val {i : Nat} {L : List Nat} {pend : List (Nat × PK)} {s : St} {o : Oper} {d : D} (ho : ops[i]? = some o) (hg : o.guard = none) (hk : Z21c o.op = true) (hd : Z36 s.nt o.dst = true) (hl : LooksOk ops o pend) (hw : WritesOk ops o pend) (hs : ∀ t, o.dst = some t -> t ∉ o.looksAt ops)
   (hy : Z1q ar T (s.only (o.looksAt ops)) (fun x => x = d) o.op) (h : DrawG P T ops Q L ((i, .val d) :: pend) (s.step o.dst d s.H s.dfs)) : DrawG P T ops Q (i :: L) pend s
theorem Z21d (hT : TOK P T) (hE : ∀ (i : Nat) (o : Oper), ops[i]? = some o -> ∀ e ∈ ons o, e < i) {L : List Nat} {pend : List (Nat × PK)} {s : St} (hD : DrawG P T ops Q L pend s) :
  (∀ u ∈ pend, (∃ d, u.2 = .val d) /\ ∀ o, ops[u.1]? = some o -> Z21c o.op = true /\ o.guard = none) ->
  ∀ (F : Fz) (μ : Mu) (listed : Array Bool) (a : Act) (w : World) (O : Nat -> Prop), RD T 0 ops F μ s L pend listed a w -> VisW N cb w₀ F μ s.H O w -> ∀ (b : Frame) (k : List Item) (cs : List Frame) (t : Nat), b.roundOf = none ->
   Gx P main N cb (ArrG N cb w₀ b k cs Q) O (b.atR a (.inRegion ops (Region.linearise.go .any ops (L.length + pend.length) t listed []) :: k)) cs w := by
 induction hD with
 | @last i pend s o ho hg hd hl hon hop =>
  intro hp F μ listed a w O hrd hv b k cs t hb;exact Z1zb hT hE ho hg hd hop _ t pend (by simp; omega) (fun u hu => ⟨(hp u hu).1, hon u hu, (hp u hu).2⟩) (fun u hu o' t _ _ _ => hon u hu) F μ listed a w O hrd hv b k cs hb
 | @val i L pend s o d ho hg hk hd hl hw hs hy _ ih =>
  intro hp F μ listed a w O hrd hv b k cs t hb;have hyy : Z9i ar T ops (s.only (o.looksAt ops)) o (fun x => x = d) := by unfold Z9i Zh; rw [hg]; exact hy
  have := ih (fun u hu => by
   rcases List.mem_cons.1 hu with rfl | hu
   ·exact ⟨⟨d, rfl⟩, fun o' ho' => by simp only at ho'; rw [ho] at ho'; cases ho'; exact ⟨hk, hg⟩⟩
   ·exact hp u hu) F μ listed a w O (hrd.more rfl ho (fun u hu => hu) hl hw hs hrd.hr (fun _ _ e => e) hrd.len (fun u hu => by
    rcases List.mem_cons.1 hu with rfl | hu
    ·refine ⟨o, ho, hd, fun t ht => ?_, ?_⟩
     ·show Z1c (Z9c s.env o.dst d) t = _
      rw [Z5o, if_pos ht]; rfl
     ·show Z9i ar T ops ((s.step o.dst d s.H s.dfs).only (o.looksAt ops)) o _
      rw [Zgy hs]; exact hyy
    ·exact Zul (fun o' t h1 h2 => hw.out u hu o' t h1 h2) (hrd.ok u hu)) (fun k x d e => by cases e) (fun k x d e => by cases e)) hv b k cs t hb
  rw [List.length_cons] at this;rw [List.length_cons, show L.length + 1 + pend.length = L.length + (pend.length + 1) by omega];exact this
def vcDG (A : Ar) (T : TT) (ops : Array Oper) (Kend : St -> Prop) : List Nat -> List (Nat × PK) -> St -> Prop
 | [], _, _ => False
 | i :: L, pend, s =>
  match ops[i]? with
  | none => False
  | some o =>
   match Z36 s.nt o.dst, Z4s ops o pend, o.guard, L with
   | true, true, none, [] => (match allB (fun j => Z7a (ons o) j) (pend.map (·.1)), isSt (s.only (o.looksAt ops)) o.op with
    | true, true => wA A T (s.only (o.looksAt ops)) (fun _ H' => Kend (s.step o.dst (.tup []) H' s.dfs)) o.op
    | _, _ => False)
   | true, true, none, j :: L' => (match Z21c o.op, Z2l ops o pend, Zdz ops o, Zo1 (s.only (o.looksAt ops)) o.op with
    | true, true, true, true => Z1q A T (s.only (o.looksAt ops)) (fun d => vcDG A T ops Kend (j :: L') ((i, .val d) :: pend) (s.step o.dst d s.H s.dfs)) o.op
    | _, _, _, _ => False)
   | _, _, _, _ => False
theorem Z1zc (hT : TOK P T) : ∀ (L : List Nat) (pend : List (Nat × PK)) (s : St), vcDG ar T ops (Q .normal) L pend s -> DrawG P T ops Q L pend s
 | [], _, _, h => h.elim
 | i :: L, pend, s, h => by
  unfold vcDG at h
  split at h
  ·exact h.elim
  ·rename_i o ho
   split at h
   ·rename_i h1 h2 h3
    split at h
    ·rename_i g1 g2
     have g1' := Z70.1 g1
     cases hop : o.op <;> first | (rw [hop] at g2; cases g2; done) | skip
     rw [hop] at g2;exact .last ho h3 h1 (Z23 h2) (fun u hu => (Z3w _ _).1 (g1' u.1 (List.mem_map.2 ⟨u, hu, rfl⟩))) (Z206 (K := fun d H' => Q .normal (s.step o.dst d H' s.dfs)) hT hop g2 h)
    ·exact h.elim
   ·rename_i j L' h1 h2 h3
    split at h
    ·rename_i g1 g2 g3 g4
     obtain ⟨d, hk, hy⟩ := Zk4 g4 h;exact .val ho h3 g1 h1 (Z23 h2) (Z1t g2) (Z3s g3) hy (Z1zc hT (j :: L') _ _ hk)
    ·exact h.elim
   ·exact h.elim
theorem Z24f (hT : TOK P T) {id : Nat} (L : List Nat) (hE : Zim ops = true) (hL : Zh0 ops.size L = true) (h : ∀ A, A = ar -> vcDG A T ops (Q .normal) L [] s) : WpG P main N cb w₀ (.region id ops true) Q s := by
 refine ⟨fun F μ a w O h1 hv b k cs hb => ?_⟩;simp only [Zh0, Bool.and_eq_true] at hL;obtain ⟨l1, l2, l4, l3⟩ := hL;have l1 := Nat.eq_of_beq_eq_true l1;have l3 := Zfh l3;have hmem : ∀ i, i ∈ L ↔ i < ops.size := fun i => by
  constructor
  ·intro hi; exact Nat.le_of_ble_eq_true (Z70.1 l2 i hi)
  ·intro hi; exact (Z3w L i).1 (Z70.1 l4 i (List.mem_range.2 hi))
 refine .step fun w₁ hr => ⟨_, cs, _, #[], O, Z1x5, ⟨rfl, rfl, rfl, Nat.le_refl _, fun _ _ _ => rfl, fun _ h => h, fun _ h => .inl h⟩, .nil, ?_⟩;simp only [Region.schedule, hT.mixed, Bool.true_or, if_true];have h1' := h1.rl hv hr;have hv' : VisW N cb w₀ F μ s.H O (w₁.at (w₁.drawn + 1)) := by
  have := hv.rl hr;exact ⟨this.n, this.cbN, this.ge, this.own, this.frz, this.base.trans (Rl.at _ _)⟩
 have hrd : RD T 0 ops F μ s L [] (Array.replicate ops.size false) a (w₁.at (w₁.drawn + 1)) := by
  refine ⟨h1'.hr.congr rfl, fun t d ht _ => h1.er.env t d ht, h1.er.nt, h1.er.dfs, h1.len, by simp, fun i => ?_, by simpa using l3, fun u hu => by simp at hu, fun u hu => by simp at hu, fun u hu => by simp at hu, fun u hu => by simp at hu, fun u hu => by simp at hu⟩;rw [hmem i, Array.getElem?_replicate];simp
 have := Z21d (main := main) (N := N) (cb := cb) (w₀ := w₀) hT (Zin hE) (Z1zc hT L [] s (h _ rfl)) (fun u hu => by simp at hu) F μ _ a _ O hrd hv' b k cs (w₁.tape w₁.drawn (.order b.fn id)) hb;rw [List.length_nil, Nat.add_zero, l1] at this;exact this
end
end Go.Abs

/- Part TxAY of the proofs about the benches of the accordion maker: see the last text of the claim for what is proved. -/
import Derived.Conc.TokenTrace
import Derived.Conc.Script
import Derived.Conc.CrowdComm
import Derived.Test.YtggilmnhgjofiaaGreatTxAX
import Derived.Test.YtggilmnhgjofiaaGreatTxAL
import Derived.Test.YtggilmnhgjofiaaGreatTxAD
set_option linter.unusedVariables false
set_option linter.unusedSimpArgs false
set_option linter.unnecessarySimpa false
set_option linter.constructorNameAsVariable false

namespace Go.Abs
open Go Go.Conc
def Z215 : BinOp -> Bool
 | .shl | .shr => false
 | _ => true
def Z216 (s : St) : Op -> Bool
 | .move _ | .assign _ | .extract _ _ | .fieldAddr _ _ _ | .indexAddr _ _ _ | .load _ _ | .alloc _ | .store _ _ _ => true
 | .binOp op _ x y _ => Z215 op && (match evo s.env x, evo s.env y with | some (.v (.int _ _)), some (.v (.int _ _)) => true | some (.agg _), some (.agg _) => true | _, _ => false)
 | .call { callee := .builtin .len, .. } => true
 | .call { callee := .builtin .max, .. } => true
 | _ => false
section
variable {P : Program} {T : TT} {F : Fz} {μ : Mu} {w : World} {K : D -> Prop} {B : Touch -> Prop}
theorem Z23g {op : BinOp} {t : TypeId} {k k' : IntKind} {x y : Int} (h : Z215 op = true) : NoEv (binOp op t (.int k x) (.int k' y)) := by
 unfold binOp
 cases op <;> first
  | (cases h; done)
  | (dsimp only; split <;> first | exact trivial | exact Z1v8 _ _ _ _ | exact Z1wd _ _ _ _ | exact Z1vo _ _ _ _ | exact Z1w2 _ _ _)
theorem Z23h {op : BinOp} {t : TypeId} {xs ys : Array Value} (hx : Z204 (.agg xs)) (hy : Z204 (.agg ys)) : NoEv (binOp op t (.agg xs) (.agg ys)) := by
 unfold binOp
 cases op <;> first | exact trivial | exact NoEv.bind (Z1z6 _ _ _ _ hx hy) fun _ => trivial
theorem Z1z8 {op : BinOp} {t : TypeId} {x y : Operand} {a b : Value} (h : (∃ k n, a = .int k n) ∨ (P.eqGuardType P.depth t = false /\ ∃ as bs, a = .agg as /\ b = .agg bs)) : Ev P B (eqGuard op t x y a b) w := by
  unfold eqGuard
  rcases h with ⟨k, n, rfl⟩ | ⟨h, as, bs, rfl, rfl⟩
  · refine NoEv.ev ?_
    cases op <;> exact trivial
  · cases op <;> dsimp only <;> simp only [Bool.not_true, Bool.not_false, if_true, if_false, Bool.false_eq_true]
    all_goals first
      | (refine NoEv.ev ?_; exact trivial)
      | (refine Ev.bind (NoEv.ev Z1tf) fun p w' hr => Ev.bind (NoEv.ev Z1tf) fun p2 w2 hr2 => ?_
         cases hr; cases hr2
         rw [h]
         refine NoEv.ev ?_
         exact trivial)
theorem Z22t (l : List Int) : Z204 (.agg (l.map (Value.int .i64)).toArray) := .inr ⟨_, rfl, fun x hx => by
 obtain ⟨n, -, rfl⟩ := List.mem_map.1 (by simpa using hx : x ∈ l.map (Value.int .i64))
 exact ⟨_, _, rfl⟩⟩
theorem Z25k (hT : TOK P T) {s : St} {a : Act} (hr : HR F μ s.H w) (h : ER F μ s a) {o : Oper} (hg : Z216 s o.op = true) (hk : Z1q ar T s K o.op) : Ev P (Bt F μ s.H) (execOp a.eval o) w := by
 obtain ⟨dst, op, type, pos, after, guard⟩ := o;simp only at hk hg
 cases op <;> try (exact hk.elim)
 all_goals first | (cases hg; done) | skip
 case move x => exact Ev.pure _
 case assign x => exact Ev.pure _
 case extract x i => exact Ev.value (Z1v6 _ _).ev
 case indexAddr t x i => exact Ev.value (Z1v1 _ _ _).ev
 case load t x =>
  simp only [Z1q] at hk
  split at hk
  ·rename_i e d he hd
   exact Ev.value (Z27l hT he hr (h.evo hd) hk)
  ·exact hk.elim
 case fieldAddr t x f =>
  simp only [Z1q] at hk
  split at hk
  ·rename_i d hd
   have hv := h.evo hd;unfold Zlq at hk
   split at hk
   ·rename_i e he
    split at hk
    ·rename_i off size agg hf
     split at hk
     ·exact hk.elim
     ·rename_i n
      obtain ⟨fs, fl, h1, h2, rfl, h4, -⟩ := Zlv hT he hf;obtain ⟨d, ad, hvx, -, -⟩ := Zi8 hv hk;refine Ev.value ?_;simp only [hvx];unfold Instr.fieldAt;refine (Z1t8 t).ev.bind fun d' w' hr => ?_;rw [run_underlying h1 w] at hr
      cases hr
      dsimp only;rw [h2];dsimp only;refine (Z1um _).ev.bind fun a' w' hr => ?_
      cases hr
      refine Ev.bind ?_ fun _ _ _ => .pure _;unfold fieldPlace;refine (Z1to _).ev.bind fun n' w' hr => ?_;rw [run_sizeOf h4] at hr
      cases hr
      exact NoEv.ev (by exact trivial)
    ·exact hk.elim
   ·exact hk.elim
  ·exact hk.elim
 case binOp op t x y ty =>
  simp only [Z1q] at hk;simp only [Z216, Bool.and_eq_true] at hg;obtain ⟨g1, g2⟩ := hg
  split at hk
  ·rename_i h1 h2
   rw [h1, h2] at g2
   cases g2
  ·rename_i d1 d2 hno h1 h2
   rw [h1, h2] at g2;refine Ev.value ?_
   split at g2
   ·rename_i k n k' n' e1 e2
    cases e1; cases e2
    have v1 := (h.evo h1).v_inv;have v2 := (h.evo h2).v_inv;rw [v1, v2];exact Ev.bind (Z1z8 (.inl ⟨_, _, rfl⟩)) fun _ _ _ => (Z23g g1).ev
   ·rename_i xs ys e1 e2
    cases e1; cases e2
    have v1 := h.evo h1;have v2 := h.evo h2;simp only [Zbd] at hk
    split at hk
    ·rename_i e he
     split at hk
     ·rename_i n hf ha
      obtain ⟨as, bs, rfl, rfl, -⟩ := hk.out;rw [Z97 v1, Z97 v2];exact Ev.bind (Z1z8 (.inr ⟨(Zef hT he hf).1, _, _, rfl, rfl⟩)) fun _ _ _ => (Z23h (Z22t _) (Z22t _)).ev
     ·exact hk.elim
    ·exact hk.elim
   ·cases g2
  ·exact hk.elim
 case call c =>
  obtain ⟨callee, args, argTypes⟩ := c
  cases callee with
  | value f => exact hk.elim
  | invoke r m => exact hk.elim
  | builtin b =>
   have bi : ∀ {x : Sem Value}, Ev P (Bt F μ s.H) x w -> (∀ cc, builtin b argTypes type cc (args.map a.eval) = (do pure (.value (<- x)))) ->
     Ev P (Bt F μ s.H) (execOp a.eval ⟨dst, .call { callee := .builtin b, args, argTypes }, type, pos, after, guard⟩) w := fun {x} hx he => by
    have : execOp a.eval ⟨dst, .call { callee := .builtin b, args, argTypes }, type, pos, after, guard⟩ = (do pure (.value (<- x))) := by rw [<- he]; rfl
    rw [this]; exact Ev.value hx
   cases b <;> first | (cases hg; done) | (exact hk.elim) | skip
   case len =>
    simp only [Z1q] at hk;obtain ⟨args⟩ := args;obtain ⟨argTypes⟩ := argTypes;simp only at hk
    split at hk
    ·rename_i x t
     split at hk
     ·rename_i d hd
      refine bi (x := Builtin.len_ #[t] type #[a.eval x]) ?_ (fun _ => by simp [builtin]);have hv := h.evo hd;unfold Zly at hk
      split at hk
      ·rename_i e he
       obtain ⟨d', hd', hkc, -⟩ := Z1e hT he;have sl : e.kc = 3 -> ∃ e', d' = .slice e' := fun hk => by rw [hk] at hkc; cases d' <;> simp [Zaw] at hkc; exact ⟨_, rfl⟩
       have go : ∀ {e' : TypeId} {ad : Option Addr} {n c : Nat}, d' = .slice e' -> a.eval x = .slice ad n c -> Ev P (Bt F μ s.H) (Builtin.len_ #[t] type #[a.eval x]) w := fun hde hva => by
        subst hde;rw [hva];unfold Builtin.len_;refine (Z1t8 t).ev.bind fun d2 w' hr => ?_;rw [run_underlying hd' w] at hr
        cases hr
        exact NoEv.ev (by exact trivial)
       split at hk
       ·rename_i hk3
        obtain ⟨e', he'⟩ := sl hk3;obtain ⟨ad, c, hva, -⟩ := hv.sl_inv;exact go he' hva
       ·rename_i hk3
        obtain ⟨e', he'⟩ := sl hk3;obtain ⟨ad, c, hva, -⟩ := hv.o_inv;exact go he' hva
       ·rename_i hk3
        obtain ⟨e', he'⟩ := sl hk3;exact go he' hv.v_inv
       ·rename_i st hk2
        obtain rfl : d' = .string := by rw [hk2] at hkc; cases d' <;> simp [Zaw] at hkc <;> rfl
        rw [hv.v_inv];unfold Builtin.len_;refine (Z1t8 t).ev.bind fun d2 w' hr => ?_;rw [run_underlying hd' w] at hr
        cases hr
        exact NoEv.ev (by exact trivial)
       ·exact hk.elim
      ·exact hk.elim
     ·exact hk.elim
    ·exact hk.elim
   case max => exact bi (x := Builtin.max_ argTypes type (args.map a.eval)) (Z246 _ _ _).ev (fun _ => rfl)
end
end Go.Abs

namespace Go.Abs
open Go Go.Conc
def OwnT (N : Nat) (O : Nat -> Prop) (x : Touch) : Prop := (∃ a, x.loc = .cell a /\ (O a.block ∨ (a.block < N /\ x.write = false))) ∨ (∃ r, x.loc = .obj r /\ x.kind = .atomic)
theorem OwnT.mono {N : Nat} {O O' : Nat -> Prop} {x : Touch} (h : OwnT N O x) (ho : ∀ b, O b -> O' b) : OwnT N O' x := h.imp (fun ⟨a, h1, h2⟩ => ⟨a, h1, h2.imp (ho _) id⟩) id
theorem OwnT.apart {N : Nat} {Oa Ob : Nat -> Prop} {x y : Touch} {said : Bool} (hx : OwnT N Oa x) (hy : OwnT N Ob y) (hd : ∀ b, Oa b -> ¬ Ob b) (ha : ∀ b, Oa b -> N <= b) (hb : ∀ b, Ob b -> N <= b) : ¬ x.conflicts said y := by
 rintro ⟨hl, -, hw, hk⟩;rcases hx with ⟨a, h1, h2⟩ | ⟨r, h1, h2⟩ <;> rcases hy with ⟨a', k1, k2⟩ | ⟨r', k1, k2⟩
 ·rw [h1, k1] at hl;have e : a = a' := Loc.cell.inj hl;subst e;rcases h2 with h2 | ⟨h2, h3⟩ <;> rcases k2 with k2 | ⟨k2, k3⟩
  ·exact hd _ h2 k2
  ·have := ha _ h2; omega
  ·have := hb _ k2; omega
  ·rw [h3, k3] at hw; simp at hw
 ·rw [h1, k1] at hl; cases hl
 ·rw [h1, k1] at hl; cases hl
 ·rw [h2, k2] at hk; simp at hk
theorem Z1xa {x y : Touch} {said : Bool} (h : x.conflicts said y) : y.conflicts said x := by
 obtain ⟨h1, h2, h3, h4⟩ := h;refine ⟨h1.symm, h1 ▸ h2, h3.symm, ?_⟩;rcases h4 with h | h | ⟨h, h', h''⟩
 ·exact .inr (.inl h)
 ·exact .inl h
 ·exact .inr (.inr ⟨h, h'', h'⟩)
def EvO (N : Nat) (O : Nat -> Prop) (es : Array Event) : Prop := Z1uv es /\ ∀ e ∈ es, ∀ x, (MemAct.ofEvent e).touch? = some x -> OwnT N O x
structure PhT (N c : Nat) (Oa Ob : Nat -> Prop) (t : Trace) : Prop where
 clean : ∀ said, ¬ Race said t
 kn0 : ∀ i x, touchAt t i = some x -> x.loc.isMemory = true -> Knows t 0 i ∨ (t.g? i = some c /\ OwnT N Ob x)
 knc : ∀ i x, touchAt t i = some x -> x.loc.isMemory = true -> Knows t c i ∨ (t.g? i = some 0 /\ OwnT N Oa x)
 over : ∀ i g, t.g? i = some g -> g ≠ 0 -> g ≠ c -> t.counts i -> ∃ j, t.g? j = some 0 /\ HappensBefore t i j
 h0 : Deaf t 0 = 0
 hc : Deaf t c = 0
 seen : ∃ B, ∀ op ∈ t, op.act.low B
section
variable {N c : Nat} {Oa Ob : Nat -> Prop} {t u : Trace}
theorem Z22u : ∀ (l : List MemOp), ∃ B, ∀ op ∈ l, op.act.low B
 | [] => ⟨0, fun e h => by cases h⟩
 | e :: l => by
  obtain ⟨B, hB⟩ := Z22u l;obtain ⟨C, hC⟩ := Z20w e.act;exact ⟨B + C, fun x hx => by
   rcases List.mem_cons.1 hx with rfl | hx
   ·exact MemAct.low_mono (Nat.le_add_left _ _) hC
   ·exact MemAct.low_mono (Nat.le_add_right _ _) (hB x hx)⟩
theorem Z1xd (h : ∃ B, ∀ op ∈ t, op.act.low B) : ∃ B, ∀ op ∈ t ++ u, op.act.low B := by
 obtain ⟨B, hB⟩ := h;obtain ⟨C, hC⟩ := Z22u u.toList;exact ⟨B + C, fun op hop => (Array.mem_append.1 hop).elim (fun h => MemAct.low_mono (Nat.le_add_right _ _) (hB op h)) fun h => MemAct.low_mono (Nat.le_add_left _ _) (hC op (by simpa using h))⟩
theorem Z1wl {p : Nat -> Prop} (h : ∀ i g, t.g? i = some g -> p g -> t.counts i -> ∃ j, t.g? j = some 0 /\ HappensBefore t i j) (hu : ∀ op ∈ u, ¬ p op.g ∨ op.act.touch? = none) :
  ∀ i g, (t ++ u).g? i = some g -> p g -> (t ++ u).counts i -> ∃ j, (t ++ u).g? j = some 0 /\ HappensBefore (t ++ u) i j := by
 intro i g hg hp hc;obtain ⟨x, hx, _⟩ := id hc;obtain ⟨op, hop, hox⟩ := touch_of hx;rcases getElem?_append_cases hop with ⟨hi, hop'⟩ | ⟨_, hopu⟩
 ·obtain ⟨j, hj, hb⟩ := h i g (by simpa [Trace.g?, getElem?_append_old hi] using hg) hp ((counts_old hi).1 hc);have hjl : j < t.size := by
   unfold Trace.g? at hj;obtain ⟨z, hz, _⟩ := Option.map_eq_some_iff.1 hj;exact lt_size_of_getElem? hz
  exact ⟨j, by simpa [Trace.g?, getElem?_append_old hjl] using hj, hb_app u hb⟩
 ·have e : op.g = g := by simpa [Trace.g?, hop] using hg
  rcases hu op hopu with h0 | h0
  ·exact absurd (e ▸ hp) h0
  ·rw [h0] at hox; cases hox
theorem Z1y0 {i : Nat} {op : MemOp} (h : t[i]? = some op) : t.g? i = some op.g := by simp [Trace.g?, h]
theorem PhT.add0 (h : PhT N c Oa Ob t) {Oa' : Nat -> Prop} (ho : ∀ b, Oa b -> Oa' b) (hd : ∀ b, Oa' b -> ¬ Ob b) (ha : ∀ b, Oa' b -> N <= b) (hb : ∀ b, Ob b -> N <= b) (hc0 : c ≠ 0) {fn : FuncId} {pos : String} {es : Array Event} (he : EvO N Oa' es) :
  PhT N c Oa' Ob (t ++ MemOp.ofEvents 0 fn pos es) := by
 have hu : ∀ op ∈ MemOp.ofEvents 0 fn pos es, op.g = 0 := fun op hop => by obtain ⟨e, _, rfl⟩ := Go.Conc.mem_ofEvents hop; rfl
 have ht : ∀ op ∈ MemOp.ofEvents 0 fn pos es, ∀ x, op.act.touch? = some x -> OwnT N Oa' x := fun op hop x hx => by obtain ⟨e, h1, rfl⟩ := Go.Conc.mem_ofEvents hop; exact he.2 e h1 x hx
 refine ⟨fun said => noRace_append (h.clean said) hu fun i a ha' op hop b hb' hcf => ?_, fun i x hx hm => ?_, fun i x hx hm => ?_, ?_, ?_, (Deaf_other t (Ne.symm hc0) _ hu).trans h.hc, Z1xd h.seen⟩
 ·rcases h.kn0 i a ha' hcf.2.1 with hk | ⟨-, hk⟩
  ·exact hk
  ·exact absurd (Z1xa hcf) (OwnT.apart (ht op hop b hb') hk hd ha hb)
 ·obtain ⟨y, hy, hyx⟩ := touch_of hx;rcases getElem?_append_cases hy with ⟨hi, hy'⟩ | ⟨_, hyu⟩
  ·exact (h.kn0 i x (by rw [touchAt_of hy']; exact hyx) hm).imp (·.app _) fun k => ⟨by rw [g?_old hi]; exact k.1, k.2⟩
  ·have := knows_own hy;rw [hu y hyu] at this;exact .inl this
 ·obtain ⟨y, hy, hyx⟩ := touch_of hx;rcases getElem?_append_cases hy with ⟨hi, hy'⟩ | ⟨_, hyu⟩
  ·exact (h.knc i x (by rw [touchAt_of hy']; exact hyx) hm).imp (·.app _) fun k => ⟨by rw [g?_old hi]; exact k.1, k.2.mono ho⟩
  ·exact .inr ⟨by rw [Z1y0 hy, hu y hyu], ht y hyu x hyx⟩
 ·have := Z1wl (p := fun g => g ≠ 0 /\ g ≠ c) (u := MemOp.ofEvents 0 fn pos es) (fun i g h1 h2 => h.over i g h1 h2.1 h2.2) fun op hop => .inl fun hp => hp.1 (hu op hop);exact fun i g h1 h2 h3 => this i g h1 ⟨h2, h3⟩
 ·rw [Deaf_own, h.h0];exact deafBehind_still he.1 0
theorem PhT.addc (h : PhT N c Oa Ob t) {Ob' : Nat -> Prop} (ho : ∀ b, Ob b -> Ob' b) (hd : ∀ b, Oa b -> ¬ Ob' b) (ha : ∀ b, Oa b -> N <= b) (hb : ∀ b, Ob' b -> N <= b) (hc0 : c ≠ 0) {fn : FuncId} {pos : String} {es : Array Event} (he : EvO N Ob' es) :
  PhT N c Oa Ob' (t ++ MemOp.ofEvents c fn pos es) := by
 have hu : ∀ op ∈ MemOp.ofEvents c fn pos es, op.g = c := fun op hop => by obtain ⟨e, _, rfl⟩ := Go.Conc.mem_ofEvents hop; rfl
 have ht : ∀ op ∈ MemOp.ofEvents c fn pos es, ∀ x, op.act.touch? = some x -> OwnT N Ob' x := fun op hop x hx => by obtain ⟨e, h1, rfl⟩ := Go.Conc.mem_ofEvents hop; exact he.2 e h1 x hx
 refine ⟨fun said => noRace_append (h.clean said) hu fun i a ha' op hop b hb' hcf => ?_, fun i x hx hm => ?_, fun i x hx hm => ?_, ?_, (Deaf_other t hc0 _ hu).trans h.h0, ?_, Z1xd h.seen⟩
 ·rcases h.knc i a ha' hcf.2.1 with hk | ⟨-, hk⟩
  ·exact hk
  ·exact absurd hcf (OwnT.apart hk (ht op hop b hb') hd ha hb)
 ·obtain ⟨y, hy, hyx⟩ := touch_of hx;rcases getElem?_append_cases hy with ⟨hi, hy'⟩ | ⟨_, hyu⟩
  ·exact (h.kn0 i x (by rw [touchAt_of hy']; exact hyx) hm).imp (·.app _) fun k => ⟨by rw [g?_old hi]; exact k.1, k.2.mono ho⟩
  ·exact .inr ⟨by rw [Z1y0 hy, hu y hyu], ht y hyu x hyx⟩
 ·obtain ⟨y, hy, hyx⟩ := touch_of hx;rcases getElem?_append_cases hy with ⟨hi, hy'⟩ | ⟨_, hyu⟩
  ·exact (h.knc i x (by rw [touchAt_of hy']; exact hyx) hm).imp (·.app _) fun k => ⟨by rw [g?_old hi]; exact k.1, k.2⟩
  ·have := knows_own hy;rw [hu y hyu] at this;exact .inl this
 ·have := Z1wl (p := fun g => g ≠ 0 /\ g ≠ c) (u := MemOp.ofEvents c fn pos es) (fun i g h1 h2 => h.over i g h1 h2.1 h2.2) fun op hop => .inl fun hp => hp.2 (hu op hop);exact fun i g h1 h2 h3 => this i g h1 ⟨h2, h3⟩
 ·rw [Deaf_own, h.hc];exact deafBehind_still he.1 0
theorem PhT.mute (h : PhT N c Oa Ob t) (hn : ∀ op ∈ u, op.act.touch? = none) (h0 : Deaf (t ++ u) 0 = 0) (hc : Deaf (t ++ u) c = 0) : PhT N c Oa Ob (t ++ u) := by
 refine ⟨fun said => noRace_appendMute (h.clean said) hn, fun i x hx hm => ?_, fun i x hx hm => ?_, ?_, h0, hc, Z1xd h.seen⟩
 ·obtain ⟨y, hy, hyx⟩ := touch_of hx;rcases getElem?_append_cases hy with ⟨hi, hy'⟩ | ⟨_, hyu⟩
  ·exact (h.kn0 i x (by rw [touchAt_of hy']; exact hyx) hm).imp (·.app _) fun k => ⟨by rw [g?_old hi]; exact k.1, k.2⟩
  ·rw [hn y hyu] at hyx; cases hyx
 ·obtain ⟨y, hy, hyx⟩ := touch_of hx;rcases getElem?_append_cases hy with ⟨hi, hy'⟩ | ⟨_, hyu⟩
  ·exact (h.knc i x (by rw [touchAt_of hy']; exact hyx) hm).imp (·.app _) fun k => ⟨by rw [g?_old hi]; exact k.1, k.2⟩
  ·rw [hn y hyu] at hyx; cases hyx
 ·have := Z1wl (p := fun g => g ≠ 0 /\ g ≠ c) (u := u) (fun i g h1 h2 => h.over i g h1 h2.1 h2.2) fun op hop => .inr (hn op hop);exact fun i g h1 h2 h3 => this i g h1 ⟨h2, h3⟩
structure PhC (N c cb m : Nat) (Oa Ob : Nat -> Prop) (t : Trace) : Prop where
 clean : ∀ said, ¬ Race said t
 kn0 : ∀ i x, touchAt t i = some x -> x.loc.isMemory = true -> Knows t 0 i ∨ (Before t i m /\ OwnT N Ob x)
 fin : ∀ i x, t.g? i = some c -> touchAt t i = some x -> Before t i m
 over : ∀ i g, t.g? i = some g -> g ≠ 0 -> g ≠ c -> t.counts i -> ∃ j, t.g? j = some 0 /\ HappensBefore t i j
 h0 : Deaf t 0 = 0
 seen : ∃ B, ∀ op ∈ t, op.act.low B
 at_ : t.act? m = some (.close cb)
 heard : t.heard m
theorem PhT.close (h : PhT N c Oa Ob t) {cb : Nat} {fn : FuncId} {pos : String} : PhC N c cb t.size Oa Ob (t ++ #[{ g := c, fn, pos, act := .close cb }]) := by
 have hlast : (t ++ #[({ g := c, fn, pos, act := .close cb } : MemOp)])[t.size]? = some { g := c, fn, pos, act := .close cb } := by simp
 have hn : ∀ op ∈ (#[{ g := c, fn, pos, act := .close cb }] : Trace), op.act.touch? = none := fun op hop => by simp at hop; subst hop; rfl
 have hq : ∀ g, Deaf (t ++ #[({ g := c, fn, pos, act := .close cb } : MemOp)]) g = Deaf t g := fun g => by rw [Deaf_push]; rfl
 have hm := h.mute hn ((hq 0).trans h.h0) ((hq c).trans h.hc);have before : ∀ i, (t ++ #[({ g := c, fn, pos, act := .close cb } : MemOp)]).g? i = some c -> Before (t ++ #[({ g := c, fn, pos, act := .close cb } : MemOp)]) i t.size := fun i hi => by
  obtain ⟨y, hy, hyg⟩ := Option.map_eq_some_iff.1 hi;have hlt := lt_size_of_getElem? hy;simp at hlt;rcases Nat.lt_or_ge i t.size with hi' | hi'
  ·exact .inr (hb_po hi' hy hlast hyg)
  ·exact .inl (by omega)
 refine ⟨hm.clean, fun i x hx hmm => (hm.kn0 i x hx hmm).imp id fun k => ⟨before i k.1, k.2⟩, fun i x hi hx => before i hi, hm.over, hm.h0, hm.seen, act?_of hlast, ⟨c, Z1y0 hlast, ?_⟩⟩;rw [deaf_old (Nat.le_refl _)];exact h.hc
theorem PhC.add0 {cb m : Nat} (h : PhC N c cb m Oa Ob t) {Oa' : Nat -> Prop} (hd : ∀ b, Oa' b -> ¬ Ob b) (ha : ∀ b, Oa' b -> N <= b) (hb : ∀ b, Ob b -> N <= b) (hc0 : c ≠ 0) {fn : FuncId} {pos : String} {es : Array Event} (he : EvO N Oa' es) :
  PhC N c cb m Oa' Ob (t ++ MemOp.ofEvents 0 fn pos es) := by
 have hu : ∀ op ∈ MemOp.ofEvents 0 fn pos es, op.g = 0 := fun op hop => by obtain ⟨e, _, rfl⟩ := Go.Conc.mem_ofEvents hop; rfl
 have ht : ∀ op ∈ MemOp.ofEvents 0 fn pos es, ∀ x, op.act.touch? = some x -> OwnT N Oa' x := fun op hop x hx => by obtain ⟨e, h1, rfl⟩ := Go.Conc.mem_ofEvents hop; exact he.2 e h1 x hx
 have hml := lt_of_act? h.at_;refine ⟨fun said => noRace_append (h.clean said) hu fun i a ha' op hop b hb' hcf => ?_, fun i x hx hm => ?_, fun i x hi hx => ?_, ?_, ?_, Z1xd h.seen, by rw [act?_old hml]; exact h.at_, (heard_old hml).2 h.heard⟩
 ·rcases h.kn0 i a ha' hcf.2.1 with hk | ⟨-, hk⟩
  ·exact hk
  ·exact absurd (Z1xa hcf) (OwnT.apart (ht op hop b hb') hk hd ha hb)
 ·obtain ⟨y, hy, hyx⟩ := touch_of hx;rcases getElem?_append_cases hy with ⟨hi, hy'⟩ | ⟨_, hyu⟩
  ·exact (h.kn0 i x (by rw [touchAt_of hy']; exact hyx) hm).imp (·.app _) fun k => ⟨k.1.app _, k.2⟩
  ·have := knows_own hy;rw [hu y hyu] at this;exact .inl this
 ·obtain ⟨y, hy, hyx⟩ := touch_of hx;rcases getElem?_append_cases hy with ⟨hi', hy'⟩ | ⟨_, hyu⟩
  ·exact (h.fin i x (by rw [<- g?_old hi']; exact hi) (by rw [touchAt_of hy']; exact hyx)).app _
  ·have := Z1y0 hy;rw [hi, hu y hyu] at this;exact absurd (Option.some.inj this) hc0
 ·have := Z1wl (p := fun g => g ≠ 0 /\ g ≠ c) (u := MemOp.ofEvents 0 fn pos es) (fun i g h1 h2 => h.over i g h1 h2.1 h2.2) fun op hop => .inl fun hp => hp.1 (hu op hop);exact fun i g h1 h2 h3 => this i g h1 ⟨h2, h3⟩
 ·rw [Deaf_own, h.h0];exact deafBehind_still he.1 0
theorem PhC.mute {cb m : Nat} (h : PhC N c cb m Oa Ob t) (hn : ∀ op ∈ u, op.act.touch? = none) (h0 : Deaf (t ++ u) 0 = 0) : PhC N c cb m Oa Ob (t ++ u) := by
 have hml := lt_of_act? h.at_;refine ⟨fun said => noRace_appendMute (h.clean said) hn, fun i x hx hm => ?_, fun i x hi hx => ?_, ?_, h0, Z1xd h.seen, by rw [act?_old hml]; exact h.at_, (heard_old hml).2 h.heard⟩
 ·obtain ⟨y, hy, hyx⟩ := touch_of hx;rcases getElem?_append_cases hy with ⟨hi, hy'⟩ | ⟨_, hyu⟩
  ·exact (h.kn0 i x (by rw [touchAt_of hy']; exact hyx) hm).imp (·.app _) fun k => ⟨k.1.app _, k.2⟩
  ·rw [hn y hyu] at hyx; cases hyx
 ·obtain ⟨y, hy, hyx⟩ := touch_of hx;rcases getElem?_append_cases hy with ⟨hi', hy'⟩ | ⟨_, hyu⟩
  ·exact (h.fin i x (by rw [<- g?_old hi']; exact hi) (by rw [touchAt_of hy']; exact hyx)).app _
  ·rw [hn y hyu] at hyx; cases hyx
 ·have := Z1wl (p := fun g => g ≠ 0 /\ g ≠ c) (u := u) (fun i g h1 h2 => h.over i g h1 h2.1 h2.2) fun op hop => .inr (hn op hop);exact fun i g h1 h2 h3 => this i g h1 ⟨h2, h3⟩
theorem PhC.found {cb m : Nat} (h : PhC N c cb m Oa Ob t) {fn : FuncId} {pos : String} : ∃ B, Past Z1x4 B (t ++ #[{ g := 0, fn, pos, act := .recvClosed cb }]) := by
 have hlast : (t ++ #[({ g := 0, fn, pos, act := .recvClosed cb } : MemOp)])[t.size]? = some { g := 0, fn, pos, act := .recvClosed cb } := by simp
 have hn : ∀ op ∈ (#[{ g := 0, fn, pos, act := .recvClosed cb }] : Trace), op.act.touch? = none := fun op hop => by simp at hop; subst hop; rfl
 have hq : Deaf (t ++ #[({ g := 0, fn, pos, act := .recvClosed cb } : MemOp)]) 0 = 0 := by rw [Deaf_push]; exact h.h0
 have hm := h.mute hn hq;have hml := lt_of_act? h.at_;have hhb : HappensBefore (t ++ #[({ g := 0, fn, pos, act := .recvClosed cb } : MemOp)]) m t.size := by
  refine .single (.inr ⟨.closed hm.at_ (act?_of hlast), hm.heard, ⟨0, Z1y0 hlast, ?_⟩⟩);rw [deaf_old (Nat.le_refl _)];exact h.h0
 have kn : ∀ i, Before (t ++ #[({ g := 0, fn, pos, act := .recvClosed cb } : MemOp)]) i m -> Knows (t ++ #[({ g := 0, fn, pos, act := .recvClosed cb } : MemOp)]) 0 i := fun i hi => ⟨t.size, _, hlast, rfl, .inr (hi.hb hhb)⟩;obtain ⟨B, hB⟩ := hm.seen;refine ⟨B, hm.clean, fun i x hx hmm => .inl ((hm.kn0 i x hx hmm).elim id fun k => kn i k.1), fun i g hg hne hcnt => ?_, hm.h0, hB⟩
 by_cases hgc : g = c
 ·subst hgc;obtain ⟨x, hx, _⟩ := id hcnt;exact ⟨t.size, Z1y0 hlast, (hm.fin i x hg hx).hb hhb⟩
 ·exact hm.over i g hg hne hgc hcnt
end
end Go.Abs

namespace Go.Abs
open Go Go.Conc
open Go.ConcN (sumTo upd sumTo_upd upd_ne upd_same)
theorem PhT.start {N c B : Nat} {t : Trace} (H : Past Z1x4 B t) (hc0 : Deaf t c = 0) (_hne : c ≠ 0) (fh : FuncId) (ph : String) (fc : FuncId) :
  PhT N c (fun _ => False) (fun _ => False) (t ++ #[{ g := 0, fn := fh, pos := ph, act := .go c }, { g := c, fn := fc, pos := ph, act := .start }]) := by
 generalize hu : (#[{ g := 0, fn := fh, pos := ph, act := .go c }, { g := c, fn := fc, pos := ph, act := .start }] : Trace) = u
 have hn : ∀ op ∈ u, op.act.touch? = none := by
  intro op hop;subst hu;simp only [List.mem_toArray, List.mem_cons, List.not_mem_nil, or_false] at hop;rcases hop with rfl | rfl <;> rfl
 have hq : ∀ g, ∀ op ∈ u, ∀ d, deafStep g d op = d := by
  intro g op hop d;subst hu;simp only [List.mem_toArray, List.mem_cons, List.not_mem_nil, or_false] at hop;rcases hop with rfl | rfl <;> rfl
 have e0 : (t ++ u)[t.size]? = some { g := 0, fn := fh, pos := ph, act := .go c } := by subst hu; simp
 have e1 : (t ++ u)[t.size + 1]? = some { g := c, fn := fc, pos := ph, act := .start } := by subst hu; simp
 have edge : HappensBefore (t ++ u) t.size (t.size + 1) :=
  Relation.TransGen.single (.inr ⟨.spawn (act?_of e0) (act?_of e1) (Z1y0 e1), ⟨0, Z1y0 e0, by rw [deaf_old (Nat.le_refl _)]; exact H.hears⟩, ⟨c, Z1y0 e1, by rw [deaf_quiet (hq c) 1 (by subst hu; simp)]; exact hc0⟩⟩)
 have hk : ∀ i x, touchAt t i = some x -> x.loc.isMemory = true -> Knows t 0 i := fun i x hx hm => (H.known i x hx hm).elim id fun k => k.1.elim;refine ⟨fun said => noRace_appendMute (H.clean said) hn, fun i a ha hm => ?_, fun i a ha hm => ?_, ?_, (Deaf_quiet (hq 0)).trans H.hears, (Deaf_quiet (hq c)).trans hc0, Z1xd ⟨B, H.seen⟩⟩
 ·obtain ⟨x, hx, hxa⟩ := touch_of ha;rcases getElem?_append_cases hx with ⟨_, hx'⟩ | ⟨_, hxu⟩
  ·exact .inl ((hk i a (by rw [touchAt_of hx']; exact hxa) hm).app _)
  ·rw [hn x hxu] at hxa; cases hxa
 ·obtain ⟨x, hx, hxa⟩ := touch_of ha;rcases getElem?_append_cases hx with ⟨_, hx'⟩ | ⟨_, hxu⟩
  ·exact .inl ⟨t.size + 1, _, e1, rfl, .inr (((hk i a (by rw [touchAt_of hx']; exact hxa) hm).hb_new (Nat.le_refl _) e0 rfl).trans edge)⟩
  ·rw [hn x hxu] at hxa; cases hxa
 ·have := Z1wl (p := fun g => g ≠ 0 /\ g ≠ c) (t := t) (u := u) (fun i g h1 h2 => H.over i g h1 h2.1) fun op hop => .inr (hn op hop);exact fun i g h1 h2 h3 => this i g h1 ⟨h2, h3⟩
structure Rl (N cb : Nat) (O : Nat -> Prop) (w w₁ : World) : Prop where
 tape : w₁.tape = w.tape
 os : w₁.os = w.os
 output : w₁.output = w.output
 size : w.heap.size <= w₁.heap.size
 old : ∀ b, b < N -> b ≠ cb -> w₁.heap[b]? = w.heap[b]?
 own : ∀ b, O b -> w₁.heap[b]? = w.heap[b]?
theorem Rl.refl {N cb : Nat} {O : Nat -> Prop} (w : World) : Rl N cb O w w := ⟨rfl, rfl, rfl, Nat.le_refl _, fun _ _ _ => rfl, fun _ _ => rfl⟩
theorem Rl.trans {N cb : Nat} {O : Nat -> Prop} {a b d : World} (h : Rl N cb O a b) (h' : Rl N cb O b d) : Rl N cb O a d :=
 ⟨h'.tape.trans h.tape, h'.os.trans h.os, h'.output.trans h.output, Nat.le_trans h.size h'.size, fun k hk hc => (h'.old k hk hc).trans (h.old k hk hc), fun k hk => (h'.own k hk).trans (h.own k hk)⟩
theorem Rl.at {N cb : Nat} {O : Nat -> Prop} (w : World) (d : Nat) : Rl N cb O w (w.at d) := ⟨rfl, rfl, rfl, Nat.le_refl _, fun _ _ _ => rfl, fun _ _ => rfl⟩
theorem Rl.put {N cb : Nat} {O : Nat -> Prop} (w : World) (o : Obj) (hO : ¬ O cb) : Rl N cb O w { w with heap := w.heap.setIfInBounds cb o } :=
 ⟨rfl, rfl, rfl, by simp, fun b _ hc => by simp only; rw [Array.getElem?_setIfInBounds_ne (fun e => hc e.symm)], fun b hb => by simp only; rw [Array.getElem?_setIfInBounds_ne (by rintro rfl; exact hO hb)]⟩
structure Gr (O O' : Nat -> Prop) (w w' : World) : Prop where
 tape : w'.tape = w.tape
 os : w'.os = w.os
 output : w'.output = w.output
 size : w.heap.size <= w'.heap.size
 oth : ∀ b, b < w.heap.size -> ¬ O b -> w'.heap[b]? = w.heap[b]?
 sub : ∀ b, O b -> O' b
 new : ∀ b, O' b -> O b ∨ (w.heap.size <= b /\ b < w'.heap.size)
structure Lie (N : Nat) (Oa Ob : Nat -> Prop) (w : World) : Prop where
 n : N <= w.heap.size
 a : ∀ b, Oa b -> N <= b /\ b < w.heap.size
 b : ∀ b, Ob b -> N <= b /\ b < w.heap.size
 dis : ∀ b, Oa b -> ¬ Ob b
theorem Lie.swap {N : Nat} {Oa Ob : Nat -> Prop} {w : World} (h : Lie N Oa Ob w) : Lie N Ob Oa w := ⟨h.n, h.b, h.a, fun b x y => h.dis b y x⟩
theorem Lie.rl {N cb : Nat} {Oa Ob O' : Nat -> Prop} {w w' : World} (h : Lie N Oa Ob w) (g : Gr Oa O' w w') : Rl N cb Ob w w' :=
 ⟨g.tape, g.os, g.output, g.size, fun b hb _ => g.oth b (Nat.lt_of_lt_of_le hb h.n) fun x => by have := (h.a b x).1; omega, fun b hb => g.oth b (h.b b hb).2 fun x => h.dis b x hb⟩
theorem Lie.step {N : Nat} {Oa Ob O' : Nat -> Prop} {w w' : World} (h : Lie N Oa Ob w) (g : Gr Oa O' w w') : Lie N O' Ob w' :=
 ⟨Nat.le_trans h.n g.size, fun b hb => (g.new b hb).elim (fun x => ⟨(h.a b x).1, Nat.lt_of_lt_of_le (h.a b x).2 g.size⟩) fun x => ⟨Nat.le_trans h.n x.1, x.2⟩, fun b hb => ⟨(h.b b hb).1, Nat.lt_of_lt_of_le (h.b b hb).2 g.size⟩,
  fun b hb hb' => (g.new b hb).elim (fun x => h.dis b x hb') fun x => by have := (h.b b hb').2; omega⟩
theorem Lie.same {N : Nat} {Oa Ob : Nat -> Prop} {w w' : World} (h : Lie N Oa Ob w) (hs : w'.heap.size = w.heap.size) : Lie N Oa Ob w' :=
 ⟨hs ▸ h.n, fun b x => hs ▸ h.a b x, fun b x => hs ▸ h.b b x, h.dis⟩
theorem Lie.cb {N cb : Nat} {Oa Ob O' : Nat -> Prop} {w w' : World} (h : Lie N Oa Ob w) (hcb : cb < N) (g : Gr Oa O' w w') : w'.heap[cb]? = w.heap[cb]? :=
 g.oth cb (Nat.lt_of_lt_of_le hcb h.n) fun x => by have := (h.a cb x).1; omega
abbrev StpG := (Nat -> Prop) -> Frame -> List Frame -> World -> Prop
inductive Gx (P : Program) (main : Bool) (N cb : Nat) (Stop : (Nat -> Prop) -> Frame -> List Frame -> World -> Prop) : (Nat -> Prop) -> Frame -> List Frame -> World -> Prop
 | stop {O : Nat -> Prop} {fr : Frame} {cs : List Frame} {w : World} (h : Stop O fr cs w) : Gx P main N cb Stop O fr cs w
 | node {O : Nat -> Prop} {fr : Frame} {cs : List Frame} {w : World} (fr' : World -> Frame) (cs' : World -> List Frame) (w' : World -> World) (es : World -> Array Event) (O' : World -> Nat -> Prop)
   (h : ∀ w₁, Rl N cb O w w₁ -> stepG P main (G fr cs) w₁ = .go (G (fr' w₁) (cs' w₁)) (w' w₁) (es w₁) /\ Gr O (O' w₁) w₁ (w' w₁) /\ EvO N (O' w₁) (es w₁))
   (k : ∀ w₁, Rl N cb O w w₁ -> Gx P main N cb Stop (O' w₁) (fr' w₁) (cs' w₁) (w' w₁)) : Gx P main N cb Stop O fr cs w
theorem Gx.step {P : Program} {main : Bool} {N cb : Nat} {Stop : StpG} {O : Nat -> Prop} {fr : Frame} {cs : List Frame} {w : World}
  (h : ∀ w₁, Rl N cb O w w₁ -> ∃ fr' cs' w' es O', stepG P main (G fr cs) w₁ = .go (G fr' cs') w' es /\ Gr O O' w₁ w' /\ EvO N O' es /\ Gx P main N cb Stop O' fr' cs' w') : Gx P main N cb Stop O fr cs w := by
 classical
 refine .node (fun w₁ => if hr : Rl N cb O w w₁ then (h w₁ hr).choose else fr) (fun w₁ => if hr : Rl N cb O w w₁ then (h w₁ hr).choose_spec.choose else cs) (fun w₁ => if hr : Rl N cb O w w₁ then (h w₁ hr).choose_spec.choose_spec.choose else w)
  (fun w₁ => if hr : Rl N cb O w w₁ then (h w₁ hr).choose_spec.choose_spec.choose_spec.choose else #[]) (fun w₁ => if hr : Rl N cb O w w₁ then (h w₁ hr).choose_spec.choose_spec.choose_spec.choose_spec.choose else O) (fun w₁ hr => ?_) fun w₁ hr => ?_
 ·simp only [dif_pos hr];obtain ⟨h1, h2, h3, -⟩ := (h w₁ hr).choose_spec.choose_spec.choose_spec.choose_spec.choose_spec;exact ⟨h1, h2, h3⟩
 ·simp only [dif_pos hr];exact (h w₁ hr).choose_spec.choose_spec.choose_spec.choose_spec.choose_spec.2.2.2
section
variable (P : Program) (N cb : Nat)
def Z1w1 (z : Value) (X : Frame -> List Frame -> World -> Prop) : List Value -> StpG
 | [] => fun O fr cs w => (∀ w₁, stepG P true (G fr cs) w₁ = .comm (G fr cs) #[rcase cb z] true (.recv true) w₁) /\ ∀ w₁, Rl N cb O w w₁ -> X (fr.finish (.tuple #[z, .bool false])) cs w₁
 | v :: vs => fun O fr cs w => (∀ w₁, stepG P true (G fr cs) w₁ = .comm (G fr cs) #[rcase cb z] true (.recv true) w₁) /\ Gx P true N cb (Z1w1 z X vs) O (fr.finish (.tuple #[v, .bool true])) cs w
def Z1w5 (z : Value) : List Value -> StpG
 | [] => fun _ fr cs _ => ∃ g₂ nq, mayWake P (G fr cs) = true /\ (∀ w₁ s r tm, w₁.heap[cb]? = some (.chan 0 #[] false s r tm) -> stepG P false (G fr cs) w₁ = .go g₂ (w₁.shut cb s r tm) #[⟨.obj cb, false, true⟩, ⟨.obj cb, true, true⟩]) /\ QuitsIn P nq g₂
 | v :: vs => fun O fr cs w => (∀ w₁, stepG P false (G fr cs) w₁ = .comm (G fr cs) #[scase cb v z] true .send w₁) /\ Gx P false N cb (Z1w5 z vs) O (fr.finish undef) cs w
end
section
variable {P : Program} {main : Bool} {N cb : Nat}
def Z22v (N cb : Nat) (S : StpG) : Prop := ∀ O fr cs w w₁, S O fr cs w -> Rl N cb O w w₁ -> S O fr cs w₁
theorem Gx.rely {S : StpG} (hS : Z22v N cb S) : Z22v N cb (Gx P main N cb S) := fun O fr cs w w₁ h hr => by
 cases h with
 | stop h => exact .stop (hS _ _ _ _ _ h hr)
 | node fr' cs' w' es O' h k => exact .node fr' cs' w' es O' (fun w₂ h2 => h w₂ (hr.trans h2)) fun w₂ h2 => k w₂ (hr.trans h2)
theorem Z1w1.still {z : Value} {X : Frame -> List Frame -> World -> Prop} : ∀ vs, Z22v N cb (Z1w1 P N cb z X vs)
 | [] => fun _ _ _ _ _ h hr => ⟨h.1, fun w₂ h2 => h.2 w₂ (hr.trans h2)⟩
 | _ :: vs => fun _ _ _ _ _ h hr => ⟨h.1, Gx.rely (Z1w1.still vs) _ _ _ _ _ h.2 hr⟩
theorem Z1w5.still {z : Value} : ∀ vs, Z22v N cb (Z1w5 P N cb z vs)
 | [] => fun _ _ _ _ _ h _ => h
 | _ :: vs => fun _ _ _ _ _ h hr => ⟨h.1, Gx.rely (Z1w5.still vs) _ _ _ _ _ h.2 hr⟩
theorem Z1w1.comm {z : Value} {X : Frame -> List Frame -> World -> Prop} {vs : List Value} {O : Nat -> Prop} {fr : Frame} {cs : List Frame} {w : World} (h : Z1w1 P N cb z X vs O fr cs w) : ∀ w₁, stepG P true (G fr cs) w₁ = .comm (G fr cs) #[rcase cb z] true (.recv true) w₁ := by
 cases vs <;> exact h.1
theorem Gx.trans {S S' : StpG} {O : Nat -> Prop} {fr : Frame} {cs : List Frame} {w : World} (h : Gx P main N cb S O fr cs w) (hS : ∀ O fr cs w, S O fr cs w -> Gx P main N cb S' O fr cs w) : Gx P main N cb S' O fr cs w := by
 induction h with
 | stop h => exact hS _ _ _ _ h
 | node fr' cs' w' es O' h _ ih => exact .node fr' cs' w' es O' h ih
structure LeavX (P : Program) (c : Nat) (t : Trace) (gs : Array Goroutine) (q : Nat -> Nat) : Prop where
 old : ∀ i g, 0 < i -> i ≠ c -> gs[i]? = some g -> QuitsD P (q i) (Deaf t i) g
 above : ∀ j, gs.size <= j -> Deaf t j = 0
end
end Go.Abs

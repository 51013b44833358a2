/- Part TxAX of the proofs about the benches of the accordion maker: see the last text of the claim for what is proved. -/
import Derived.Conc.AppendEvents3
import Derived.Test.YtggilmnhgjofiaaGreatTxAE
import Derived.Test.YtggilmnhgjofiaaGreatTxAK
set_option linter.unusedVariables false
set_option linter.unusedSimpArgs false
set_option linter.unnecessarySimpa false
set_option linter.constructorNameAsVariable false

set_option linter.unusedSimpArgs false
namespace Go.Abs
open Go
def Z245 (es : Array Event) : Prop := ∀ e ∈ es, (e.loc ≠ .mark .disable /\ e.loc ≠ .mark .enable) /\ (MemAct.ofEvent e).touch? = none
def NoEv {α : Type} : Sem α -> Prop
 | .pure _ => True
 | .load _ _ _ => False
 | .store _ _ _ _ => False
 | .new _ k => ∀ r, NoEv (k r)
 | .shape _ k => ∀ s, NoEv (k s)
 | .freeze _ _ k => NoEv k
 | .frozen _ k => ∀ b, NoEv (k b)
 | .getObj _ _ => False
 | .setObj _ _ _ => False
 | .choose _ k => ∀ n, NoEv (k n)
 | .sys _ _ => False
 | .program k => ∀ p, NoEv (k p)
 | .mark m k => ((m ≠ .disable /\ m ≠ .enable) /\ (MemAct.ofEvent ⟨.mark m, false, true⟩).touch? = none) /\ NoEv k
 | .halt _ => True
theorem NoEv.runT {α : Type} (P : Program) : ∀ (s : Sem α), NoEv s -> ∀ (w : World) (es : Array Event), Z245 es -> Z245 (s.runT P w es).2
 | .pure _, _, _, _, q => q
 | .load _ _ _, h, _, _, _ => h.elim
 | .store _ _ _ _, h, _, _, _ => h.elim
 | .new o k, h, w, es, q => (h _).runT P _ _ _ q
 | .shape r k, h, w, es, q => (h _).runT P _ _ _ q
 | .freeze a n k, h, w, es, q => NoEv.runT P k h _ _ q
 | .frozen a k, h, w, es, q => (h _).runT P _ _ _ q
 | .getObj _ _, h, _, _, _ => h.elim
 | .setObj _ _ _, h, _, _, _ => h.elim
 | .choose qu k, h, w, es, q => by
  simp only [Sem.runT]
  split
  ·exact (h _).runT P _ _ _ q
  ·exact (h _).runT P _ _ _ q
 | .sys _ _, h, _, _, _ => h.elim
 | .program k, h, w, es, q => (h _).runT P _ _ _ q
 | .mark m k, h, w, es, q => NoEv.runT P k h.2 _ _ (fun e he => by
  rcases Array.mem_push.1 he with he | rfl
  ·exact q e he
  ·exact ⟨by simpa using h.1.1, h.1.2⟩)
 | .halt _, _, _, _, q => q
theorem NoEv.mutes {α : Type} {P : Program} {s : Sem α} (h : NoEv s) (w : World) : Z245 (s.events P w #[]) := by
 unfold Sem.events;exact h.runT P s w _ (fun e he => by simp at he)
theorem NoEv.bindS {α β : Type} : ∀ {s : Sem α} {f : α -> Sem β}, NoEv s -> (∀ a, NoEv (f a)) -> NoEv (s.bind f)
 | .pure a, _, _, hf => hf a
 | .load _ _ _, _, h, _ => h.elim
 | .store _ _ _ _, _, h, _ => h.elim
 | .new _ _, _, h, hf => fun v => (h v).bindS hf
 | .shape _ _, _, h, hf => fun v => (h v).bindS hf
 | .freeze _ _ k, _, h, hf => NoEv.bindS (s := k) h hf
 | .frozen _ _, _, h, hf => fun v => (h v).bindS hf
 | .getObj _ _, _, h, _ => h.elim
 | .setObj _ _ _, _, h, _ => h.elim
 | .choose _ _, _, h, hf => fun v => (h v).bindS hf
 | .sys _ _, _, h, _ => h.elim
 | .program _, _, h, hf => fun v => (h v).bindS hf
 | .mark _ k, _, h, hf => ⟨h.1, NoEv.bindS (s := k) h.2 hf⟩
 | .halt _, _, _, _ => trivial
theorem NoEv.bind {α β : Type} {s : Sem α} {f : α -> Sem β} (h : NoEv s) (hf : ∀ a, NoEv (f a)) : NoEv (s >>= f) := NoEv.bindS h hf
theorem Z1u8 {α : Type} (a : α) : NoEv (Pure.pure a : Sem α) := trivial
theorem NoEv.map {α β : Type} {s : Sem α} {f : α -> β} (h : NoEv s) : NoEv (Functor.map f s) := NoEv.bindS h fun _ => trivial
theorem Z1uj {α : Type} {c : Prop} [Decidable c] {x y : Sem α} (hx : NoEv x) (hy : NoEv y) : NoEv (if c then x else y) := by split <;> assumption
theorem Z1tk : ∀ n, NoEv (askRoom n) := by
 intro n; unfold askRoom; split
 ·exact ⟨⟨⟨by simp, by simp⟩, rfl⟩, trivial⟩
 ·exact trivial
theorem Z1tq (o : Obj) : NoEv (newObj o) := by unfold newObj; repeat' (first | exact trivial | intro _)
theorem Z1u0 (r : Nat) : NoEv (shape r) := by unfold shape; repeat' (first | exact trivial | intro _)
theorem Z1tr (a : Addr) (n : Nat) : NoEv (freeze a n) := by unfold freeze; repeat' (first | exact trivial | intro _)
theorem Z1ts (a : Addr) : NoEv (frozen a) := by unfold frozen; repeat' (first | exact trivial | intro _)
theorem Z1tt (q : Question) : NoEv (choose q) := by unfold choose; repeat' (first | exact trivial | intro _)
theorem Z1tf : NoEv program := fun _ => trivial
theorem Z1u1 {α : Type} (why : String) : NoEv (stuck why : Sem α) := trivial
theorem Z1t5 {α : Type} (u : Unsupported) : NoEv (unsupported u : Sem α) := trivial
theorem Z1tl {α : Type} (v : Value) : NoEv (goPanic v : Sem α) := trivial
theorem Z1u2 {α : Type} (msg : String) : NoEv (throw msg : Sem α) := trivial
theorem Z1u3 {α : Type} (msg : String) : NoEv (fatal msg : Sem α) := trivial
theorem Z1ti : ∀ t, NoEv (typeInfo t) := by
 intro t;unfold typeInfo
 repeat' (first | (with_reducible apply NoEv.bind) | (with_reducible exact Z1u8 _) | (with_reducible apply Z1uj) | (simp only [Z1tk, Z1tq, Z1u0, Z1tr, Z1ts, Z1tt, Z1tf, Z1u1, Z1t5, Z1tl, Z1u2, Z1u3]; done) | (with_reducible apply NoEv.map) | split | (with_reducible intro _) | (dsimp only) | exact trivial)
theorem Z1t8 : ∀ t, NoEv (underlying t) := by
 intro t;unfold underlying
 repeat' (first | (with_reducible apply NoEv.bind) | (with_reducible exact Z1u8 _) | (with_reducible apply Z1uj) | (simp only [Z1tk, Z1tq, Z1u0, Z1tr, Z1ts, Z1tt, Z1tf, Z1u1, Z1t5, Z1tl, Z1u2, Z1u3, Z1ti]; done) | (with_reducible apply NoEv.map) | split | (with_reducible intro _) | (dsimp only) | exact trivial)
theorem Z1tu : ∀ t, NoEv (typeStr t) := by
 intro t;unfold typeStr
 repeat' (first | (with_reducible apply NoEv.bind) | (with_reducible exact Z1u8 _) | (with_reducible apply Z1uj) | (simp only [Z1tk, Z1tq, Z1u0, Z1tr, Z1ts, Z1tt, Z1tf, Z1u1, Z1t5, Z1tl, Z1u2, Z1u3, Z1ti, Z1t8]; done) | (with_reducible apply NoEv.map) | split | (with_reducible intro _) | (dsimp only) | exact trivial)
theorem Z1th : ∀ t, NoEv (zeroValue t) := by
 intro t;unfold zeroValue
 repeat' (first | (with_reducible apply NoEv.bind) | (with_reducible exact Z1u8 _) | (with_reducible apply Z1uj) | (simp only [Z1tk, Z1tq, Z1u0, Z1tr, Z1ts, Z1tt, Z1tf, Z1u1, Z1t5, Z1tl, Z1u2, Z1u3, Z1ti, Z1t8, Z1tu]; done) | (with_reducible apply NoEv.map) | split | (with_reducible intro _) | (dsimp only) | exact trivial)
theorem Z1to : ∀ t, NoEv (sizeOf t) := by
 intro t;unfold sizeOf
 repeat' (first | (with_reducible apply NoEv.bind) | (with_reducible exact Z1u8 _) | (with_reducible apply Z1uj) | (simp only [Z1tk, Z1tq, Z1u0, Z1tr, Z1ts, Z1tt, Z1tf, Z1u1, Z1t5, Z1tl, Z1u2, Z1u3, Z1ti, Z1t8, Z1tu, Z1th]; done) | (with_reducible apply NoEv.map) | split | (with_reducible intro _) | (dsimp only) | exact trivial)
theorem Z1ua : ∀ t, NoEv (isAgg t) := by
 intro t;unfold isAgg
 repeat' (first | (with_reducible apply NoEv.bind) | (with_reducible exact Z1u8 _) | (with_reducible apply Z1uj) | (simp only [Z1tk, Z1tq, Z1u0, Z1tr, Z1ts, Z1tt, Z1tf, Z1u1, Z1t5, Z1tl, Z1u2, Z1u3, Z1ti, Z1t8, Z1tu, Z1th, Z1to]; done) | (with_reducible apply NoEv.map) | split | (with_reducible intro _) | (dsimp only) | exact trivial)
theorem Z1ud : ∀ e c, NoEv (newRow e c) := by
 intro e c;unfold newRow
 repeat' (first | (with_reducible apply NoEv.bind) | (with_reducible exact Z1u8 _) | (with_reducible apply Z1uj) | (simp only [Z1tk, Z1tq, Z1u0, Z1tr, Z1ts, Z1tt, Z1tf, Z1u1, Z1t5, Z1tl, Z1u2, Z1u3, Z1ti, Z1t8, Z1tu, Z1th, Z1to, Z1ua]; done) | (with_reducible apply NoEv.map) | split | (with_reducible intro _) | (dsimp only) | exact trivial)
theorem Z1ue : ∀ t v, NoEv (newVar t v) := by
 intro t v;unfold newVar
 repeat' (first | (with_reducible apply NoEv.bind) | (with_reducible exact Z1u8 _) | (with_reducible apply Z1uj) | (simp only [Z1tk, Z1tq, Z1u0, Z1tr, Z1ts, Z1tt, Z1tf, Z1u1, Z1t5, Z1tl, Z1u2, Z1u3, Z1ti, Z1t8, Z1tu, Z1th, Z1to, Z1ua, Z1ud]; done) | (with_reducible apply NoEv.map) | split | (with_reducible intro _) | (dsimp only) | exact trivial)
theorem Z1ul : ∀ t, NoEv (elemOf t) := by
 intro t;unfold elemOf
 repeat' (first | (with_reducible apply NoEv.bind) | (with_reducible exact Z1u8 _) | (with_reducible apply Z1uj) | (simp only [Z1tk, Z1tq, Z1u0, Z1tr, Z1ts, Z1tt, Z1tf, Z1u1, Z1t5, Z1tl, Z1u2, Z1u3, Z1ti, Z1t8, Z1tu, Z1th, Z1to, Z1ua, Z1ud, Z1ue]; done) | (with_reducible apply NoEv.map) | split | (with_reducible intro _) | (dsimp only) | exact trivial)
theorem Z1tp {α : Type} : ∀ e, NoEv (runtimePanic e : Sem α) := by
 intro e;unfold runtimePanic
 repeat' (first | (with_reducible apply NoEv.bind) | (with_reducible exact Z1u8 _) | (with_reducible apply Z1uj) | (simp only [Z1tk, Z1tq, Z1u0, Z1tr, Z1ts, Z1tt, Z1tf, Z1u1, Z1t5, Z1tl, Z1u2, Z1u3, Z1ti, Z1t8, Z1tu, Z1th, Z1to, Z1ua, Z1ud, Z1ue, Z1ul]; done) | (with_reducible apply NoEv.map) | split | (with_reducible intro _) | (dsimp only) | exact trivial)
theorem Z1ty {α : Type} : ∀ k x y c, NoEv (boundsPanic k x y c : Sem α) := by
 intro k x y c;unfold boundsPanic
 repeat' (first | (with_reducible apply NoEv.bind) | (with_reducible exact Z1u8 _) | (with_reducible apply Z1uj) | (simp only [Z1tk, Z1tq, Z1u0, Z1tr, Z1ts, Z1tt, Z1tf, Z1u1, Z1t5, Z1tl, Z1u2, Z1u3, Z1ti, Z1t8, Z1tu, Z1th, Z1to, Z1ua, Z1ud, Z1ue, Z1ul, Z1tp]; done) | (with_reducible apply NoEv.map) | split | (with_reducible intro _) | (dsimp only) | exact trivial)
theorem Z1un : ∀ v, NoEv (asIntOf v) := by
 intro v;unfold asIntOf
 repeat' (first | (with_reducible apply NoEv.bind) | (with_reducible exact Z1u8 _) | (with_reducible apply Z1uj) | (simp only [Z1tk, Z1tq, Z1u0, Z1tr, Z1ts, Z1tt, Z1tf, Z1u1, Z1t5, Z1tl, Z1u2, Z1u3, Z1ti, Z1t8, Z1tu, Z1th, Z1to, Z1ua, Z1ud, Z1ue, Z1ul, Z1tp, Z1ty]; done) | (with_reducible apply NoEv.map) | split | (with_reducible intro _) | (dsimp only) | exact trivial)
theorem Z1uz : ∀ v, NoEv (asInt v) := by
 intro v;unfold asInt
 repeat' (first | (with_reducible apply NoEv.bind) | (with_reducible exact Z1u8 _) | (with_reducible apply Z1uj) | (simp only [Z1tk, Z1tq, Z1u0, Z1tr, Z1ts, Z1tt, Z1tf, Z1u1, Z1t5, Z1tl, Z1u2, Z1u3, Z1ti, Z1t8, Z1tu, Z1th, Z1to, Z1ua, Z1ud, Z1ue, Z1ul, Z1tp, Z1ty, Z1un]; done) | (with_reducible apply NoEv.map) | split | (with_reducible intro _) | (dsimp only) | exact trivial)
theorem Z1uy : ∀ v, NoEv (asBool v) := by
 intro v;unfold asBool
 repeat' (first | (with_reducible apply NoEv.bind) | (with_reducible exact Z1u8 _) | (with_reducible apply Z1uj) | (simp only [Z1tk, Z1tq, Z1u0, Z1tr, Z1ts, Z1tt, Z1tf, Z1u1, Z1t5, Z1tl, Z1u2, Z1u3, Z1ti, Z1t8, Z1tu, Z1th, Z1to, Z1ua, Z1ud, Z1ue, Z1ul, Z1tp, Z1ty, Z1un, Z1uz]; done) | (with_reducible apply NoEv.map) | split | (with_reducible intro _) | (dsimp only) | exact trivial)
theorem Z1v7 : ∀ v, NoEv (asAgg v) := by
 intro v;unfold asAgg
 repeat' (first | (with_reducible apply NoEv.bind) | (with_reducible exact Z1u8 _) | (with_reducible apply Z1uj) | (simp only [Z1tk, Z1tq, Z1u0, Z1tr, Z1ts, Z1tt, Z1tf, Z1u1, Z1t5, Z1tl, Z1u2, Z1u3, Z1ti, Z1t8, Z1tu, Z1th, Z1to, Z1ua, Z1ud, Z1ue, Z1ul, Z1tp, Z1ty, Z1un, Z1uz, Z1uy]; done) | (with_reducible apply NoEv.map) | split | (with_reducible intro _) | (dsimp only) | exact trivial)
theorem Z1x8 {β ρ : Type} (f : ρ -> β -> Sem (ForInStep β)) (hf : ∀ x b, NoEv (f x b)) : ∀ (l : List ρ) (b : β), NoEv (forIn l b f)
 | [], _ => trivial
 | x :: l, b => by
  rw [List.forIn_cons];refine NoEv.bind (hf x b) fun r => ?_
  cases r
  ·exact trivial
  ·exact Z1x8 f hf l _
theorem Z213 {β : Type} (f : Nat -> β -> Sem (ForInStep β)) (hf : ∀ x b, NoEv (f x b)) (n m s : Nat) (hs : 0 < s) (b : β) : NoEv (forIn (Std.Legacy.Range.mk n m s hs) b f) := by
 rw [Std.Legacy.Range.forIn_eq_forIn_range']; exact Z1x8 f hf _ _
theorem Z1yh {β ρ : Type} (f : ρ -> β -> Sem (ForInStep β)) (hf : ∀ x b, NoEv (f x b)) (l : Array ρ) (b : β) : NoEv (forIn l b f) := by
 rw [<- Array.forIn_toList]; exact Z1x8 f hf _ _
theorem Z1um : ∀ v, NoEv (Instr.sureAddr v) := by
 intro v;unfold Instr.sureAddr
 repeat' (first | (with_reducible apply NoEv.bind) | (with_reducible exact Z1u8 _) | (with_reducible apply Z1uj) | (simp only [Z1tk, Z1tq, Z1u0, Z1tr, Z1ts, Z1tt, Z1tf, Z1u1, Z1t5, Z1tl, Z1u2, Z1u3, Z1ti, Z1t8, Z1tu, Z1th, Z1to, Z1ua, Z1ud, Z1ue, Z1ul, Z1tp, Z1ty, Z1un, Z1uz, Z1uy, Z1v7]; done) | (with_reducible apply NoEv.map) | split | (with_reducible intro _) | (dsimp only) | exact trivial)
theorem Z1v1 : ∀ t x i, NoEv (Instr.indexAt t x i) := by
 intro t x i;unfold Instr.indexAt
 repeat' (first | (with_reducible apply NoEv.bind) | (with_reducible exact Z1u8 _) | (with_reducible apply Z1uj) | (simp only [Z1tk, Z1tq, Z1u0, Z1tr, Z1ts, Z1tt, Z1tf, Z1u1, Z1t5, Z1tl, Z1u2, Z1u3, Z1ti, Z1t8, Z1tu, Z1th, Z1to, Z1ua, Z1ud, Z1ue, Z1ul, Z1tp, Z1ty, Z1un, Z1uz, Z1uy, Z1v7, Z1um]; done) | (with_reducible apply NoEv.map) | split | (with_reducible intro _) | (dsimp only) | exact trivial)
theorem Z1v6 : ∀ t i, NoEv (Instr.extract t i) := by
 intro t i;unfold Instr.extract
 repeat' (first | (with_reducible apply NoEv.bind) | (with_reducible exact Z1u8 _) | (with_reducible apply Z1uj) | (simp only [Z1tk, Z1tq, Z1u0, Z1tr, Z1ts, Z1tt, Z1tf, Z1u1, Z1t5, Z1tl, Z1u2, Z1u3, Z1ti, Z1t8, Z1tu, Z1th, Z1to, Z1ua, Z1ud, Z1ue, Z1ul, Z1tp, Z1ty, Z1un, Z1uz, Z1uy, Z1v7, Z1um, Z1v1]; done) | (with_reducible apply NoEv.map) | split | (with_reducible intro _) | (dsimp only) | exact trivial)
theorem Z1v8 : ∀ o k x y, NoEv (Op.intArith o k x y) := by
 intro o k x y;unfold Op.intArith
 repeat' (first | (with_reducible apply NoEv.bind) | (with_reducible exact Z1u8 _) | (with_reducible apply Z1uj) | (simp only [Z1tk, Z1tq, Z1u0, Z1tr, Z1ts, Z1tt, Z1tf, Z1u1, Z1t5, Z1tl, Z1u2, Z1u3, Z1ti, Z1t8, Z1tu, Z1th, Z1to, Z1ua, Z1ud, Z1ue, Z1ul, Z1tp, Z1ty, Z1un, Z1uz, Z1uy, Z1v7, Z1um, Z1v1, Z1v6]; done) | (with_reducible apply NoEv.map) | split | (with_reducible intro _) | (dsimp only) | exact trivial)
theorem Z1vo : ∀ o k x y, NoEv (Op.intBits o k x y) := by
 intro o k x y;unfold Op.intBits
 repeat' (first | (with_reducible apply NoEv.bind) | (with_reducible exact Z1u8 _) | (with_reducible apply Z1uj) | (simp only [Z1tk, Z1tq, Z1u0, Z1tr, Z1ts, Z1tt, Z1tf, Z1u1, Z1t5, Z1tl, Z1u2, Z1u3, Z1ti, Z1t8, Z1tu, Z1th, Z1to, Z1ua, Z1ud, Z1ue, Z1ul, Z1tp, Z1ty, Z1un, Z1uz, Z1uy, Z1v7, Z1um, Z1v1, Z1v6, Z1v8]; done) | (with_reducible apply NoEv.map) | split | (with_reducible intro _) | (dsimp only) | exact trivial)
theorem Z1w2 : ∀ o x y, NoEv (Op.intCmp o x y) := by
 intro o x y;unfold Op.intCmp
 repeat' (first | (with_reducible apply NoEv.bind) | (with_reducible exact Z1u8 _) | (with_reducible apply Z1uj) | (simp only [Z1tk, Z1tq, Z1u0, Z1tr, Z1ts, Z1tt, Z1tf, Z1u1, Z1t5, Z1tl, Z1u2, Z1u3, Z1ti, Z1t8, Z1tu, Z1th, Z1to, Z1ua, Z1ud, Z1ue, Z1ul, Z1tp, Z1ty, Z1un, Z1uz, Z1uy, Z1v7, Z1um, Z1v1, Z1v6, Z1v8, Z1vo]; done) | (with_reducible apply NoEv.map) | split | (with_reducible intro _) | (dsimp only) | exact trivial)
theorem Z1wd : ∀ o k x y, NoEv (Op.intDiv o k x y) := by
 intro o k x y;unfold Op.intDiv
 repeat' (first | (with_reducible apply NoEv.bind) | (with_reducible exact Z1u8 _) | (with_reducible apply Z1uj) | (simp only [Z1tk, Z1tq, Z1u0, Z1tr, Z1ts, Z1tt, Z1tf, Z1u1, Z1t5, Z1tl, Z1u2, Z1u3, Z1ti, Z1t8, Z1tu, Z1th, Z1to, Z1ua, Z1ud, Z1ue, Z1ul, Z1tp, Z1ty, Z1un, Z1uz, Z1uy, Z1v7, Z1um, Z1v1, Z1v6, Z1v8, Z1vo, Z1w2]; done) | (with_reducible apply NoEv.map) | split | (with_reducible intro _) | (dsimp only) | exact trivial)
theorem Z203 : ∀ x y, NoEv (Builtin.max2 x y) := by
 intro x y;unfold Builtin.max2
 repeat' (first | (with_reducible apply NoEv.bind) | (with_reducible exact Z1u8 _) | (with_reducible apply Z1uj) | (simp only [Z1tk, Z1tq, Z1u0, Z1tr, Z1ts, Z1tt, Z1tf, Z1u1, Z1t5, Z1tl, Z1u2, Z1u3, Z1ti, Z1t8, Z1tu, Z1th, Z1to, Z1ua, Z1ud, Z1ue, Z1ul, Z1tp, Z1ty, Z1un, Z1uz, Z1uy, Z1v7, Z1um, Z1v1, Z1v6, Z1v8, Z1vo, Z1w2, Z1wd]; done) | (with_reducible apply NoEv.map) | split | (with_reducible intro _) | (dsimp only) | exact trivial)
theorem Z23f : ∀ x y, NoEv (Builtin.min2 x y) := by
 intro x y;unfold Builtin.min2
 repeat' (first | (with_reducible apply NoEv.bind) | (with_reducible exact Z1u8 _) | (with_reducible apply Z1uj) | (simp only [Z1tk, Z1tq, Z1u0, Z1tr, Z1ts, Z1tt, Z1tf, Z1u1, Z1t5, Z1tl, Z1u2, Z1u3, Z1ti, Z1t8, Z1tu, Z1th, Z1to, Z1ua, Z1ud, Z1ue, Z1ul, Z1tp, Z1ty, Z1un, Z1uz, Z1uy, Z1v7, Z1um, Z1v1, Z1v6, Z1v8, Z1vo, Z1w2, Z1wd, Z203]; done) | (with_reducible apply NoEv.map) | split | (with_reducible intro _) | (dsimp only) | exact trivial)
theorem Z1yi {β ρ : Type} (f : β -> ρ -> Sem β) (hf : ∀ b x, NoEv (f b x)) : ∀ (l : List ρ) (b : β), NoEv (l.foldlM f b)
 | [], b => trivial
 | x :: l, b => by
  rw [List.foldlM_cons];exact NoEv.bind (hf b x) fun _ => Z1yi f hf l _
theorem Z246 : ∀ t y a, NoEv (Builtin.max_ t y a) := by
 intro t y a;unfold Builtin.max_
 repeat' (first | (with_reducible apply NoEv.bind) | (with_reducible exact Z1u8 _) | (with_reducible apply Z1uj) | (simp only [Z1tk, Z1tq, Z1u0, Z1tr, Z1ts, Z1tt, Z1tf, Z1u1, Z1t5, Z1tl, Z1u2, Z1u3, Z1ti, Z1t8, Z1tu, Z1th, Z1to, Z1ua, Z1ud, Z1ue, Z1ul, Z1tp, Z1ty, Z1un, Z1uz, Z1uy, Z1v7, Z1um, Z1v1, Z1v6, Z1v8, Z1vo, Z1w2, Z1wd, Z203, Z23f]; done) | (with_reducible apply Z1yi) | (with_reducible apply NoEv.map) | split | (with_reducible intro _) | (dsimp only) | exact trivial)
end Go.Abs

namespace Go.Abs
open Go Go.Conc
def Ev (P : Program) (B : Touch -> Prop) {α : Type} (s : Sem α) (w : World) : Prop := ∀ e ∈ s.events P w #[], (e.loc ≠ .mark .disable /\ e.loc ≠ .mark .enable) /\ ∀ x, (MemAct.ofEvent e).touch? = some x -> B x
section
variable {P : Program} {B : Touch -> Prop} {α β : Type} {w : World}
theorem Ev.bind {s : Sem α} {f : α -> Sem β} (h : Ev P B s w) (hf : ∀ a w', s.run P w = .ok a w' -> Ev P B (f a) w') : Ev P B (s >>= f) w := by
 intro e he;rw [Sem.events_bind] at he
 cases hr : s.run P w with
 | ok a w' =>
  rw [hr, Result.evThen_ok, Sem.events_acc] at he;rcases Array.mem_append.1 he with he | he
  ·exact h e he
  ·exact hf a w' hr e he
 | halt x w' =>
  rw [hr, Result.evThen_halt] at he;exact h e he
theorem Ev.map {s : Sem α} {f : α -> β} (h : Ev P B s w) : Ev P B (Functor.map f s) w := by
 intro e he;rw [Sem.events_map] at he;exact h e he
theorem NoEv.ev {s : Sem α} (h : NoEv s) : Ev P B s w := fun e he => ⟨(h.mutes w e he).1, fun x hx => by rw [(h.mutes w e he).2] at hx; cases hx⟩
theorem Ev.pure (a : α) : Ev P B (Pure.pure a : Sem α) w := (Z1u8 a).ev
theorem Ev.value {s : Sem Value} (h : Ev P B s w) : Ev P B (do Pure.pure (.value (<- s)) : Sem Next) w := h.bind fun a w' _ => Ev.pure _
theorem Z214 {b : Nat} {s : Sem α} (h : ∀ ev ∈ s.events P w #[], ev.readsIn (· = b)) (hB : ∀ x : Touch, (∃ a, x.loc = .cell a /\ a.block = b) -> x.write = false -> B x) : Ev P B s w := fun e he => by
 obtain ⟨ad, h1, h2, h3⟩ := h e he;refine ⟨by rw [h1]; simp, fun x hx => ?_⟩;obtain ⟨loc, wr, sy⟩ := e;simp only at h1 h2;subst h1 h2
 cases sy <;> simp [MemAct.ofEvent, MemAct.touch?] at hx <;> subst hx <;> exact hB _ ⟨ad, rfl, h3⟩ rfl
theorem Z247 {b : Nat} {s : Sem α} (h : ∀ ev ∈ s.events P w #[], ∃ ad, ev.loc = .cell ad /\ ad.block = b) (hB : ∀ x : Touch, (∃ a, x.loc = .cell a /\ a.block = b) -> B x) : Ev P B s w := fun e he => by
 obtain ⟨ad, h1, h3⟩ := h e he;refine ⟨by rw [h1]; simp, fun x hx => ?_⟩;obtain ⟨loc, wr, sy⟩ := e;simp only at h1;subst h1
 cases sy <;> cases wr <;> simp [MemAct.ofEvent, MemAct.touch?] at hx <;> subst hx <;> exact hB _ ⟨ad, rfl, h3⟩
end
def NoQ {α : Type} (Q : α -> Prop) : Sem α -> Prop
 | .pure a => Q a
 | .load _ _ _ => False
 | .store _ _ _ _ => False
 | .new _ k => ∀ r, NoQ Q (k r)
 | .shape _ k => ∀ s, NoQ Q (k s)
 | .freeze _ _ k => NoQ Q k
 | .frozen _ k => ∀ b, NoQ Q (k b)
 | .getObj _ _ => False
 | .setObj _ _ _ => False
 | .choose _ k => ∀ n, NoQ Q (k n)
 | .sys _ _ => False
 | .program k => ∀ p, NoQ Q (k p)
 | .mark m k => ((m ≠ .disable /\ m ≠ .enable) /\ (MemAct.ofEvent ⟨.mark m, false, true⟩).touch? = none) /\ NoQ Q k
 | .halt _ => True
theorem NoEv.q {α : Type} : ∀ {s : Sem α}, NoEv s -> NoQ (fun _ => True) s
 | .pure _, h => h
 | .load _ _ _, h => h.elim
 | .store _ _ _ _, h => h.elim
 | .new _ _, h => fun r => (h r).q
 | .shape _ _, h => fun r => (h r).q
 | .freeze _ _ k, h => NoEv.q (s := k) h
 | .frozen _ _, h => fun r => (h r).q
 | .getObj _ _, h => h.elim
 | .setObj _ _ _, h => h.elim
 | .choose _ _, h => fun r => (h r).q
 | .sys _ _, h => h.elim
 | .program _, h => fun r => (h r).q
 | .mark _ k, h => ⟨h.1, NoEv.q (s := k) h.2⟩
 | .halt _, h => h
theorem NoQ.bindS {α β : Type} {Q : α -> Prop} {R : β -> Prop} : ∀ {s : Sem α} {f : α -> Sem β}, NoQ Q s -> (∀ a, Q a -> NoQ R (f a)) -> NoQ R (s.bind f)
 | .pure a, _, h, hf => hf a h
 | .load _ _ _, _, h, _ => h.elim
 | .store _ _ _ _, _, h, _ => h.elim
 | .new _ _, _, h, hf => fun v => (h v).bindS hf
 | .shape _ _, _, h, hf => fun v => (h v).bindS hf
 | .freeze _ _ k, _, h, hf => NoQ.bindS (s := k) h hf
 | .frozen _ _, _, h, hf => fun v => (h v).bindS hf
 | .getObj _ _, _, h, _ => h.elim
 | .setObj _ _ _, _, h, _ => h.elim
 | .choose _ _, _, h, hf => fun v => (h v).bindS hf
 | .sys _ _, _, h, _ => h.elim
 | .program _, _, h, hf => fun v => (h v).bindS hf
 | .mark _ k, _, h, hf => ⟨h.1, NoQ.bindS (s := k) h.2 hf⟩
 | .halt _, _, _, _ => trivial
theorem NoQ.bind {α β : Type} {Q : α -> Prop} {R : β -> Prop} {s : Sem α} {f : α -> Sem β} (h : NoQ Q s) (hf : ∀ a, Q a -> NoQ R (f a)) : NoQ R (s >>= f) := NoQ.bindS h hf
theorem NoQ.noev {α : Type} {Q : α -> Prop} : ∀ {s : Sem α}, NoQ Q s -> NoEv s
 | .pure _, _ => trivial
 | .load _ _ _, h => h.elim
 | .store _ _ _ _, h => h.elim
 | .new _ _, h => fun r => (h r).noev
 | .shape _ _, h => fun r => (h r).noev
 | .freeze _ _ k, h => NoQ.noev (s := k) h
 | .frozen _ _, h => fun r => (h r).noev
 | .getObj _ _, h => h.elim
 | .setObj _ _ _, h => h.elim
 | .choose _ _, h => fun r => (h r).noev
 | .sys _ _, h => h.elim
 | .program _, h => fun r => (h r).noev
 | .mark _ k, h => ⟨h.1, NoQ.noev (s := k) h.2⟩
 | .halt _, _ => trivial
theorem NoQ.to {α β : Type} {Q : α -> Prop} {s : Sem α} {f : α -> Sem β} (h : NoQ Q s) (hf : ∀ a, Q a -> NoEv (f a)) : NoEv (s >>= f) := (NoQ.bind (R := fun _ => True) h fun a ha => (hf a ha).q).noev
def Z204 (v : Value) : Prop := (∃ k a, v = .int k a) ∨ ∃ xs : Array Value, v = .agg xs /\ ∀ x ∈ xs, ∃ k a, x = .int k a
theorem Z1wk (t : TypeId) (xs : Array Value) (off : Nat) (h : ∀ x ∈ xs, ∃ k a, x = Value.int k a) : NoQ Z204 (part t xs off) := by
 unfold part;refine (Z1ua t).q.bind fun b _ => ?_
 split
 ·exact (Z1to t).q.bind fun n _ => .inr ⟨_, rfl, fun x hx => h x (Array.mem_of_getElem? (i := (Array.mem_iff_getElem?.1 hx).choose + off) (by
   obtain ⟨i, hi⟩ := Array.mem_iff_getElem?.1 hx
   have hs := (Array.mem_iff_getElem?.1 hx).choose_spec
   rw [Array.getElem?_extract] at hs
   split at hs
   ·rw [Nat.add_comm]; exact hs
   ·cases hs))⟩
 ·split
  ·rename_i v hv
   exact .inl (h v (Array.mem_of_getElem? hv))
  ·exact trivial
theorem Z1z6 : ∀ (n : Nat) (t : TypeId) (x y : Value), Z204 x -> Z204 y -> NoEv (Op.equalIn n t x y) := by
  intro n
  induction n with
  | zero => intro t x y _ _; exact trivial
  | succ n ih =>
    intro t x y hx hy
    unfold Op.equalIn
    refine NoEv.bind (Z1t8 t) fun d => ?_
    rcases hx with ⟨k, a, rfl⟩ | ⟨xs, rfl, hxs⟩ <;> rcases hy with ⟨k', a', rfl⟩ | ⟨ys, rfl, hys⟩
    · cases d <;> first | exact trivial | (dsimp only; split <;> exact trivial)
    · cases d <;> first | exact trivial | (dsimp only; split <;> exact trivial)
    · cases d <;> first | exact trivial | (dsimp only; split <;> exact trivial)
    · cases d <;> first
        | exact trivial
        | (dsimp only
           refine NoEv.bind (Z1to _) fun m => NoEv.bind (Z213 _ (fun i b => ?_) _ _ _ _ _) fun r => ?_
           · refine (Z1wk _ _ _ hxs).to fun x hx => (Z1wk _ _ _ hys).to fun y hy => NoEv.bind (ih _ _ _ hx hy) fun b => ?_
             split <;> exact trivial
           · split <;> exact trivial)
        | (dsimp only
           refine NoEv.bind Z1tf fun p => ?_
           split
           · refine NoEv.bind (Z1t5 _) fun _ => ?_
             refine NoEv.bind (Z1yh _ (fun i b => ?_) _ _) fun r => ?_
             · split
               · refine (Z1wk _ _ _ hxs).to fun x hx => (Z1wk _ _ _ hys).to fun y hy => NoEv.bind (ih _ _ _ hx hy) fun b => ?_
                 split <;> exact trivial
               · exact trivial
             · split <;> exact trivial
           · refine NoEv.bind (Z1yh _ (fun i b => ?_) _ _) fun r => ?_
             · split
               · refine (Z1wk _ _ _ hxs).to fun x hx => (Z1wk _ _ _ hys).to fun y hy => NoEv.bind (ih _ _ _ hx hy) fun b => ?_
                 split <;> exact trivial
               · exact trivial
             · split <;> exact trivial)
end Go.Abs

namespace Go.Abs
open Go Go.Conc
def Bt (F : Fz) (μ : Mu) (H : List Blk) (x : Touch) : Prop := ∃ a, x.loc = .cell a /\ (Own μ H a.block ∨ (x.write = false /\ ∃ o v, F a.block o = some v))
section
variable {P : Program} {T : TT} {F : Fz} {μ : Mu} {w : World} {H : List Blk}
theorem Z248 {b : Nat} (h : Own μ H b) : ∀ x : Touch, (∃ a, x.loc = .cell a /\ a.block = b) -> Bt F μ H x := fun _ ⟨a, h1, h2⟩ => ⟨a, h1, .inl (h2 ▸ h)⟩
theorem Z27k {b o : Nat} {v : Value} (h : F b o = some v) : ∀ x : Touch, (∃ a, x.loc = .cell a /\ a.block = b) -> x.write = false -> Bt F μ H x := fun _ ⟨a, h1, h2⟩ h3 => ⟨a, h1, .inr ⟨h3, o, v, h2 ▸ h⟩⟩
theorem Z1z7 {B : Touch -> Prop} (hT : TOK P T) {t : TypeId} {e : TE} (he : Z1d T t = some e) {b o : Nat} (h1 : e.agg = false -> (w.cell? ⟨b, o, none⟩).isSome) (h2 : e.agg = true -> ∀ j, j < e.size -> (w.cell? ⟨b, o + j, none⟩).isSome)
  (hB : ∀ x : Touch, (∃ a, x.loc = .cell a /\ a.block = b) -> x.write = false -> B x) : Ev P B (loadVar t ⟨b, o, none⟩) w := by
 unfold loadVar;refine (Z1ua t).ev.bind fun ag w' hr => ?_;rw [Zc2 hT he] at hr
 cases hr
 cases ha : e.agg with
 | false =>
  simp only [Bool.false_eq_true, if_false];obtain ⟨u, hu⟩ := Option.isSome_iff_exists.1 (h1 ha);exact Z214 (b := b) (fun ev hev => (events_load_at w _ _ #[] hu ev hev).elim (fun h => by simp at h) fun h => ⟨_, h.1, h.2, rfl⟩) hB
 | true =>
  simp only [if_true];refine (Z1to t).ev.bind fun n w' hr => ?_;rw [Z6i hT he] at hr
  cases hr
  refine Ev.bind (Z214 (b := b) (fun ev hev => (events_loadCellsFrom_at ⟨b, o, none⟩ (· = b) rfl e.size 0 #[] w #[] (fun j hj => by rw [add_lit, Nat.zero_add]; exact h2 ha j hj) ev hev).elim (fun h => by simp at h) id) hB) fun _ _ _ => .pure _
theorem Z26x {agg : Bool} {n off : Nat} {K : D -> Prop} {d : D} (hd : d.cells = [d]) (h : (match agg with | true => False | false => (match off with | 0 => K d | _ + 1 => False))) : (agg = false -> off < d.cells.length) /\ (agg = true -> off + n <= d.cells.length) := by
 cases agg with
 | true => exact h.elim
 | false => cases off with
  | zero => rw [hd]; exact ⟨fun _ => by simp, fun h => by cases h⟩
  | succ => exact h.elim
theorem Z1x9 {agg : Bool} {n off : Nat} {K : D -> Prop} {d : D} (h : ldD ar agg n off K d) : (agg = false -> off < d.cells.length) /\ (agg = true -> off + n <= d.cells.length) := by
 cases d with
 | agg cs =>
  simp only [ldD] at h
  cases agg with
  | true =>
   simp only at h
   split at h
   ·rename_i hb; exact ⟨fun h => (by cases h), fun _ => Nat.le_of_ble_eq_true hb⟩
   ·exact h.elim
  | false =>
   simp only at h
   split at h
   ·rename_i x hx; rw [Zc1] at hx; exact ⟨fun _ => (List.getElem?_eq_some_iff.1 hx).1, fun h => (by cases h)⟩
   ·exact h.elim
 | arr cs =>
  simp only [ldD] at h
  cases agg with
  | true =>
   cases off with
   | zero => exact ⟨fun h => (by cases h), fun _ => by have h1 : cs.length = n := h.1; rw [Nat.zero_add]; exact Nat.le_of_eq h1.symm⟩
   | succ => exact h.elim
  | false =>
   obtain ⟨x, hx, _⟩ := h.out;exact ⟨fun _ => (List.getElem?_eq_some_iff.1 hx).1, fun h => (by cases h)⟩
 | any => exact h.elim
 | _ => exact Z26x rfl h
theorem Z27l (hT : TOK P T) {t : TypeId} {e : TE} (he : Z1d T t = some e) (hr : HR F μ H w) {d : D} {v : Value} (hv : VR F μ d v) {K : D -> Prop} (h : ldP ar H e.agg e.size K d) : Ev P (Bt F μ H) (Instr.loadAt t v) w := by
 have fin : ∀ {b o : Nat}, v = .pointer (some ⟨b, o, none⟩) -> Ev P (Bt F μ H) (loadVar t ⟨b, o, none⟩) w -> Ev P (Bt F μ H) (Instr.loadAt t v) w := fun ha hl => by
  subst ha;exact Ev.bind (Z1um _).ev fun a w' hr => by cases hr; exact hl
 have liv : ∀ {k : Nat} {y : Nat × List D}, Z17 H k = some y -> ∀ {b m : Nat}, μ k = some (some (b, m)) -> Own μ H b := fun hb _ _ hμ => ⟨_, Z15 hb, .inl ⟨_, hμ⟩⟩;have cellsOwn : ∀ {k sz b m i off base : Nat} {es : List D} {e1 : D}, Z17 H k = some (sz, es) -> μ k = some (some (b, m)) -> es[i]? = some e1 -> base = i * sz -> (e.agg = false -> off < e1.cells.length) -> (e.agg = true -> off + e.size <= e1.cells.length) -> Ev P (Bt F μ H) (loadVar t ⟨b, base + off, none⟩) w := fun {k sz b m i off base es e1} hb hμ hi hbase h1 h2 => by
  subst hbase;have cell : ∀ r, r < e1.cells.length -> (w.cell? ⟨b, i * sz + r, none⟩).isSome := fun r hrl => by
   obtain ⟨u, hu, -⟩ := hr.cells hb hμ i e1 hi r e1.cells[r] (List.getElem?_eq_getElem hrl);rw [hu]; rfl
  exact Z1z7 hT he (fun ha => cell _ (h1 ha)) (fun ha j hj => by rw [Nat.add_assoc]; exact cell _ (by have := h2 ha; omega)) fun x hx _ => Z248 (liv hb hμ) x hx
 have cellsFz : ∀ {b base off : Nat} {d1 : D} (val : Nat -> Value), (∀ (r : Nat) (c : D), d1.cells[r]? = some c -> F b (base + r) = some (val r)) -> (e.agg = false -> off < d1.cells.length) -> (e.agg = true -> off + e.size <= d1.cells.length) -> 0 < d1.cells.length -> Ev P (Bt F μ H) (loadVar t ⟨b, base + off, none⟩) w := fun {b base off d1} val hf h1 h2 h0 => by
  have cell : ∀ r, r < d1.cells.length -> (w.cell? ⟨b, base + r, none⟩).isSome := fun r hrl => by
   rw [(hr.frz _ _ _ (hf r d1.cells[r] (List.getElem?_eq_getElem hrl))).1]; rfl
  exact Z1z7 hT he (fun ha => cell _ (h1 ha)) (fun ha j hj => by rw [Nat.add_assoc]; exact cell _ (by have := h2 ha; omega)) fun x hx hw => Z27k (hf 0 d1.cells[0] (List.getElem?_eq_getElem h0)) x hx hw
 have pos : ∀ {off : Nat} {d1 : D}, (e.agg = false -> off < d1.cells.length) -> (e.agg = true -> off + e.size <= d1.cells.length) -> 0 < d1.cells.length ∨ (e.agg = true /\ e.size = 0) := fun h1 h2 => by
  cases ha : e.agg with
  | false => exact .inl (by have := h1 ha; omega)
  | true =>
   by_cases h0 : e.size = 0
   ·exact .inr ⟨rfl, h0⟩
   ·exact .inl (by have := h2 ha; omega)
 have empty : ∀ {b o : Nat}, e.agg = true -> e.size = 0 -> Ev P (Bt F μ H) (loadVar t ⟨b, o, none⟩) w := fun ha hs => by
  unfold loadVar;refine (Z1ua t).ev.bind fun ag w' hr => ?_;rw [Zc2 hT he, ha] at hr
  cases hr
  simp only [if_true];refine (Z1to t).ev.bind fun n w' hr => ?_;rw [Z6i hT he, hs] at hr
  cases hr
  exact Ev.bind (Ev.pure _) fun _ _ _ => .pure _
 cases d <;> try exact h.elim
 case b k off =>
  simp only [ldP] at h
  split at h
  ·rename_i d hd
   obtain ⟨h1, h2⟩ := Z1x9 h
   cases hv with
   | cl _ _ hc => cases hc
   | b _ _ b m hμ =>
    have := cellsOwn (Z7c hd) hμ (i := 0) (base := 0) rfl (by simp) h1 h2;rw [Nat.zero_add] at this;exact fin rfl this
  ·exact h.elim
 case bs k off =>
  simp only [ldP] at h
  split at h
  ·rename_i d hd
   have hfit : (e.agg = false -> off < d.cells.length) /\ (e.agg = true -> off + e.size <= d.cells.length) := by
    cases d <;> simp only [ldS] at h <;> try exact h.elim
    all_goals
     split at h
     ·exact h.elim
     ·obtain ⟨x, hx, -⟩ := h.out
      rename_i ha
      exact ⟨fun _ => (List.getElem?_eq_some_iff.1 hx).1, fun h => by rw [ha] at h; cases h⟩
   cases hv with
   | cl _ _ hc => cases hc
   | bs _ _ b m hμ =>
    have := cellsOwn (Z7c hd) hμ (i := 0) (base := 0) rfl (by simp) hfit.1 hfit.2;rw [Nat.zero_add] at this;exact fin rfl this
  ·exact h.elim
 case p k sz i off =>
  simp only [ldP] at h
  split at h
  ·rename_i sz' es hd
   split at h
   ·rename_i hsz
    obtain rfl := Nat.eq_of_beq_eq_true hsz;obtain ⟨e1, he1, hk⟩ := h.out;obtain ⟨h1, h2⟩ := Z1x9 hk
    cases hv with
    | cl _ _ hc => cases hc
    | p _ _ _ _ b m hμ => exact fin rfl (cellsOwn (Z5f hd) hμ he1 rfl h1 h2)
   ·exact h.elim
  ·rename_i sz' es hd
   split at h
   ·rename_i hsz
    obtain rfl := Nat.eq_of_beq_eq_true hsz;obtain ⟨e1, he1, hk⟩ := h.out;obtain ⟨h1, h2⟩ := Z1x9 hk
    cases hv with
    | cl _ _ hc => cases hc
    | p _ _ _ _ b m hμ => exact fin rfl (cellsOwn (Z8e hd) hμ he1 rfl h1 h2)
   ·exact h.elim
  ·exact h.elim
 case ip sz es i off =>
  obtain ⟨e1, he1, hk⟩ := h.out;obtain ⟨h1, h2⟩ := Z1x9 hk
  cases hv with
  | cl _ _ hc =>
   cases hc with
   | ip _ _ b o _ _ val hz hf hv =>
    refine fin rfl ?_;rcases pos h1 h2 with h0 | ⟨ha, hs⟩
    ·exact cellsFz (fun r => val i r) (fun r c hrc => (hf i e1 r c he1 hrc).1) h1 h2 h0
    ·exact empty ha hs
 case cb d off =>
  simp only [ldP] at h;obtain ⟨h1, h2⟩ := Z1x9 h
  cases hv with
  | cl _ _ hc =>
   cases hc with
   | cb _ b o _ val hf hv =>
    refine fin rfl ?_;rcases pos h1 h2 with h0 | ⟨ha, hs⟩
    ·exact cellsFz val (fun r c hrc => (hf r c hrc).1) h1 h2 h0
    ·exact empty ha hs
end
end Go.Abs

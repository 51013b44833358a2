/- Part TxAB of the proofs about the benches of the accordion maker: see the last text of the claim for what is proved. -/
import Derived.Conc.Beside
set_option linter.unusedVariables false
set_option linter.unusedSimpArgs false
set_option linter.unnecessarySimpa false
set_option linter.constructorNameAsVariable false

namespace Go.Abs
open Go
def Z1uv (es : Array Event) : Prop := ∀ e ∈ es, e.loc ≠ .mark .disable /\ e.loc ≠ .mark .enable
theorem Z1uv.nil : Z1uv #[] := fun e h => by simp at h
theorem Z1uv.push {es : Array Event} (h : Z1uv es) {e : Event} (he : e.loc ≠ .mark .disable /\ e.loc ≠ .mark .enable) : Z1uv (es.push e) := fun x hx => by
 rcases Array.mem_push.1 hx with hx | rfl
 ·exact h x hx
 ·exact he
theorem Z1uv.app {es es' : Array Event} (h : Z1uv es) (h' : Z1uv es') : Z1uv (es ++ es') := fun x hx => (Array.mem_append.1 hx).elim (h x) (h' x)
def Z1q0 {α : Type} : Sem α -> Prop
 | .pure _ => True
 | .load _ _ k => ∀ v, Z1q0 (k v)
 | .store _ _ _ k => Z1q0 k
 | .new _ k => ∀ r, Z1q0 (k r)
 | .shape _ k => ∀ s, Z1q0 (k s)
 | .freeze _ _ k => Z1q0 k
 | .frozen _ k => ∀ b, Z1q0 (k b)
 | .getObj _ k => ∀ o, Z1q0 (k o)
 | .setObj _ _ k => Z1q0 k
 | .choose _ k => ∀ n, Z1q0 (k n)
 | .sys _ k => ∀ r, Z1q0 (k r)
 | .program k => ∀ p, Z1q0 (k p)
 | .mark m k => (m ≠ .disable /\ m ≠ .enable) /\ Z1q0 k
 | .halt _ => True
theorem Z1zy {l : List Addr} {wr sy : Bool} : Z1uv (l.toArray.map fun a => ⟨.cell a, wr, sy⟩) := fun x hx => by
 obtain ⟨a, -, rfl⟩ := Array.mem_map.1 hx;simp
theorem Z1q0.runT {α : Type} (P : Program) : ∀ (s : Sem α), Z1q0 s -> ∀ (w : World) (es : Array Event), Z1uv es -> Z1uv (s.runT P w es).2
  | .pure _, _, _, _, q => q
  | .load m a k, h, w, es, q => by
    simp only [Sem.runT]
    split
    · exact (h _).runT P _ _ _ (q.push (by simp))
    · split
      · exact (h _).runT P _ _ _ (q.app Z1zy)
      · exact q
  | .store m a v k, h, w, es, q => by
    have k1 : Z1uv (k.runT P (w.setCell a v) (es.push ⟨.cell a, true, m == .atomic⟩)).2 := Z1q0.runT P k h _ _ (q.push (by simp))
    have k2 : ∀ (w' : World) (l : List Addr), Z1uv (k.runT P w' (es ++ l.toArray.map fun x => ⟨.cell x, true, m == .atomic⟩)).2 := fun w' l => Z1q0.runT P k h _ _ (q.app Z1zy)
    cases v <;> first
      | exact q
      | (simp only [Sem.runT]
         split
         · split
           · exact q
           · exact k1
         · split
           · exact k2 _ _
           · exact q)
  | .new o k, h, w, es, q => (h _).runT P _ _ _ q
  | .shape r k, h, w, es, q => (h _).runT P _ _ _ q
  | .freeze a n k, h, w, es, q => Z1q0.runT P k h _ _ q
  | .frozen a k, h, w, es, q => (h _).runT P _ _ _ q
  | .getObj r k, h, w, es, q => by
    simp only [Sem.runT]
    split
    · exact q
    · exact (h _).runT P _ _ _ (q.push (by simp))
    · exact q
  | .setObj r o k, h, w, es, q => by
    simp only [Sem.runT]
    split
    · exact q
    · exact Z1q0.runT P k h _ _ (q.push (by simp))
    · exact q
  | .choose qu k, h, w, es, q => by
    simp only [Sem.runT]
    split
    · exact (h _).runT P _ _ _ q
    · exact (h _).runT P _ _ _ q
  | .sys c k, h, w, es, q => (h _).runT P _ _ _ (q.push (by simp))
  | .program k, h, w, es, q => (h _).runT P _ _ _ q
  | .mark m k, h, w, es, q => Z1q0.runT P k h.2 _ _ (q.push (by simpa using h.1))
  | .halt _, _, _, _, q => q
theorem Z1q0.quiet {α : Type} {P : Program} {s : Sem α} (h : Z1q0 s) (w : World) : Z1uv (s.events P w #[]) := by
 unfold Sem.events;exact h.runT P s w _ .nil
theorem Z1q0.bindS {α β : Type} : ∀ {s : Sem α} {f : α -> Sem β}, Z1q0 s -> (∀ a, Z1q0 (f a)) -> Z1q0 (s.bind f)
 | .pure a, _, _, hf => hf a
 | .load _ _ _, _, h, hf => fun v => (h v).bindS hf
 | .store _ _ _ k, _, h, hf => Z1q0.bindS (s := k) h hf
 | .new _ _, _, h, hf => fun v => (h v).bindS hf
 | .shape _ _, _, h, hf => fun v => (h v).bindS hf
 | .freeze _ _ k, _, h, hf => Z1q0.bindS (s := k) h hf
 | .frozen _ _, _, h, hf => fun v => (h v).bindS hf
 | .getObj _ _, _, h, hf => fun v => (h v).bindS hf
 | .setObj _ _ k, _, h, hf => Z1q0.bindS (s := k) h hf
 | .choose _ _, _, h, hf => fun v => (h v).bindS hf
 | .sys _ _, _, h, hf => fun v => (h v).bindS hf
 | .program _, _, h, hf => fun v => (h v).bindS hf
 | .mark _ k, _, h, hf => ⟨h.1, Z1q0.bindS (s := k) h.2 hf⟩
 | .halt _, _, _, _ => trivial
theorem Z1q0.bind {α β : Type} {s : Sem α} {f : α -> Sem β} (h : Z1q0 s) (hf : ∀ a, Z1q0 (f a)) : Z1q0 (s >>= f) := Z1q0.bindS h hf
theorem Z1r5 {α : Type} (a : α) : Z1q0 (Pure.pure a : Sem α) := trivial
theorem Z1q0.map {α β : Type} {s : Sem α} {f : α -> β} (h : Z1q0 s) : Z1q0 (Functor.map f s) := Z1q0.bindS h fun _ => trivial
theorem Z1rd {α : Type} {c : Prop} [Decidable c] {x y : Sem α} (hx : Z1q0 x) (hy : Z1q0 y) : Z1q0 (if c then x else y) := by split <;> assumption
end Go.Abs

/- Part TxAT of the proofs about the benches of the accordion maker: see the last text of the claim for what is proved. -/
import Derived.Test.YtggilmnhgjofiaaGreatTxAS
set_option linter.unusedVariables false
set_option linter.unusedSimpArgs false
set_option linter.unnecessarySimpa false
set_option linter.constructorNameAsVariable false

namespace Go.Abs
open Go
section
variable {P : Program} {T : TT} {r : Option Nat} {m : Nat} {Q : AX -> St -> Prop}
theorem Z5q (hT : TOK P T) {ops : Array Oper} {K : List Nat -> St -> Prop} {l2 : List Nat} (hK : ∀ l s, K l s -> OpsA P r m ops Q (l ++ l2) s) : ∀ (l : List Nat) (s : St), Z4h ar T ops K l s -> OpsA P r m ops Q (l ++ l2) s
 | [], s, h => hK _ _ h
 | i :: l, s, h => by
  simp only [Z4h] at h
  split at h
  ·exact h.elim
  ·rename_i o ho
   split at h
   ·rename_i hd
    refine Z3k ho hd (Z53 h (fun e hk => ?_) (fun e hk => Z5q hT hK l _ hk));have := Zeg (P := P) (r := r) (o := o) (s := { s with env := e }) (K := fun d H' ds => Z4h ar T ops K l (St.step { s with env := e } o.dst d H' ds)) (X := fun _ _ => False) hT hk;exact this.mono (fun d H ds hk => Z5q hT hK l _ hk) (fun _ _ h => h.elim)
   ·rename_i hd
    refine Z3k ho hd (Z53 h (fun e hk => ?_) (fun e hk => Z5q hT hK l _ hk));have := Znv (P := P) (r := r) (o := o) (s := { s with env := e }) (K := fun d H' ds => Z4h ar T ops K l (St.step { s with env := e } o.dst d H' ds)) (X := fun _ _ => False) hT hk;exact this.mono (fun d H ds hk => Z5q hT hK l _ hk) (fun _ _ h => h.elim)
   ·rename_i hd
    refine Z3k ho hd (Z53 h (fun e hk => ?_) (fun e hk => Z5q hT hK l _ hk));have := Zgs (P := P) (r := r) (o := o) (s := { s with env := e }) (K := fun d H' ds => Z4h ar T ops K l (St.step { s with env := e } o.dst d H' ds)) (X := fun _ _ => False) hT hk;exact this.mono (fun d H ds hk => Z5q hT hK l _ hk) (fun _ _ h => h.elim)
   ·exact hK _ _ h
theorem Zke (hT : TOK P T) {A : Ar} (hA : A = ar) {S : Stop} (hS : S = Zo P r m) {ops : Array Oper} {s : St} (l1 l2 : List Nat)
  (h : Z4h A T ops (fun l s => match l with | [] => S.ops ops Q l2 s | i :: l => S.ops ops Q (i :: l ++ l2) s) l1 s) : OpsA P r m ops Q (l1 ++ l2) s := by
 subst hA; subst hS;refine Z5q hT (fun l s hk => ?_) l1 s h
 cases l with
 | nil => exact hk
 | cons i l => exact hk
end
end Go.Abs

namespace Go.Abs
open Go
def vcF (A : Ar) (T : TT) (S : Stop) (sp : List Nat) : Code -> (AX -> St -> Prop) -> St -> Prop
 | .seq x y, Q, s => vcF A T S sp x (Zb1 (vcF A T S sp y Q) Q) s
 | .skip, Q, s => Q .normal s
 | .label _, Q, s => Q .normal s
 | .ret, Q, s => Q .ret s
 | .exit id, Q, s => Q (.exit id) s
 | .block id c, Q, s => vcF A T S sp c (Zi3 id Q) s
 | .region id ops false, Q, s => match Z7a sp id with
  | true => S.code (.region id ops false) Q s
  | false => Z4h A T ops (fun l s => match l with | [] => Q .normal s | i :: l => S.ops ops Q (i :: l) s) (List.range ops.size) s
 | .cond c x y, Q, s => Zfc s c (vcF A T S sp x Q) (vcF A T S sp y Q)
 | c, Q, s => S.code c Q s
section
variable {P : Program} {T : TT} {r : Option Nat} {m : Nat} {Q : AX -> St -> Prop}
theorem Z5r (hT : TOK P T) {sp : List Nat} : ∀ (c : Code) (Q : AX -> St -> Prop) (s : St), vcF ar T (Zo P r m) sp c Q s -> WpA P r m c Q s
 | .seq x y, Q, s, h => by
  simp only [vcF] at h;refine Znq (Z94 (Z5r hT x _ s h) fun a s hq => ?_)
  cases a <;> first | exact Z5r hT y Q _ hq | exact hq
 | .skip, Q, s, h => Zje (by simpa only [vcF] using h)
 | .label l, Q, s, h => Zgi (by simpa only [vcF] using h)
 | .ret, Q, s, h => Znr (by simpa only [vcF] using h)
 | .exit id, Q, s, h => Zjf (by simpa only [vcF] using h)
 | .block id c, Q, s, h => Zgj (Z5r hT c _ s (by simpa only [vcF] using h))
 | .region id ops false, Q, s, h => by
  simp only [vcF] at h
  split at h
  ·simpa only [Zo] using h
  refine Zbh (Z3v hT (fun l s hk => ?_) _ _ h)
  cases l with
  | nil => exact Zf6 hk
  | cons i l => exact hk
 | .region id ops true, Q, s, h => by simpa only [vcF, Zo] using h
 | .cond c x y, Q, s, h => by
  simp only [vcF] at h;exact Zdw (Zfd h (fun s h => Z5r hT x Q s h) (fun s h => Z5r hT y Q s h))
 | .loop c, Q, s, h => by simpa only [vcF, Zo] using h
 | .scope c, Q, s, h => by simpa only [vcF, Zo] using h
 | .goto l, Q, s, h => by simpa only [vcF, Zo] using h
 | .refuse w, Q, s, h => by simpa only [vcF, Zo] using h
 | .rangeFunc a b c d, Q, s, h => by simpa only [vcF, Zo] using h
theorem Z38 (hT : TOK P T) {A : Ar} (hA : A = ar) (sp : List Nat) {f : FuncId} {fn : Func} {c : Code} (hf : P.funcs[f]? = some fn) (hb : fn.body = some c) (hnm : (fn.name == "runtime.NumGoroutine") = false) {as : List D} {H : List Blk} {Q : RA -> List Blk -> Prop} (hnt : Nat.ble as.length fn.ntmps = true) {rs : List ResultVar} (hrs : fn.results.toList = rs) {nt : Nat} (hnt2 : fn.ntmps = nt)
  (h : ∀ S, S = Zo P none H.length -> vcF A T S sp c (Znx A T rs (ghQ H.length Q)) { env := Zd6 0 as, H := H, nt := nt, dfs := [] }) : CallA P f as H Q := by
 subst hA; subst hrs; subst hnt2;exact Zcb (Zfb hT hf hb hnm hnt (Z5r hT c _ _ (h _ rfl)))
theorem Z2w (hT : TOK P T) {A : Ar} (hA : A = ar) {S : Stop} (hS : S = Zo P r m) (sp : List Nat) {c : Code} {s : St} (h : vcF A T S sp c Q s) : WpA P r m c Q s := by
 subst hA; subst hS; exact Z5r hT c _ _ h
theorem Z4j (hT : TOK P T) {A : Ar} (hA : A = ar) {S : Stop} (hS : S = Zo P r m) {id : Nat} {ops : Array Oper} {s : St} (l1 l2 : List Nat) (hl : List.range ops.size = l1 ++ l2)
  (h : Z4h A T ops (fun l s => match l with | [] => S.ops ops Q l2 s | i :: l => S.ops ops Q (i :: l ++ l2) s) l1 s) : S.code (.region id ops false) Q s := by
 have := Zke hT hA hS l1 l2 h;subst hA; subst hS;refine Zbh ?_;rw [hl]; exact this
end
end Go.Abs

namespace Go.Abs
open Go
end Go.Abs

namespace Go.Abs
open Go
section
variable {P : Program} {T : TT} {r : Option Nat} {m : Nat} {Q : AX -> St -> Prop} {F : Fz} {μ : Mu} {w : World} {K : St -> Prop} {s : St}
theorem Zoc {H : List Blk} {k sz : Nat} {es es' : List D} {x : Blk} (hb : Z17 H k = some (sz, es)) (hx : x.es = some (sz, es')) (hbf : BFr x) (hl : es'.length = es.length) (hc : ∀ c, Z1l F μ sz es c -> Z1l F μ sz es' c) (h : HR F μ H w) :
  HR F μ (H.set k x) w /\ Post F μ H w F μ (H.set k x) w /\ ∀ j y, Z13 H j = some y -> Z13 (H.set k x) j = some y := by
 have hkl := Z7k hb;have hset : ∀ j, (H.set k x)[j]? = if j = k then some x else H[j]? := fun j => by
  have := Z2m (H := H) x (Nat.le_of_lt hkl) j
  rwa [Z4l, if_pos hkl] at this
 have hno : ∀ y, x.obj = some y -> False := fun y hy => by cases x <;> simp [Blk.es, Blk.obj] at hx hy
 have := Z5e (μ' := μ) (w' := w) (H' := H.set k x) (fun j => j = k) h (by simp) (fun j hj => by rw [hset, if_neg hj]) (fun j _ => rfl) (fun j b _ => Iff.rfl) (fun _ _ _ h => h) (Nat.le_refl _) rfl rfl rfl
  (fun b' hb' hn => rfl) (fun k' b' hk' _ hf => .inl ⟨k, rfl, Z15 hb, by subst hk'; exact hf⟩) (fun k1 k2 b h1 h2 _ _ _ _ => h1.trans h2.symm)
  (fun k' hk' hle' => by subst hk'; simp at hle'; omega) (fun _ k' sz1 es1 hk' hb1 hne => ?_) (fun k' y hk' _ b => by subst hk'; exact h.plain k' _ hb b) (fun _ k' y hk' hy _ => by subst hk'; rw [Z19 (by rw [hset, if_pos rfl])] at hy; exact (hno y hy).elim) (fun k' hk' he => by subst hk'; exact h.non _ he) (fun k' y hk' hy => by
   subst hk'; rw [hset, if_pos rfl] at hy; cases hy; exact hbf)
 ·exact ⟨this.1, this.2.1, fun j y hj => Z95 _ hb hj⟩
 ·subst hk';rw [Z1s (by rw [hset, if_pos rfl]), hx] at hb1
  cases hb1
  rcases h.row k' _ _ hb hne with ⟨e1, e2⟩ | ⟨b, m, c, t, e1, e2, e3, e4, e5⟩
  ·refine .inl ⟨e1, ?_⟩;subst e2
   cases es' with
   | nil => rfl
   | cons => simp at hl
  ·exact .inr ⟨b, m, c, t, e1, e2, e3, by rw [hl]; exact e4, hc c e5⟩
theorem Zod {a : Act} {k sz : Nat} {es es' : List D} {x : Blk} (hb : Z17 s.H k = some (sz, es)) (hx : x.es = some (sz, es')) (hbf : BFr x) (hl : es'.length = es.length) (hc : ∀ c, Z1l F μ sz es c -> Z1l F μ sz es' c) (h : RL m F μ s a w) :
  RL m F μ { s with H := s.H.set k x } a w /\ Post F μ s.H w F μ (s.H.set k x) w /\ Kp m μ s.H μ (s.H.set k x) := by
 obtain ⟨h1, h2, h3⟩ := Zoc hb hx hbf hl hc h.hr;exact ⟨⟨h1, ⟨h.er.env, h.er.nt, h.er.dfs.mono (fun _ _ _ e => e) (fun _ _ e => e) (fun j hj => ⟨h3 j _ hj, fun _ e => e⟩)⟩, by simpa using h.len⟩, h2, .ob fun i hi => h3 i _ hi⟩
theorem Zmp (k : Nat) {sz : Nat} {es : List D} (hk : Z1m s.H k = some (.elo sz es)) (hf : FrL es) (h : GS m K { s with H := s.H.set k (.els sz es) }) : GS m K s :=
 Z4i (fun F μ act w h1 => let ⟨g1, g2, g3⟩ := Zod (x := .els sz es) (Z8e hk) rfl (fun _ _ e => by cases e; exact hf) rfl (fun _ h => h) h1; ⟨F, μ, g2, g3, g1⟩) h
structure FzP (k2 isz : Nat) (row : List D) (d d' : D) : Prop where
 len : d'.cells.length = d.cells.length
 cel : ∀ (r : Nat) (c' : D), d'.cells[r]? = some c' -> d.cells[r]? = some c' ∨ (d.cells[r]? = some (.o k2 isz row.length) /\ c' = .sl isz row)
theorem FzP.same {k2 isz : Nat} {row : List D} (d : D) : FzP k2 isz row d d := ⟨rfl, fun _ _ h => .inl h⟩
theorem Zuu {k2 isz : Nat} {row es es' : List D} {i : Nat} {d d' : D} (h : FzP k2 isz row d d') (he : es' = es.set i d') (hi : i < es.length -> es[i]? = some d) : es'.length = es.length /\ ∀ (j : Nat) (x' : D), es'[j]? = some x' -> ∃ x, es[j]? = some x /\ FzP k2 isz row x x' := by
 subst he;refine ⟨by simp, fun j x' hx => ?_⟩;rw [List.getElem?_set] at hx
 split at hx
 ·rename_i e; subst e
  split at hx
  ·rename_i hl; cases hx; exact ⟨d, hi hl, h⟩
  ·cases hx
 ·exact ⟨x', hx, .same _⟩
theorem Zps {k sz n : Nat} {v : Value} (h : VR F μ (.o k sz n) v) (F' : Fz) : VR F' μ (.o k sz n) v := by
 cases h with
 | cl _ _ hc => cases hc
 | o _ _ _ b m cap h1 h2 h3 => exact .o _ _ _ b m cap h1 h2 h3
 | oNil _ _ a h1 => exact .oNil _ _ a h1
theorem Zwn {H : List Blk} {k k2 sz isz : Nat} {es es' row : List D} (hk : Z1m H k = some (.elo sz es)) (hk2 : Z1m H k2 = some (.els isz row)) (hp : es'.length = es.length /\ ∀ (j : Nat) (x' : D), es'[j]? = some x' -> ∃ x, es[j]? = some x /\ FzP k2 isz row x x') (hr : HR F μ H w) :
  ∃ F', (∀ b o v, F b o = some v -> F' b o = some v) /\ HR F' μ ((H.set k2 .dead).set k (.elo sz es')) w /\ Post F μ H w F' μ ((H.set k2 .dead).set k (.elo sz es')) w /\ ∀ j y, Z13 H j = some y -> Z13 ((H.set k2 .dead).set k (.elo sz es')) j = some y := by
 obtain ⟨d', rfl, hR⟩ := fzG_sound (kk := [k2]) hr (.o k2 isz row.length) (fun d' => d' = .sl isz row) (by
  simp only [fzG, Z7a, Nat.beq_refl, hk2, and_true]; exact (rfl : row.length = row.length))
 have hl2 : k2 < H.length := Z7k (Z5f hk2);have hne : k2 ≠ k := by rintro rfl; rw [hk] at hk2; cases hk2
 obtain ⟨q1, q2, q3⟩ := Zd7 (kk := [k2]) (H' := H.set k2 .dead) hr (by simp) (fun i x' hx => by
  rw [List.getElem?_set] at hx
  split at hx
  ·rename_i e; subst e
   cases hx
   exact ⟨.els isz row, by rw [<- Z1u]; exact hk2, .inl ⟨by simp, rfl, rfl⟩⟩
  ·rename_i e
   exact ⟨x', hx, .inr ⟨by simpa using fun h => e h.symm, .inl rfl⟩⟩)
 have hb : Z17 (H.set k2 .dead) k = some (sz, es) := by
  have := Z8e hk;unfold Z17 at this ⊢;rw [List.getElem?_set, if_neg hne]; exact this
 obtain ⟨r1, r2, r3⟩ := Zoc (x := .elo sz es') hb rfl (fun _ _ e => by cases e) hp.1 (fun c hc j x' hx => by
  obtain ⟨x, hx0, hf⟩ := hp.2 j x' hx
  obtain ⟨g1, g2⟩ := hc j x hx0
  refine ⟨by rw [hf.len]; exact g1, fun rr c' hc' => ?_⟩
  rcases hf.cel rr c' hc' with e | ⟨e, rfl⟩
  ·exact g2 rr c' e
  ·obtain ⟨v, v1, v2, v3⟩ := g2 rr _ e
   exact ⟨v, v1, v2, hR.val v (Zps v3 _)⟩) q1
 exact ⟨_, Z2y, r1, q2.trans r2, fun j y hj => r3 j y (q3 j y hj)⟩
theorem Zs9 (k k2 : Nat) {sz isz : Nat} {es es' row : List D} (hk : Z1m s.H k = some (.elo sz es)) (hk2 : Z1m s.H k2 = some (.els isz row)) (hp : es'.length = es.length /\ ∀ (j : Nat) (x' : D), es'[j]? = some x' -> ∃ x, es[j]? = some x /\ FzP k2 isz row x x')
  (h : GS m K { s with H := (s.H.set k2 .dead).set k (.elo sz es') }) : GS m K s := by
 refine Z4i (s' := { s with H := (s.H.set k2 .dead).set k (.elo sz es') }) (fun F μ act w h1 => ?_) h;obtain ⟨F', hm, r1, r2, hob⟩ := Zwn hk hk2 hp h1.hr;refine ⟨_, μ, r2, .ob fun i hi => hob i _ hi, r1, ⟨fun t d ht => ?_, h1.er.nt, h1.er.dfs.mono hm (fun _ _ e => e) (fun j hj => ⟨hob j _ hj, fun _ e => e⟩)⟩, by simpa using h1.len⟩;obtain ⟨v, v1, v2⟩ := h1.er.env t d ht;exact ⟨v, v1, v2.mono hm (fun _ _ e => e)⟩
end
end Go.Abs

namespace Go.Abs
open Go
def Zfl {α : Type} (l : List α) (j : Nat) (x : α) : List α := l.take j ++ x :: l.drop (j + 1)
theorem Zd8 {α : Type} {l : List α} {j : Nat} (x : α) (h : j <= l.length) (i : Nat) : (Zfl l j x)[i]? = if i = j then some x else l[i]? := by
 unfold Zfl;have hl : (l.take j).length = j := by simp; omega
 by_cases h1 : i < j
 ·rw [List.getElem?_append_left (by omega), List.getElem?_take, if_pos h1, if_neg (by omega)]
 ·rw [List.getElem?_append_right (by omega), hl]
  by_cases h2 : i = j
  ·subst h2; simp
  ·rw [if_neg h2];obtain ⟨n, rfl⟩ : ∃ n, i = j + 1 + n := ⟨i - j - 1, by omega⟩;rw [show j + 1 + n - j = n + 1 by omega, List.getElem?_cons_succ, List.getElem?_drop]
theorem Z11o {α : Type} (l : List α) (x : α) : Zfl l l.length x = l ++ [x] := by unfold Zfl; simp
theorem Zpt {α : Type} {l : List α} {j : Nat} (x : α) (h : j < l.length) : Zfl l j x = l.set j x := by
 refine List.ext_getElem? fun i => ?_;rw [Zd8 x (by omega), List.getElem?_set]
 by_cases e : i = j
 ·subst e; simp [h]
 ·rw [if_neg e, if_neg (fun h => e h.symm)]
abbrev Ent := Value × Option (List D)
section
variable {P : Program} {T : TT} {r : Option Nat} {m : Nat} {Q : AX -> St -> Prop} {F : Fz} {μ : Mu} {w : World} {K : St -> Prop} {s : St}
theorem Z212 (sz : Nat) (h : GS m K { s with H := s.H ++ [.ob (.gr sz [])] }) : GS m K s := by
 refine Z4i (s' := { s with H := s.H ++ [.ob (.gr sz [])] }) (fun F μ act w h1 => ?_) h;have hn : μ s.H.length = none := h1.hr.dom _ (Nat.le_refl _);have hat := Z6h μ s.H.length none;have hget : (s.H ++ [Blk.ob (.gr sz [])])[s.H.length]? = some (.ob (.gr sz [])) := by simp
 have nf : ∀ b, ¬ Z40 (Z4v μ s.H.length none) s.H.length b := fun b hf => by
  rcases hf with ⟨m, hm⟩ | hf
  ·rw [hat] at hm; cases hm
  ·exact absurd hf (h1.hr.non _ hn b)
 obtain ⟨r1, r2, r3⟩ := Z5e (μ' := Z4v μ s.H.length none) (w' := w) (H' := s.H ++ [.ob (.gr sz [])]) (fun j => j = s.H.length) h1.hr (by simp) (fun k hk => by
   by_cases hlt : k < s.H.length
   ·rw [List.getElem?_append_left hlt]
   ·rw [List.getElem?_eq_none (by simp; omega), List.getElem?_eq_none (by omega)]) (fun j hj => Z2k _ hj) (fun j b _ => Iff.rfl) (fun j hj y hy => by subst hj; rw [hn] at hy; cases hy) (Nat.le_refl _) rfl rfl rfl
  (fun _ _ _ => rfl) (fun k' b hk' _ hf => by subst hk'; exact absurd hf (nf b)) (fun k1 k2 b h1 h2 _ _ _ _ => h1.trans h2.symm) (fun k' hk' hle => by subst hk'; simp at hle; omega) (fun _ k' sz es hk' hb _ => by subst hk'; rw [Z1s hget] at hb; cases hb)
  (fun k' y hk' hb b => by subst hk'; rw [Z1s hget] at hb; cases hb) (fun hmono k' y hk' hyy _ => by
   subst hk'
   rw [Z19 hget] at hyy; cases hyy
   exact ⟨hat, fun _ => 0, fun j e row he => by simp at he, fun i j e e' row row' he => by simp at he⟩) (fun k' hk' he => by subst hk'; rw [hat] at he; cases he) (fun k' y hk' hyy => by
   subst hk'; rw [hget] at hyy; cases hyy; exact fun _ _ e => by cases e)
 refine ⟨_, _, r2, ⟨fun i hi => Z2k _ (by have := h1.len; omega), fun i _ hk => ⟨Z41 _ hk, fun _ e => e⟩⟩, r1, ⟨fun t d ht => ?_, h1.er.nt, h1.er.dfs.mono (fun _ _ _ e => e) r3 (fun j hj => ⟨Z41 _ hj, fun _ e => e⟩)⟩, by have := h1.len; simp; omega⟩;obtain ⟨v, v1, v2⟩ := h1.er.env t d ht;exact ⟨v, v1, v2.mono (fun _ _ _ e => e) r3⟩
end
end Go.Abs

namespace Go.Abs
open Go
section
variable {P : Program} {T : TT} {r : Option Nat} {m : Nat} {Q : AX -> St -> Prop}
end
end Go.Abs

namespace Go.Abs
open Go
section
variable {P : Program} {T : TT} {r : Option Nat} {m : Nat} {F : Fz} {μ : Mu} {w : World} {H : List Blk} {d : D} {K : D -> List Blk -> Prop}
end
end Go.Abs

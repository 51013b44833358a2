/- Part TxAI of the proofs about the benches of the accordion maker: see the last text of the claim for what is proved. -/
import Derived.Orders
import Derived.OrdersIn
import Derived.Test.YthljpccegkmdnaaGreatDoorTxAH
set_option linter.unusedVariables false
set_option linter.unusedSimpArgs false
set_option linter.unnecessarySimpa false
set_option linter.constructorNameAsVariable false

namespace Go.Abs
open Go
def rE (env : List (Nat × D)) : List Nat -> List (Nat × D)
 | [] => []
 | t :: r => (match Z1c env t with | some d => (t, d) :: rE env r | none => rE env r)
theorem Zil {env : List (Nat × D)} : ∀ {ts : List Nat} {t : Nat} {d : D}, Z1c (rE env ts) t = some d -> Z1c env t = some d /\ t ∈ ts
 | [], t, d, h => by cases h
 | t0 :: r, t, d, h => by
  simp only [rE] at h
  split at h
  ·rename_i d0 hd0
   simp only [Z1c] at h
   split at h
   ·rename_i e; subst e; cases h; exact ⟨hd0, by simp⟩
   ·obtain ⟨h1, h2⟩ := Zil h; exact ⟨h1, by simp [h2]⟩
  ·obtain ⟨h1, h2⟩ := Zil h; exact ⟨h1, by simp [h2]⟩
theorem Zk5 {env env' : List (Nat × D)} : ∀ {ts : List Nat}, (∀ t ∈ ts, Z1c env' t = Z1c env t) -> rE env' ts = rE env ts
 | [], _ => rfl
 | t :: r, h => by
  have h1 := h t (by simp);have h2 := Zk5 (ts := r) (fun t ht => h t (by simp [ht]));simp only [rE, h1, h2]
def St.only (s : St) (ts : List Nat) : St := { s with env := rE s.env ts }
def ons (o : Oper) : List Nat := (o.after.toList.filter fun e => Region.binds .any e).map (·.on)
def Z9i (A : Ar) (T : TT) (ops : Array Oper) (s : St) (o : Oper) (K : D -> Prop) : Prop := Zh ops s o (fun s => Z1q A T s K o.op) (fun _ => K (.tup []))
inductive PK where
 | val (d : D)
 | alc (k : Nat) (x : Blk) (d : D)
def PK.d : PK -> D
 | .val d => d
 | .alc _ _ d => d
structure POk (A : Ar) (T : TT) (ops : Array Oper) (s : St) (u : Nat × PK) : Prop where
 out : ∃ o, ops[u.1]? = some o /\ Z36 s.nt o.dst = true /\ (∀ t, o.dst = some t -> Z1c s.env t = some u.2.d) /\ (match u.2 with
  | .val d => Z9i A T ops (s.only (o.looksAt ops)) o (fun x => x = d)
  | .alc k x d => Zh ops (s.only (o.looksAt ops)) o (fun s' => Z5g A T s' (fun y mk => y = x /\ mk k = d) o.op) (fun _ => False) /\ Z1m s.H k = some x /\ BFr x)
structure LooksOk (ops : Array Oper) (o : Oper) (pend : List (Nat × PK)) : Prop where
 out : ∀ u ∈ pend, ∀ o' t, ops[u.1]? = some o' -> o'.dst = some t -> t ∈ o.looksAt ops -> u.1 ∈ ons o
structure WritesOk (ops : Array Oper) (o : Oper) (pend : List (Nat × PK)) : Prop where
 out : ∀ u ∈ pend, ∀ o' t, ops[u.1]? = some o' -> o.dst = some t -> o'.dst ≠ some t /\ t ∉ o'.looksAt ops
inductive DrawA (P : Program) (T : TT) (r : Option Nat) (m : Nat) (ops : Array Oper) (Q : AX -> St -> Prop) : List Nat -> List (Nat × PK) -> St -> Prop
 | done {pend : List (Nat × PK)} {s : St} (h : Q .normal s) : DrawA P T r m ops Q [] pend s
 | val {i : Nat} {L : List Nat} {pend : List (Nat × PK)} {s : St} {o : Oper} {d : D} (ho : ops[i]? = some o) (hd : Z36 s.nt o.dst = true) (hl : LooksOk ops o pend) (hw : WritesOk ops o pend) (hs : ∀ t, o.dst = some t -> t ∉ o.looksAt ops)
   (hy : Z9i ar T ops (s.only (o.looksAt ops)) o (fun x => x = d)) (h : DrawA P T r m ops Q L ((i, .val d) :: pend) (s.step o.dst d s.H s.dfs)) : DrawA P T r m ops Q (i :: L) pend s
 | alc {i : Nat} {L : List Nat} {pend : List (Nat × PK)} {s : St} {o : Oper} {x : Blk} {d : D} (ho : ops[i]? = some o) (hd : Z36 s.nt o.dst = true) (hl : LooksOk ops o pend) (hw : WritesOk ops o pend) (hs : ∀ t, o.dst = some t -> t ∉ o.looksAt ops) (hb : BFr x)
   (hy : Zh ops (s.only (o.looksAt ops)) o (fun s' => Z5g ar T s' (fun y mk => y = x /\ mk s.H.length = d) o.op) (fun _ => False))
   (hp : ∀ u ∈ pend, POk ar T ops s u -> POk ar T ops (s.step o.dst d (s.H ++ [x]) s.dfs) u)
   (h : DrawA P T r m ops Q L ((i, .alc s.H.length x d) :: pend) (s.step o.dst d (s.H ++ [x]) s.dfs)) : DrawA P T r m ops Q (i :: L) pend s
 | eff {i : Nat} {L : List Nat} {pend : List (Nat × PK)} {s : St} {o : Oper} {K : D -> List Blk -> List AD -> Prop} (pend' : List (Nat × PK)) (ho : ops[i]? = some o) (hd : Z36 s.nt o.dst = true) (hl : LooksOk ops o pend) (hw : WritesOk ops o pend')
   (hpp : ∀ u ∈ pend, u ∈ pend' ∨ u.1 ∈ ons o) (hr : ∀ i' ∈ L, ∀ o', ops[i']? = some o' -> ∃ e ∈ ons o', e = i ∨ e ∈ L)
   (hk : Zh ops (s.only (o.looksAt ops)) o (fun s' => OpA P r o s' K (fun d H' => ∀ e, Q (.pan d) { env := e, H := H', nt := s.nt, dfs := s.dfs })) (fun _ => K (.tup []) s.H s.dfs))
   (hpin : ∀ d H' ds, K d H' ds -> ∀ u ∈ pend', POk ar T ops s u -> POk ar T ops (s.step o.dst d H' ds) u)
   (h : ∀ d H' ds, K d H' ds -> DrawA P T r m ops Q L pend' (s.step o.dst d H' ds)) : DrawA P T r m ops Q (i :: L) pend s
 | two {i j : Nat} {L : List Nat} {pend : List (Nat × PK)} {s : St} {o o2 : Oper} {K K2 : D -> List Blk -> List AD -> Prop} (p p2 : List (Nat × PK)) (ho : ops[i]? = some o) (ho2 : ops[j]? = some o2) (hd : Z36 s.nt o.dst = true) (hd2 : Z36 s.nt o2.dst = true) (hl : LooksOk ops o pend) (hl2 : LooksOk ops o2 pend)
   (hw : WritesOk ops o p) (hw2 : WritesOk ops o2 p2) (hpp : ∀ u ∈ pend, u ∈ p ∨ u.1 ∈ ons o) (hpp2 : ∀ u ∈ pend, u ∈ p2 ∨ u.1 ∈ ons o2) (hr : ∀ i' ∈ L, ∀ o', ops[i']? = some o' -> ∃ e ∈ ons o', e = i ∨ e = j ∨ e ∈ L)
   (hk : Zh ops (s.only (o.looksAt ops)) o (fun s' => OpA P r o s' K (fun d H' => ∀ e, Q (.pan d) { env := e, H := H', nt := s.nt, dfs := s.dfs })) (fun _ => K (.tup []) s.H s.dfs))
   (hk2 : Zh ops (s.only (o2.looksAt ops)) o2 (fun s' => OpA P r o2 s' K2 (fun d H' => ∀ e, Q (.pan d) { env := e, H := H', nt := s.nt, dfs := s.dfs })) (fun _ => K2 (.tup []) s.H s.dfs))
   (hpin : ∀ d H' ds, K d H' ds -> ∀ u ∈ p, POk ar T ops s u -> POk ar T ops (s.step o.dst d H' ds) u) (hpin2 : ∀ d H' ds, K2 d H' ds -> ∀ u ∈ p2, POk ar T ops s u -> POk ar T ops (s.step o2.dst d H' ds) u)
   (h : ∀ d H' ds, K d H' ds -> DrawA P T r m ops Q (j :: L) p (s.step o.dst d H' ds)) (h2 : ∀ d H' ds, K2 d H' ds -> DrawA P T r m ops Q (i :: L) p2 (s.step o2.dst d H' ds)) : DrawA P T r m ops Q (i :: j :: L) pend s
end Go.Abs

namespace Go.Abs
open Go
section
variable {P : Program} {T : TT} {r : Option Nat} {m : Nat} {ops : Array Oper} {Q : AX -> St -> Prop}
theorem Z3x {Fe : Fence} {n : Nat} {q q' : Exit -> Act -> World -> Prop} (hq : ∀ e a w, q e a w -> q' e a w) : ∀ (fuel : Nat) (listed : Array Bool) (a : Act) (w : World), wpAnyIn Fe n P .any ops q fuel listed a w -> wpAnyIn Fe n P .any ops q' fuel listed a w
 | 0, listed, a, w, h => ⟨h.1, hq _ _ _ h.2⟩
 | fuel + 1, listed, a, w, h => ⟨fun e => hq _ _ _ (h.1 e), fun i hi => by
  have h2 := h.2 i hi
  unfold wpOpIn at h2 ⊢
  split
  ·rename_i ho; rw [ho] at h2; exact Z3x hq fuel _ _ _ h2
  ·rename_i o ho
   rw [ho] at h2
   simp only at h2
   split
   ·rename_i hw; rw [if_pos hw] at h2; exact ⟨h2.1, Zgt (Z3x hq fuel _) hq h2.2⟩
   ·rename_i hw; rw [if_neg hw] at h2; exact ⟨h2.1, Z3x hq fuel _ _ _ h2.2⟩⟩
structure RD (T : TT) (m : Nat) (ops : Array Oper) (F : Fz) (μ : Mu) (s : St) (L : List Nat) (und : List (Nat × PK)) (listed : Array Bool) (a : Act) (w : World) : Prop where
 hr : HR F μ s.H w
 env : ∀ t d, Z1c s.env t = some d -> (∀ u ∈ und, ∀ o, ops[u.1]? = some o -> o.dst ≠ some t) -> ∃ v, a.tmps[t]? = some v /\ VR F μ d v
 nt : a.tmps.size = s.nt
 dfs : ADR F μ s.H s.dfs a.defers
 len : m <= s.H.length
 size : listed.size = ops.size
 opn : ∀ (i : Nat), listed[i]? = some false ↔ (i ∈ L ∨ ∃ u ∈ und, u.1 = i)
 nd : (L ++ und.map (·.1)).Nodup
 ok : ∀ u ∈ und, POk ar T ops s u
 cl : ∀ u ∈ und, ∀ u' ∈ und, ∀ o o' t, ops[u.1]? = some o -> ops[u'.1]? = some o' -> o'.dst = some t -> t ∈ o.looksAt ops -> u'.1 ∈ ons o
 ds : ∀ u ∈ und, ∀ u' ∈ und, u.1 ≠ u'.1 -> ∀ o o' t, ops[u.1]? = some o -> ops[u'.1]? = some o' -> o.dst = some t -> o'.dst ≠ some t
 pr : ∀ u ∈ und, ∀ k x d, u.2 = .alc k x d -> μ k = none /\ m <= k
 ks : ∀ u ∈ und, ∀ u' ∈ und, ∀ k x d x' d', u.2 = .alc k x d -> u'.2 = .alc k x' d' -> u.1 = u'.1
def Z3p (und : List (Nat × PK)) (i : Nat) : List (Nat × PK) := und.filter fun u => !(Nat.beq u.1 i)
theorem Z1x {und : List (Nat × PK)} {i : Nat} {u : Nat × PK} : u ∈ Z3p und i ↔ u ∈ und /\ u.1 ≠ i := by
 unfold Z3p;rw [List.mem_filter];refine and_congr_right fun _ => ?_;constructor
 ·intro h e; subst e; simp at h
 ·intro h
  cases hb : Nat.beq u.1 i with
  | false => rfl
  | true => exact absurd (Nat.eq_of_beq_eq_true hb) h
theorem Z6k : ∀ {und : List (Nat × PK)} {i : Nat}, (und.map (·.1)).Nodup -> i ∈ und.map (·.1) -> (Z3p und i).length + 1 = und.length
 | [], i, _, h => by simp at h
 | u :: und, i, hn, h => by
  simp only [List.map_cons, List.nodup_cons] at hn
  by_cases e : u.1 = i
  ·have : Z3p (u :: und) i = und := by
    unfold Z3p;rw [List.filter_cons];have hb : (!(Nat.beq u.1 i)) = false := by rw [e, Nat.beq_refl]; rfl
    rw [hb];simp only [Bool.false_eq_true, if_false];rw [List.filter_eq_self];intro x hx
    cases hb : Nat.beq x.1 i with
    | false => rfl
    | true => exact absurd (List.mem_map.2 ⟨x, hx, (Nat.eq_of_beq_eq_true hb).trans e.symm⟩) hn.1
   rw [this]; rfl
  ·have hb : (!(Nat.beq u.1 i)) = true := by
    cases hb : Nat.beq u.1 i with
    | false => rfl
    | true => exact absurd (Nat.eq_of_beq_eq_true hb) e
   have h2 : i ∈ und.map (·.1) := by
    simp only [List.map_cons, List.mem_cons] at h;exact h.resolve_left (fun e' => e e'.symm)
   have := Z6k hn.2 h2;unfold Z3p at this ⊢;rw [List.filter_cons, hb];simp only [if_true, List.length_cons];omega
theorem Zml {und : List (Nat × PK)} {i : Nat} : (Z3p und i).map (·.1) = (und.map (·.1)).filter fun j => !(Nat.beq j i) := by
 unfold Z3p; rw [List.filter_map]; rfl
variable {F : Fz} {μ : Mu} {s : St} {L : List Nat} {und : List (Nat × PK)} {listed : Array Bool} {a : Act} {w : World}
theorem RD.pre (h : RD T m ops F μ s L und listed a w) {i : Nat} {o : Oper} (ho : ops[i]? = some o) (hi : i ∈ Region.ready .any ops listed) : ∀ e ∈ ons o, ¬ (e ∈ L ∨ ∃ u ∈ und, u.1 = e) := fun e he hop => by
 obtain ⟨-, o', ho', hall⟩ := mem_ready.1 hi;rw [ho] at ho'; cases ho';unfold ons at he;obtain ⟨ed, hed, rfl⟩ := List.mem_map.1 he;obtain ⟨hed, hb⟩ := List.mem_filter.1 hed;have h1 := hall ed (by simpa using hed) hb;have h2 := (h.opn ed.on).2 hop;rw [Array.getD_eq_getD_getElem?, h2] at h1
 cases h1
theorem RD.open_of_ready (h : RD T m ops F μ s L und listed a w) {i : Nat} (hi : i ∈ Region.ready .any ops listed) : i ∈ L ∨ ∃ u ∈ und, u.1 = i := by
 obtain ⟨h1, o, ho, -⟩ := mem_ready.1 hi;have hlt : i < listed.size := by rw [h.size]; exact (Array.getElem?_eq_some_iff.1 ho).1
 rw [Array.getD_eq_getD_getElem?, Array.getElem?_eq_getElem hlt] at h1;exact (h.opn i).1 (by rw [Array.getElem?_eq_getElem hlt]; simpa using h1)
theorem RD.progress (h : RD T m ops F μ s L und listed a w) (hE : ∀ (i : Nat) (o : Oper), ops[i]? = some o -> ∀ e ∈ ons o, e < i) (hne : ∃ i, i ∈ L ∨ ∃ u ∈ und, u.1 = i) : Region.ready .any ops listed ≠ [] := by
 obtain ⟨i, hi, hmin⟩ := Za7 hne;have h0 := (h.opn i).2 hi;have hlt : i < ops.size := by rw [<- h.size]; exact (Array.getElem?_eq_some_iff.1 h0).1
 intro hnil;have : i ∈ Region.ready .any ops listed := by
  refine mem_ready.2 ⟨by rw [Array.getD_eq_getD_getElem?, h0]; rfl, ops[i], Array.getElem?_eq_getElem hlt, fun e he hb => ?_⟩;have hl := hE i _ (Array.getElem?_eq_getElem hlt) e.on (List.mem_map.2 ⟨e, List.mem_filter.2 ⟨by simpa using he, hb⟩, rfl⟩);have hel : e.on < listed.size := by rw [h.size]; omega
  rw [Array.getD_eq_getD_getElem?, Array.getElem?_eq_getElem hel]
  cases hb2 : listed[e.on] with
  | true => rfl
  | false =>
   have := hmin e.on ((h.opn e.on).1 (by rw [Array.getElem?_eq_getElem hel, hb2]));omega
 rw [hnil] at this
 cases this
theorem RD.er (h : RD T m ops F μ s L und listed a w) {i : Nat} {o : Oper} (ho : ops[i]? = some o) (hi : i ∈ Region.ready .any ops listed)
  (hc : ∀ u' ∈ und, ∀ o' t, ops[u'.1]? = some o' -> o'.dst = some t -> t ∈ o.looksAt ops -> u'.1 ∈ ons o) : ER F μ (s.only (o.looksAt ops)) a :=
 ⟨fun t d ht => by
  obtain ⟨h1, h2⟩ := Zil ht
  exact h.env t d h1 fun u' hu' o' ho' hd => h.pre ho hi _ (hc u' hu' o' t ho' hd h2) (.inr ⟨u', hu', rfl⟩), h.nt, h.dfs⟩
theorem Zrq (h : RD T m ops F μ s L und listed a w) {u : Nat × PK} (hu : u ∈ und) : ∀ (i : Nat), (listed.setIfInBounds u.1 true)[i]? = some false ↔ (i ∈ L ∨ ∃ x ∈ Z3p und u.1, x.1 = i) := fun i => by
 have hnd := h.nd;rw [List.nodup_append] at hnd;rw [Array.getElem?_setIfInBounds]
 by_cases e : u.1 = i
 ·subst e;rw [if_pos rfl];constructor
  ·intro hh; split at hh <;> cases hh
  ·rintro (hL | ⟨x, hx, hxe⟩)
   ·exact absurd rfl (hnd.2.2 _ hL _ (List.mem_map.2 ⟨u, hu, rfl⟩))
   ·exact absurd hxe (Z1x.1 hx).2
 ·rw [if_neg e, h.opn i];refine or_congr_right ⟨fun ⟨x, hx, hxe⟩ => ⟨x, Z1x.2 ⟨hx, by rw [hxe]; exact fun e' => e e'.symm⟩, hxe⟩, fun ⟨x, hx, hxe⟩ => ⟨x, (Z1x.1 hx).1, hxe⟩⟩
theorem Zuj (h : RD T m ops F μ s L und listed a w) (i : Nat) : (L ++ (Z3p und i).map (·.1)).Nodup := by
 have hnd := h.nd;rw [List.nodup_append] at hnd ⊢;refine ⟨hnd.1, by rw [Zml]; exact hnd.2.1.sublist List.filter_sublist, fun x hx y hy => ?_⟩;obtain ⟨z, hz, rfl⟩ := List.mem_map.1 hy;exact hnd.2.2 x hx _ (List.mem_map.2 ⟨z, (Z1x.1 hz).1, rfl⟩)
end
end Go.Abs

namespace Go.Abs
open Go
section
variable {P : Program} {T : TT} {r : Option Nat} {m : Nat} {ops : Array Oper} {Q : AX -> St -> Prop}
variable {F : Fz} {μ : Mu} {s : St} {L : List Nat} {und : List (Nat × PK)} {listed : Array Bool} {a : Act} {w : World}
theorem Zo2 {a : Act} {dst : Option Nat} {v : Value} (t : Nat) : (a.put dst v).tmps[t]? = if dst = some t /\ t < a.tmps.size then some v else a.tmps[t]? := by
 cases dst with
 | none => simp [Act.put]
 | some t0 =>
  simp only [Act.put, Array.getElem?_setIfInBounds]
  by_cases e : t0 = t
  ·subst e
   by_cases hl : t0 < a.tmps.size
   ·simp [hl]
   ·simp [hl]
  ·simp [e]
theorem Zk6 {a : Act} {dst : Option Nat} {v : Value} : (a.put dst v).tmps.size = a.tmps.size := by cases dst <;> simp [Act.put]
theorem Zo3 {a : Act} {dst : Option Nat} {v : Value} : (a.put dst v).defers = a.defers := by cases dst <;> rfl
theorem Zrr {n : Nat} {dst : Option Nat} {t : Nat} (h : Z36 n dst = true) (e : dst = some t) : t < n := by subst e; exact Nat.le_of_ble_eq_true h
theorem Zfg (hT : TOK P T) (h : RD T m ops F μ s L und listed a w) {u : Nat × PK} (hu : u ∈ und) (hi : u.1 ∈ Region.ready .any ops listed)
  (IH : ∀ (F : Fz) (μ : Mu) (listed : Array Bool) (a : Act) (w : World), RD T m ops F μ s L (Z3p und u.1) listed a w -> wpAnyIn (Fc r) 0 P .any ops (Z4f F μ s.H w m Q) (L.length + (Z3p und u.1).length) listed a w) :
  wpOpIn (Fc r) 0 P ops (Z4f F μ s.H w m Q) u.1 (wpAnyIn (Fc r) 0 P .any ops (Z4f F μ s.H w m Q) (L.length + (Z3p und u.1).length) (listed.setIfInBounds u.1 true)) a w := by
 obtain ⟨o, ho, hdk, hdst, hm⟩ := (h.ok u hu).out;have er := h.er ho hi (fun u' hu' o' t h1 h2 h3 => h.cl u hu u' hu' o o' t ho h1 h2 h3);have nextE : ∀ (μ' : Mu) (w' : World) (v : Value), (∀ k x, μ k = some x -> μ' k = some x) -> VR F μ' u.2.d v -> ∀ t d, Z1c s.env t = some d -> (∀ u' ∈ Z3p und u.1, ∀ o', ops[u'.1]? = some o' -> o'.dst ≠ some t) -> ∃ v', (a.put o.dst v).tmps[t]? = some v' /\ VR F μ' d v' := fun μ' w' v hmono hv t d ht hun => by
  rw [Zo2]
  by_cases e : o.dst = some t
  ·have := hdst t e;rw [ht] at this; cases this;exact ⟨v, by rw [if_pos ⟨e, by rw [h.nt]; exact Zrr hdk e⟩], hv⟩
  ·rw [if_neg (fun hh => e hh.1)];obtain ⟨v', h1, h2⟩ := h.env t d ht fun u' hu' o' ho' => by
    by_cases e' : u'.1 = u.1
    ·rw [e', ho] at ho'; cases ho'; exact e
    ·exact hun u' (Z1x.2 ⟨hu', e'⟩) o' ho'
   exact ⟨v', h1, h2.mono (fun _ _ _ e => e) hmono⟩
 have sz : (listed.setIfInBounds u.1 true).size = ops.size := by rw [Array.size_setIfInBounds]; exact h.size
 have mk : ∀ (μ' : Mu) (w' : World) (v : Value), HR F μ' s.H w' -> (∀ k x, μ k = some x -> μ' k = some x) -> (∀ k c, μ.inn k c -> μ'.inn k c) -> VR F μ' u.2.d v -> (∀ u' ∈ Z3p und u.1, ∀ k x d, u'.2 = .alc k x d -> μ' k = none /\ m <= k) -> RD T m ops F μ' s L (Z3p und u.1) (listed.setIfInBounds u.1 true) (a.put o.dst v) w' := fun μ' w' v h1 h2 hi h3 h4 =>
  ⟨h1, nextE μ' w' v h2 h3, by rw [Zk6]; exact h.nt, by rw [Zo3]; exact h.dfs.mono (fun _ _ _ e => e) h2 (fun k hk => ⟨hk, hi k⟩), h.len, sz, Zrq h hu, Zuj h _, fun u' hu' => h.ok u' (Z1x.1 hu').1,
   fun u1 h1 u2 h2 => h.cl u1 (Z1x.1 h1).1 u2 (Z1x.1 h2).1, fun u1 h1 u2 h2 => h.ds u1 (Z1x.1 h1).1 u2 (Z1x.1 h2).1, h4, fun u1 h1 u2 h2 => h.ks u1 (Z1x.1 h1).1 u2 (Z1x.1 h2).1⟩
 have same : ∀ v, VR F μ u.2.d v -> RD T m ops F μ s L (Z3p und u.1) (listed.setIfInBounds u.1 true) (a.put o.dst v) w := fun v hv =>
  mk μ w v h.hr (fun _ _ e => e) (fun _ _ e => e) hv fun u' hu' k x d e => h.pr u' (Z1x.1 hu').1 k x d e
 unfold wpOpIn;rw [ho];simp only;obtain ⟨i, pk⟩ := u
 cases pk with
 | val d =>
  simp only at hm;obtain ⟨e, he, hc⟩ := Z4m hm er;have er' : ER F μ { s.only (o.looksAt ops) with env := e } a := ⟨fun t d ht => er.env t d (he t d ht), er.nt, er.dfs⟩;rcases hc with ⟨hw, hk⟩ | ⟨hw, hk⟩
  ·rw [if_pos hw];obtain ⟨g1, d', v, g2, g3, g4⟩ := Zez (s := { s.only (o.looksAt ops) with env := e }) hT h.hr er' hk;refine ⟨fun _ _ => trivial, ?_⟩;rw [Oper.semAt_eq _ a.eval o g1, g2, Oper.uponIn_value];subst g4;exact IH F μ _ _ w (same v g3)
  ·rw [if_neg (by rw [hw]; simp)];refine ⟨fun _ _ => trivial, IH F μ _ _ w (same undef ?_)⟩;show VR F μ d undef;rw [<- hk]; exact Z5h
 | alc k x d =>
  obtain ⟨hm1, hm2, hm3⟩ := hm;obtain ⟨e, he, hc⟩ := Z4m hm1 er;have er' : ER F μ { s.only (o.looksAt ops) with env := e } a := ⟨fun t d ht => er.env t d (he t d ht), er.nt, er.dfs⟩;rcases hc with ⟨hw, hk⟩ | ⟨hw, hk⟩
  ·rw [if_pos hw];obtain ⟨g1, x', mk', y, ⟨hbf, sz', es, c, t, v, q1, q2, q3, q4, q5⟩, g3, g4, g5⟩ := Zf2 (w := w) (μ := μ) hT er' hk;subst g4;refine ⟨fun _ _ => trivial, ?_⟩;rw [Oper.semAt_eq _ a.eval o g1, g3, Sem.run_bind, q2];simp only [Result.andThen_ok, Sem.run_pure, Oper.uponIn_value];obtain ⟨hk0, hkm⟩ := h.pr _ hu k x' d rfl;rw [Z1u] at hm2;have hklt := (List.getElem?_eq_some_iff.1 hm2).1;obtain ⟨r1, r2, r3⟩ := Zji h.hr hk0 (Nat.le_of_lt hklt) hbf q1 q3 q4 t;have hset : Z4l s.H k x' = s.H := by
    unfold Z4l;rw [if_pos hklt];have := (List.getElem?_eq_some_iff.1 hm2).2;rw [<- this]; exact List.set_getElem_self hklt
   rw [hset] at r1 r2;have hv : VR F (Z4v μ k (some (w.heap.size, c.size))) d v := by rw [<- g5]; exact q5 k _ (Z2f _ _ _)
   have hrd := mk _ _ v r1 r3 (fun _ _ e => e) hv fun u' hu' k' x1 d1 e1 => by
    have h2 := h.pr u' (Z1x.1 hu').1 k' x1 d1 e1;refine ⟨?_, h2.2⟩;rw [Z2k]
    ·exact h2.1
    ·intro e2; subst e2;exact (Z1x.1 hu').2 (h.ks u' (Z1x.1 hu').1 _ hu k' x1 d1 x' d e1 rfl)
   exact Z3x (fun _ _ _ hp => hp.trans r2 ⟨fun j hj => by rw [Z2k _ (by omega)], fun _ _ hk => ⟨hk, fun _ e => e⟩⟩) _ _ _ _ (IH F _ _ _ _ hrd)
  ·exact hk.elim
end
end Go.Abs

namespace Go.Abs
open Go
section
variable {P : Program} {T : TT} {r : Option Nat} {m : Nat} {ops : Array Oper} {Q : AX -> St -> Prop}
variable {F : Fz} {μ : Mu} {s : St} {L : List Nat} {und pend : List (Nat × PK)} {listed : Array Bool} {a : Act} {w : World}
theorem Zmm {H : List Blk} (h : HR F μ H w) {x : Blk} (hb : BFr x) (hno : x.obj = none) : HR F μ (H ++ [x]) w /\ Post F μ H w F μ (H ++ [x]) w := by
 have hn : μ H.length = none := h.dom _ (Nat.le_refl _);have get : ∀ k, k ≠ H.length -> (H ++ [x])[k]? = H[k]? := fun k hk => by
  by_cases hlt : k < H.length
  ·rw [List.getElem?_append_left hlt]
  ·rw [List.getElem?_eq_none (by simp; omega), List.getElem?_eq_none (by omega)]
 have nf : ∀ b, ¬ Z40 μ H.length b := fun b hf => by
  rcases hf with ⟨m, hm⟩ | hi
  ·rw [hn] at hm; cases hm
  ·exact h.non _ hn b hi
 have := Z5e (μ' := μ) (w' := w) (H' := H ++ [x]) (fun j => j = H.length) h (by simp) get (fun _ _ => rfl) (fun _ _ _ => Iff.rfl) (fun _ _ _ e => e) (Nat.le_refl _) rfl rfl rfl (fun _ _ _ => rfl)
  (fun k b hk _ hf => by subst hk; exact absurd hf (nf b)) (fun k1 k2 b h1 h2 _ _ _ _ => h1.trans h2.symm) (fun k hk _ => by subst hk; exact hn) (fun _ k sz es hk _ hne => by subst hk; exact absurd hn hne)
  (fun k y hk _ b => by subst hk; exact h.non _ hn b) (fun _ k y hk hy _ => by subst hk; rw [Z19 (x := x) (by simp), hno] at hy; cases hy) (fun k hk _ => by subst hk; exact h.non _ hn) (fun k y hk hy => by
   subst hk; simp at hy; subst hy; exact hb)
 exact ⟨this.1, this.2.1⟩
theorem Zrs {A : Ar} {s1 : St} {x : Blk} {d : D} {k : Nat} {op : Op} (h : Z5g A T s1 (fun y mk => y = x /\ mk k = d) op) : x.obj = none := by
 cases op <;> simp only [Z5g, Zpd, Zpe] at h
 all_goals repeat' (split at h)
 all_goals first
  | exact h.elim
  | exact h.2.2.elim
  | (obtain ⟨rfl, -⟩ := h; rfl)
  | (obtain ⟨-, -, rfl, -⟩ := h; rfl)
theorem Zuk {A : Ar} {s1 : St} {x : Blk} {d : D} {k : Nat} {o : Oper} (h : Zh ops s1 o (fun s' => Z5g A T s' (fun y mk => y = x /\ mk k = d) o.op) (fun _ => False)) : x.obj = none := by
 unfold Zh at h
 repeat' (split at h)
 all_goals first
  | exact Zrs h
  | exact h.elim
theorem Z5o (e : List (Nat × D)) (dst : Option Nat) (d : D) (n : Nat) : Z1c (Z9c e dst d) n = if dst = some n then some d else Z1c e n := by
 cases dst with
 | none => simp [Z9c]
 | some t => simp only [Z9c, Z5n, Option.some.injEq]
theorem Zce {dst : Option Nat} {d : D} {H : List Blk} {ds : List AD} {ts : List Nat} (h : ∀ t, dst = some t -> t ∉ ts) : ((s.step dst d H ds).only ts).env = (s.only ts).env :=
 Zk5 fun t ht => by
  show Z1c (Z9c s.env dst d) t = _;rw [Z5o, if_neg (fun e => h t e ht)]
theorem Zgy {dst : Option Nat} {d : D} {ts : List Nat} (h : ∀ t, dst = some t -> t ∉ ts) : (s.step dst d s.H s.dfs).only ts = s.only ts := by
 have := Zce (s := s) (d := d) (H := s.H) (ds := s.dfs) h;simp only [St.only, St.step] at this ⊢;rw [this]
theorem Zul {u : Nat × PK} {o : Oper} {d : D} (hw : ∀ o' t, ops[u.1]? = some o' -> o.dst = some t -> o'.dst ≠ some t /\ t ∉ o'.looksAt ops) (h : POk ar T ops s u) : POk ar T ops (s.step o.dst d s.H s.dfs) u := by
 obtain ⟨o', h1, h2, h3, h4⟩ := h.out;have he : (s.step o.dst d s.H s.dfs).only (o'.looksAt ops) = s.only (o'.looksAt ops) := Zgy fun t ht => (hw o' t h1 ht).2;refine ⟨o', h1, h2, fun t ht => ?_, ?_⟩
 ·show Z1c (Z9c s.env o.dst d) t = _;rw [Z5o, if_neg (fun e => (hw o' t h1 e).1 ht)]; exact h3 t ht
 ·obtain ⟨i, pk⟩ := u
  cases pk with
  | val d' => simp only at h4 ⊢; rw [he]; exact h4
  | alc k x d' => simp only at h4 ⊢; rw [he]; exact h4
theorem Zk7 {A : Ar} {s1 s2 : St} (h : s2.env = s1.env) {K : Blk -> (Nat -> D) -> Prop} (op : Op) : Z5g A T s2 K op = Z5g A T s1 K op := by
 cases op <;> simp only [Z5g, h]
theorem Zgz {s1 s2 : St} (h : s2.env = s1.env) {o : Oper} {K : Blk -> (Nat -> D) -> Prop} (hg : Zh ops s1 o (fun s' => Z5g ar T s' K o.op) (fun _ => False)) : Zh ops s2 o (fun s' => Z5g ar T s' K o.op) (fun _ => False) := by
 unfold Zh at hg ⊢;rw [h]
 split at hg
 ·rw [Zk7 h]; exact hg
 ·split at hg
  ·exact hg.elim
  ·split at hg
   ·exact hg.elim
   ·split at hg
    ·split at hg <;> split at hg <;> first | exact hg.elim | (rw [Zk7 (s1 := { s1 with env := Z6j s1.env _ _ }) (by rfl)]; exact hg)
    ·exact hg.elim
    ·exact hg.elim
theorem RD.more (h : RD T m ops F μ s (L) und listed a w) {i : Nat} {L' : List Nat} (hL : L = i :: L') {o : Oper} (ho : ops[i]? = some o) (hsub : ∀ u ∈ und, u ∈ pend) (hl : LooksOk ops o pend) (hw : WritesOk ops o pend) (hs : ∀ t, o.dst = some t -> t ∉ o.looksAt ops)
  {H' : List Blk} {d : D} {pk : PK} (hr : HR F μ H' w) (hob : ∀ k y, Z13 s.H k = some y -> Z13 H' k = some y) (hlen : m <= H'.length) (hok : ∀ u ∈ (i, pk) :: und, POk ar T ops (s.step o.dst d H' s.dfs) u)
  (hpr : ∀ k x d, pk = .alc k x d -> μ k = none /\ m <= k) (hks : ∀ k x d, pk = .alc k x d -> ∀ u ∈ und, ∀ x' d', u.2 ≠ .alc k x' d') : RD T m ops F μ (s.step o.dst d H' s.dfs) L' ((i, pk) :: und) listed a w := by
 subst hL;have hnd := h.nd;refine ⟨hr, fun t d0 ht hun => ?_, h.nt, h.dfs.mono (fun _ _ _ e => e) (fun _ _ e => e) (fun k hk => ⟨hob k _ hk, fun _ e => e⟩), hlen, h.size, fun j => ?_, ?_, hok, fun u hu u' hu' o1 o2 t h1 h2 h3 h4 => ?_, fun u hu u' hu' hne o1 o2 t h1 h2 h3 => ?_, fun u hu k x d0 e => ?_, fun u hu u' hu' k x d0 x' d0' e e' => ?_⟩
 ·have hne := hun (i, pk) (by simp) o ho
  change Z1c (Z9c s.env o.dst d) t = some d0 at ht
  rw [Z5o, if_neg hne] at ht;exact h.env t d0 ht fun u hu => hun u (by simp [hu])
 ·rw [h.opn j];constructor
  ·rintro (hj | ⟨u, hu, e⟩)
   ·rcases List.mem_cons.1 hj with rfl | hj
    ·exact .inr ⟨(j, pk), by simp, rfl⟩
    ·exact .inl hj
   ·exact .inr ⟨u, by simp [hu], e⟩
  ·rintro (hj | ⟨u, hu, e⟩)
   ·exact .inl (by simp [hj])
   ·rcases List.mem_cons.1 hu with rfl | hu
    ·exact .inl (by simp [<- e])
    ·exact .inr ⟨u, hu, e⟩
 ·rw [List.map_cons];exact (List.perm_middle.nodup_iff).2 (by simpa using hnd)
 ·rcases List.mem_cons.1 hu with rfl | hu <;> rcases List.mem_cons.1 hu' with rfl | hu'
  ·simp only at h1 h2;rw [ho] at h1 h2; cases h1; cases h2;exact absurd h4 (hs t h3)
  ·simp only at h1;rw [ho] at h1; cases h1;exact hl.out u' (hsub u' hu') o2 t h2 h3 h4
  ·simp only at h2;rw [ho] at h2; cases h2;exact absurd h4 (hw.out u (hsub u hu) o1 t h1 h3).2
  ·exact h.cl u hu u' hu' o1 o2 t h1 h2 h3 h4
 ·rcases List.mem_cons.1 hu with rfl | hu <;> rcases List.mem_cons.1 hu' with rfl | hu'
  ·exact absurd rfl hne
  ·simp only at h1;rw [ho] at h1; cases h1;exact (hw.out u' (hsub u' hu') o2 t h2 h3).1
  ·simp only at h2;rw [ho] at h2; cases h2;intro e;exact (hw.out u (hsub u hu) o1 t h1 e).1 h3
  ·exact h.ds u hu u' hu' hne o1 o2 t h1 h2 h3
 ·rcases List.mem_cons.1 hu with rfl | hu
  ·exact hpr k x d0 e
  ·exact h.pr u hu k x d0 e
 ·rcases List.mem_cons.1 hu with rfl | hu <;> rcases List.mem_cons.1 hu' with rfl | hu'
  ·rfl
  ·exact absurd e' (hks k x d0 e u' hu' x' d0')
  ·exact absurd e (hks k x' d0' e' u hu x d0)
  ·exact h.ks u hu u' hu' k x d0 x' d0' e e'
theorem RD.eff (h : RD T m ops F μ s L und listed a w) {i : Nat} {L' : List Nat} (hL : L = i :: L') {o : Oper} (hd : Z36 s.nt o.dst = true) {F' : Fz} {μ' : Mu} {H' : List Blk} {w' : World} {d : D} {v : Value} {ds : List AD} {dv : List Deferred} (hs : Stp F μ s.H w F' μ' H' w') (hds : ADR F' μ' H' ds dv) (hv : VR F' μ' d v)
  (hok : ∀ u ∈ und, POk ar T ops (s.step o.dst d H' ds) u) : RD T m ops F' μ' (s.step o.dst d H' ds) L' und (listed.setIfInBounds i true) ({ a with defers := dv }.put o.dst v) w' := by
 subst hL;have hnd := h.nd;rw [List.cons_append, List.nodup_cons] at hnd;refine ⟨hs.hr, fun t d0 ht hun => ?_, by rw [Zk6]; exact h.nt, by rw [Zo3]; exact hds, Nat.le_trans h.len hs.len, by rw [Array.size_setIfInBounds]; exact h.size, fun j => ?_, hnd.2, hok, h.cl, h.ds, fun u hu k x d0 e => ?_, h.ks⟩
 ·rw [Zo2]
  change Z1c (Z9c s.env o.dst d) t = some d0 at ht
  rw [Z5o] at ht
  split at ht
  ·rename_i e; cases ht
   exact ⟨v, by rw [if_pos ⟨e, by show t < a.tmps.size; rw [h.nt]; exact Zrr hd e⟩], hv⟩
  ·rename_i e
   rw [if_neg (fun hh => e hh.1)];obtain ⟨u, h1, h2⟩ := h.env t d0 ht hun;exact ⟨u, h1, hs.vr h.hr h2⟩
 ·rw [Array.getElem?_setIfInBounds]
  by_cases e : i = j
  ·subst e;rw [if_pos rfl];constructor
   ·intro hh; split at hh <;> cases hh
   ·rintro (hL | ⟨u, hu, e⟩)
    ·exact absurd (List.mem_append.2 (.inl hL)) hnd.1
    ·exact absurd (List.mem_append.2 (.inr (List.mem_map.2 ⟨u, hu, e⟩))) hnd.1
  ·rw [if_neg e, h.opn j];refine or_congr_left ⟨fun hj => ?_, fun hj => by simp [hj]⟩;rcases List.mem_cons.1 hj with hj | hj
   ·exact absurd hj.symm e
   ·exact hj
 ·obtain ⟨h1, h2⟩ := h.pr u hu k x d0 e;obtain ⟨o', -, -, -, h4⟩ := (h.ok u hu).out;rw [e] at h4;have h5 := h4.2.1;rw [Z1u] at h5;exact ⟨by rw [hs.same k (List.getElem?_eq_some_iff.1 h5).1]; exact h1, h2⟩
theorem RD.swap {i j : Nat} {L : List Nat} (h : RD T m ops F μ s (i :: j :: L) und listed a w) : RD T m ops F μ s (j :: i :: L) und listed a w :=
 ⟨h.hr, h.env, h.nt, h.dfs, h.len, h.size, fun k => by
  rw [h.opn k]
  refine or_congr_left ?_
  simp only [List.mem_cons]
  constructor <;> rintro (e | e | e) <;> simp [e], by
  have := h.nd
  simp only [List.cons_append] at this ⊢
  exact (List.Perm.swap _ _ _).nodup_iff.1 this, h.ok, h.cl, h.ds, h.pr, h.ks⟩
theorem Zk8 (hT : TOK P T) (hE : ∀ (i : Nat) (o : Oper), ops[i]? = some o -> ∀ e ∈ ons o, e < i) {L : List Nat} {pend : List (Nat × PK)} {s : St} (hD : DrawA P T r m ops Q L pend s) :
  ∀ (und : List (Nat × PK)), (∀ u ∈ und, u ∈ pend) -> ∀ (F : Fz) (μ : Mu) (listed : Array Bool) (a : Act) (w : World), RD T m ops F μ s L und listed a w -> wpAnyIn (Fc r) 0 P .any ops (Z4f F μ s.H w m Q) (L.length + und.length) listed a w := by
 induction hD with
 | @done pend s hq =>
  intro und
  generalize hn : und.length = n
  induction n using Nat.strongRecOn generalizing und with
  | _ n ih =>
   intro hsub F μ listed a w hrd
   cases n with
   | zero =>
    have hu : und = [] := by cases und with
     | nil => rfl
     | cons => simp at hn
    subst hu;refine ⟨?_, Z4f.here (x := .normal) ⟨hrd.hr, ⟨fun t d ht => hrd.env t d ht (fun u hu => by simp at hu), hrd.nt, hrd.dfs⟩, hrd.len⟩ trivial hq⟩
    cases hr : Region.ready .any ops listed with
    | nil => rfl
    | cons j js =>
     have := hrd.open_of_ready (i := j) (by rw [hr]; simp);simp at this
   | succ n =>
    have hne : ∃ i, i ∈ ([] : List Nat) ∨ ∃ u ∈ und, u.1 = i := by
     cases und with
     | nil => simp at hn
     | cons u us => exact ⟨u.1, .inr ⟨u, by simp, rfl⟩⟩
    refine ⟨fun e => absurd e (hrd.progress hE hne), fun j hj => ?_⟩;rcases hrd.open_of_ready hj with h | ⟨u, hu, rfl⟩
    ·simp at h
    ·have hnd := hrd.nd;rw [List.nil_append] at hnd;have hlen := Z6k hnd (List.mem_map.2 ⟨u, hu, rfl⟩);have := Zfg (Q := Q) (r := r) hT hrd hu hj (fun F μ listed a w h => by
      rw [List.length_nil, Nat.zero_add]
      have := ih (Z3p und u.1).length (by omega) (Z3p und u.1) rfl (fun x hx => hsub x (Z1x.1 hx).1) F μ listed a w h
      rwa [List.length_nil, Nat.zero_add] at this)
     rw [List.length_nil, Nat.zero_add, show (Z3p und u.1).length = n by omega] at this;have e0 : Nat.add 0 n = n := Nat.zero_add n;simp only [List.length_nil, e0];exact this
 | @val i L pend s o d ho hd hl hw hs hy _ ih =>
  intro und hsub F μ listed a w hrd;have := ih ((i, .val d) :: und) (fun u hu => by
   rcases List.mem_cons.1 hu with rfl | hu
   ·simp
   ·simp [hsub u hu]) F μ listed a w (hrd.more rfl ho hsub hl hw hs hrd.hr (fun _ _ e => e) hrd.len (fun u hu => by
    rcases List.mem_cons.1 hu with rfl | hu
    ·refine ⟨o, ho, hd, fun t ht => ?_, ?_⟩
     ·show Z1c (Z9c s.env o.dst d) t = _
      rw [Z5o, if_pos ht]; rfl
     ·show Z9i ar T ops ((s.step o.dst d s.H s.dfs).only (o.looksAt ops)) o _
      rw [Zgy hs]; exact hy
    ·exact Zul (fun o' t h1 h2 => hw.out u (hsub u hu) o' t h1 h2) (hrd.ok u hu)) (fun k x d e => by cases e) (fun k x d e => by cases e))
  rw [List.length_cons, show L.length + 1 + und.length = L.length + (und.length + 1) by omega];exact this
 | @alc i L pend s o x d ho hd hl hw hs hb hy hp _ ih =>
  intro und hsub F μ listed a w hrd;obtain ⟨r1, r2⟩ := Zmm hrd.hr hb (Zuk hy);have := ih ((i, .alc s.H.length x d) :: und) (fun u hu => by
   rcases List.mem_cons.1 hu with rfl | hu
   ·simp
   ·simp [hsub u hu]) F μ listed a w (hrd.more rfl ho hsub hl hw hs r1 (fun _ _ e => Z41 x e) (by have := hrd.len; simp; omega) (fun u hu => by
    rcases List.mem_cons.1 hu with rfl | hu
    ·refine ⟨o, ho, hd, fun t ht => ?_, ?_⟩
     ·show Z1c (Z9c s.env o.dst d) t = _
      rw [Z5o, if_pos ht]; rfl
     ·refine ⟨?_, by rw [Z1u]; simp [St.step], hb⟩
      have he := Zce (s := s) (dst := o.dst) (d := d) (H := s.H ++ [x]) (ds := s.dfs) (ts := o.looksAt ops) hs
      refine Zgz (s1 := s.only (o.looksAt ops)) he hy
    ·exact hp u (hsub u hu) (hrd.ok u hu)) (fun k x d e => by cases e; exact ⟨hrd.hr.dom _ (Nat.le_refl _), hrd.len⟩) (fun k x' d' e u hu x1 d1 e1 => by
     cases e
     obtain ⟨o', -, -, -, h4⟩ := (hrd.ok u hu).out
     rw [e1] at h4
     have h5 := h4.2.1
     rw [Z1u] at h5
     have := (List.getElem?_eq_some_iff.1 h5).1
     omega))
  rw [List.length_cons, show L.length + 1 + und.length = L.length + (und.length + 1) by omega];exact Z3x (fun _ _ _ hq => hq.trans r2 (.ob fun _ e => Z41 x e)) _ _ _ _ this
 | @eff i L pend s o K pend' ho hd hl hw hpp hr hk hpin h ih =>
  intro und
  generalize hn : und.length = n
  induction n using Nat.strongRecOn generalizing und with
  | _ n ihn =>
   intro hsub F μ listed a w hrd;rw [List.length_cons, show L.length + 1 + n = (L.length + n) + 1 by omega];refine ⟨fun e => absurd e (hrd.progress hE ⟨i, .inl (by simp)⟩), fun j hj => ?_⟩;rcases hrd.open_of_ready hj with hjL | ⟨u, hu, rfl⟩
   ·rcases List.mem_cons.1 hjL with rfl | hjL
    ·have er := hrd.er ho hj (fun u' hu' o' t h1 h2 h3 => hl.out u' (hsub u' hu') o' t h1 h2 h3);have hsub' : ∀ u ∈ und, u ∈ pend' := fun u hu => (hpp u (hsub u hu)).resolve_right fun hin => hrd.pre ho hj _ hin (.inr ⟨u, hu, rfl⟩);unfold wpOpIn;rw [ho];simp only;obtain ⟨e, he, hc⟩ := Z4m hk er;have er' : ER F μ { s.only (o.looksAt ops) with env := e } a := ⟨fun t d ht => er.env t d (he t d ht), er.nt, er.dfs⟩;rcases hc with ⟨hwt, hkk⟩ | ⟨hwt, hkk⟩
     ·rw [if_pos hwt];refine ⟨fun _ _ => trivial, hkk.out F μ a w hrd.hr er' _ _ (fun F' μ' H' w' ds dv d v q1 qd q2 q3 => ?_) (fun F' μ' H' w' d v q1 q2 q3 => ?_)⟩
      ·have hrd' := hrd.eff rfl hd (o := o) (ds := ds) q1 qd q2 (fun u hu => hpin d H' ds q3 u (hsub' u hu) (hrd.ok u hu));have := ih d H' ds q3 und hsub' F' μ' _ _ w' hrd';rw [hn] at this;exact Z3x (fun _ _ _ hq => hq.trans q1.post (q1.keep hrd.len)) _ _ _ _ this
      ·exact ⟨F', μ', { env := [], H := H', nt := s.nt, dfs := s.dfs }, .pan d, q1.post, q1.keep hrd.len, ⟨q1.hr, ⟨(fun t d ht => by cases ht), hrd.nt, q1.adr hrd.hr hrd.dfs⟩, Nat.le_trans hrd.len q1.len⟩, ⟨v, rfl, q2⟩, q3 []⟩
     ·rw [if_neg (by rw [hwt]; simp)];refine ⟨fun _ _ => trivial, ?_⟩;have hrd' := hrd.eff rfl hd (o := o) (d := .tup []) (v := undef) (ds := s.dfs) (Stp.refl hrd.hr) hrd.dfs Z5h (fun u hu => hpin _ _ _ hkk u (hsub' u hu) (hrd.ok u hu));have := ih _ _ _ hkk und hsub' F μ _ _ w hrd';rw [hn] at this;exact this
    ·obtain ⟨-, o', ho', -⟩ := mem_ready.1 hj;obtain ⟨e, he1, he2⟩ := hr j hjL o' ho';exact (hrd.pre ho' hj e he1 (.inl (by rcases he2 with rfl | he2 <;> simp [*]))).elim
   ·have hnd := hrd.nd;rw [List.nodup_append] at hnd;have hlen := Z6k hnd.2.1 (List.mem_map.2 ⟨u, hu, rfl⟩);have := Zfg (Q := Q) (r := r) hT hrd hu hj (fun F μ listed a w h => ihn (Z3p und u.1).length (by omega) (Z3p und u.1) rfl (fun x hx => hsub x (Z1x.1 hx).1) F μ listed a w h);rw [List.length_cons, show L.length + 1 + (Z3p und u.1).length = L.length + n by omega] at this;exact this
 | @two i j L pend s o o2 K K2 p p2 ho ho2 hd hd2 hl hl2 hw hw2 hpp hpp2 hr hk hk2 hpin hpin2 h h2 ih ih2 =>
  intro und
  generalize hn : und.length = n
  induction n using Nat.strongRecOn generalizing und with
  | _ n ihn =>
   intro hsub F μ listed a w hrd;have hsw := hrd.swap;rw [List.length_cons, List.length_cons, show L.length + 1 + 1 + n = (L.length + 1 + n) + 1 by omega];refine ⟨fun e => absurd e (hrd.progress hE ⟨i, .inl (by simp)⟩), fun q hj => ?_⟩;rcases hrd.open_of_ready hj with hjL | ⟨u, hu, rfl⟩
   ·rcases List.mem_cons.1 hjL with rfl | hjL
    ·clear hsw;have er := hrd.er ho hj (fun u' hu' o' t h1 h2 h3 => hl.out u' (hsub u' hu') o' t h1 h2 h3);have hsub' : ∀ u ∈ und, u ∈ p := fun u hu => (hpp u (hsub u hu)).resolve_right fun hin => hrd.pre ho hj _ hin (.inr ⟨u, hu, rfl⟩);unfold wpOpIn;rw [ho];simp only;obtain ⟨e, he, hc⟩ := Z4m hk er;have er' : ER F μ { s.only (o.looksAt ops) with env := e } a := ⟨fun t d ht => er.env t d (he t d ht), er.nt, er.dfs⟩;rcases hc with ⟨hwt, hkk⟩ | ⟨hwt, hkk⟩
     ·rw [if_pos hwt];refine ⟨fun _ _ => trivial, hkk.out F μ a w hrd.hr er' _ _ (fun F' μ' H' w' ds dv d v q1 qd q2 q3 => ?_) (fun F' μ' H' w' d v q1 q2 q3 => ?_)⟩
      ·have hrd' := hrd.eff rfl hd (o := o) (ds := ds) q1 qd q2 (fun u hu => hpin d H' ds q3 u (hsub' u hu) (hrd.ok u hu));have := ih d H' ds q3 und hsub' F' μ' _ _ w' hrd';rw [hn, List.length_cons] at this;exact Z3x (fun _ _ _ hq => hq.trans q1.post (q1.keep hrd.len)) _ _ _ _ this
      ·exact ⟨F', μ', { env := [], H := H', nt := s.nt, dfs := s.dfs }, .pan d, q1.post, q1.keep hrd.len, ⟨q1.hr, ⟨(fun t d ht => by cases ht), hrd.nt, q1.adr hrd.hr hrd.dfs⟩, Nat.le_trans hrd.len q1.len⟩, ⟨v, rfl, q2⟩, q3 []⟩
     ·rw [if_neg (by rw [hwt]; simp)];refine ⟨fun _ _ => trivial, ?_⟩;have hrd' := hrd.eff rfl hd (o := o) (d := .tup []) (v := undef) (ds := s.dfs) (Stp.refl hrd.hr) hrd.dfs Z5h (fun u hu => hpin _ _ _ hkk u (hsub' u hu) (hrd.ok u hu));have := ih _ _ _ hkk und hsub' F μ _ _ w hrd';rw [hn, List.length_cons] at this;exact this
    ·rcases List.mem_cons.1 hjL with rfl | hjL
     ·have er := hsw.er ho2 hj (fun u' hu' o' t h1 h2 h3 => hl2.out u' (hsub u' hu') o' t h1 h2 h3);have hsub' : ∀ u ∈ und, u ∈ p2 := fun u hu => (hpp2 u (hsub u hu)).resolve_right fun hin => hsw.pre ho2 hj _ hin (.inr ⟨u, hu, rfl⟩);unfold wpOpIn;rw [ho2];simp only;obtain ⟨e, he, hc⟩ := Z4m hk2 er;have er' : ER F μ { s.only (o2.looksAt ops) with env := e } a := ⟨fun t d ht => er.env t d (he t d ht), er.nt, er.dfs⟩;rcases hc with ⟨hwt, hkk⟩ | ⟨hwt, hkk⟩
      ·rw [if_pos hwt];refine ⟨fun _ _ => trivial, hkk.out F μ a w hsw.hr er' _ _ (fun F' μ' H' w' ds dv d v q1 qd q2 q3 => ?_) (fun F' μ' H' w' d v q1 q2 q3 => ?_)⟩
       ·have hrd' := hsw.eff rfl hd2 (o := o2) (ds := ds) q1 qd q2 (fun u hu => hpin2 d H' ds q3 u (hsub' u hu) (hsw.ok u hu));have := ih2 d H' ds q3 und hsub' F' μ' _ _ w' hrd';rw [hn, List.length_cons] at this;exact Z3x (fun _ _ _ hq => hq.trans q1.post (q1.keep hsw.len)) _ _ _ _ this
       ·exact ⟨F', μ', { env := [], H := H', nt := s.nt, dfs := s.dfs }, .pan d, q1.post, q1.keep hsw.len, ⟨q1.hr, ⟨(fun t d ht => by cases ht), hsw.nt, q1.adr hsw.hr hsw.dfs⟩, Nat.le_trans hsw.len q1.len⟩, ⟨v, rfl, q2⟩, q3 []⟩
      ·rw [if_neg (by rw [hwt]; simp)];refine ⟨fun _ _ => trivial, ?_⟩;have hrd' := hsw.eff rfl hd2 (o := o2) (d := .tup []) (v := undef) (ds := s.dfs) (Stp.refl hsw.hr) hsw.dfs Z5h (fun u hu => hpin2 _ _ _ hkk u (hsub' u hu) (hsw.ok u hu));have := ih2 _ _ _ hkk und hsub' F μ _ _ w hrd';rw [hn, List.length_cons] at this;exact this
     ·obtain ⟨-, o', ho', -⟩ := mem_ready.1 hj;obtain ⟨e, he1, he2⟩ := hr q hjL o' ho';exact (hrd.pre ho' hj e he1 (.inl (by rcases he2 with rfl | rfl | he2 <;> simp [*]))).elim
   ·have hnd := hrd.nd;rw [List.nodup_append] at hnd;have hlen := Z6k hnd.2.1 (List.mem_map.2 ⟨u, hu, rfl⟩);have := Zfg (Q := Q) (r := r) hT hrd hu hj (fun F μ listed a w h => ihn (Z3p und u.1).length (by omega) (Z3p und u.1) rfl (fun x hx => hsub x (Z1x.1 hx).1) F μ listed a w h);rw [List.length_cons, List.length_cons, show L.length + 1 + 1 + (Z3p und u.1).length = L.length + 1 + n by omega] at this;exact this
end
end Go.Abs

namespace Go.Abs
open Go
def allB (p : Nat -> Bool) : List Nat -> Bool
 | [] => true
 | i :: r => (match p i with | true => allB p r | false => false)
theorem Z70 {p : Nat -> Bool} : ∀ {l : List Nat}, allB p l = true ↔ ∀ i ∈ l, p i = true
 | [] => by simp [allB]
 | i :: r => by
  simp only [allB]
  split
  ·rename_i h; rw [Z70 (l := r)]; simp [h]
  ·rename_i h; simp [h]
def Zh0 (n : Nat) (L : List Nat) : Bool := Nat.beq L.length n && (allB (fun i => Nat.blt i n) L && (allB (fun i => Z7a L i) (List.range n) && nodupB L))
 where nodupB : List Nat -> Bool
 | [] => true
 | i :: r => (match Z7a r i with | true => false | false => nodupB r)
theorem Zfh : ∀ {l : List Nat}, Zh0.nodupB l = true -> l.Nodup
 | [], _ => List.nodup_nil
 | i :: r, h => by
  simp only [Zh0.nodupB] at h
  split at h
  ·cases h
  ·rename_i hm
   refine List.nodup_cons.2 ⟨fun hi => ?_, Zfh h⟩;rw [(Z3w r i).2 hi] at hm; cases hm
def Zim (ops : Array Oper) : Bool := allB (fun i => match ops[i]? with | some o => allB (fun e => Nat.blt e i) (ons o) | none => true) (List.range ops.size)
section
variable {P : Program} {T : TT} {r : Option Nat} {m : Nat} {ops : Array Oper} {Q : AX -> St -> Prop} {s : St} {L : List Nat} {A : Ar}
theorem Zin (h : Zim ops = true) : ∀ (i : Nat) (o : Oper), ops[i]? = some o -> ∀ e ∈ ons o, e < i := fun i o ho e he => by
 have h1 := Z70.1 h i (List.mem_range.2 (Array.getElem?_eq_some_iff.1 ho).1);rw [ho] at h1;exact Nat.le_of_ble_eq_true (Z70.1 h1 e he)
theorem Zk9 (hT : TOK P T) {id : Nat} (hE : Zim ops = true) (hL : Zh0 ops.size L = true) (hD : DrawA P T r m ops Q L [] s) : WpA P r m (.region id ops true) Q s := by
 refine ⟨fun F μ a w h1 => ?_⟩;simp only [Zh0, Bool.and_eq_true] at hL;obtain ⟨l1, l2, l4, l3⟩ := hL;have l1 := Nat.eq_of_beq_eq_true l1;have l3 := Zfh l3;have hmem : ∀ i, i ∈ L ↔ i < ops.size := fun i => by
  constructor
  ·intro hi; exact Nat.le_of_ble_eq_true (Z70.1 l2 i hi)
  ·intro hi; exact (Z3w L i).1 (Z70.1 l4 i (List.mem_range.2 hi))
 refine wpIn_region_any hT.mixed ?_
 let w1 : World := { w with drawn := w.drawn + 1 }
 have hrd : RD T m ops F μ s L [] (Array.replicate ops.size false) a w1 := by
  refine ⟨h1.hr.congr rfl, fun t d ht _ => h1.er.env t d ht, h1.er.nt, h1.er.dfs, h1.len, by simp, fun i => ?_, by simpa using l3, fun u hu => by simp at hu, fun u hu => by simp at hu, fun u hu => by simp at hu, fun u hu => by simp at hu, fun u hu => by simp at hu⟩;rw [hmem i, Array.getElem?_replicate];simp
 have := Zk8 hT (Zin hE) hD [] (fun u hu => by simp at hu) F μ _ a w1 hrd;rw [List.length_nil, Nat.add_zero, l1] at this;exact Z3x (fun _ _ _ hq => hq.trans (Post.congr (w2 := w1) (Post.refl F μ s.H w) rfl rfl rfl rfl) (.refl _ _ _)) _ _ _ _ this
theorem Z3l : ∀ {e : List (Nat × D)} {t : Nat} {d : D}, Z1c e t = some d -> Z6j e t d = e
 | [], t, d, h => by cases h
 | (t0, d0) :: r, t, d, h => by
  simp only [Z1c] at h;simp only [Z6j]
  split
  ·rename_i hb
   obtain rfl := Nat.eq_of_beq_eq_true hb;rw [if_pos rfl] at h; cases h; rfl
  ·rename_i hb
   rw [if_neg (fun e => by subst e; rw [Nat.beq_refl] at hb; cases hb)] at h;rw [Z3l h]
theorem Z3q {o : Oper} {Kt Kf : St -> Prop} (h : Zh ops s o Kt Kf) : (Kt s /\ ∀ K1 K2 : St -> Prop, K1 s -> Zh ops s o K1 K2) ∨ (Kf s /\ ∀ K1 K2 : St -> Prop, K2 s -> Zh ops s o K1 K2) := by
 unfold Zh at h
 split at h
 ·rename_i hg; exact .inl ⟨h, fun K1 K2 hk => by unfold Zh; rw [hg]; exact hk⟩
 ·rename_i j want hg
  split at h
  ·rename_i ho; exact .inr ⟨h, fun K1 K2 hk => by unfold Zh; rw [hg]; simp only [ho]; exact hk⟩
  ·rename_i oj ho
   split at h
   ·rename_i hd; exact .inr ⟨h, fun K1 K2 hk => by unfold Zh; rw [hg]; simp only [ho, hd]; exact hk⟩
   ·rename_i t hd
    split at h
    ·rename_i b hb
     cases want <;> cases b <;> simp only [Z3l hb] at h
     ·exact .inl ⟨h, fun K1 K2 hk => by unfold Zh; rw [hg]; simp only [ho, hd, hb, Z3l hb]; exact hk⟩
     ·exact .inr ⟨h, fun K1 K2 hk => by unfold Zh; rw [hg]; simp only [ho, hd, hb, Z3l hb]; exact hk⟩
     ·exact .inr ⟨h, fun K1 K2 hk => by unfold Zh; rw [hg]; simp only [ho, hd, hb, Z3l hb]; exact hk⟩
     ·exact .inl ⟨h, fun K1 K2 hk => by unfold Zh; rw [hg]; simp only [ho, hd, hb, Z3l hb]; exact hk⟩
    ·rename_i hb; exact .inr ⟨h, fun K1 K2 hk => by unfold Zh; rw [hg]; simp only [ho, hd, hb]; exact hk⟩
    ·exact h.elim
theorem Zfi {env : List (Nat × D)} : ∀ {ts : List Nat} {t : Nat}, t ∈ ts -> Z1c (rE env ts) t = Z1c env t
 | [], t, h => by simp at h
 | t0 :: r, t, h => by
  simp only [rE]
  by_cases e : t0 = t
  ·subst e
   split
   ·rename_i d hd; simp only [Z1c, if_true]; exact hd.symm
   ·rename_i hd
    by_cases h2 : t0 ∈ r
    ·exact Zfi h2
    ·rw [hd]
     cases hx : Z1c (rE env r) t0 with
     | none => rfl
     | some x => exact absurd (Zil hx).2 h2
  ·have h2 : t ∈ r := by
    rcases List.mem_cons.1 h with e' | h
    ·exact absurd e'.symm e
    ·exact h
   split
   ·simp only [Z1c, if_neg e]; exact Zfi h2
   ·exact Zfi h2
theorem Z3r {o : Oper} {K1 K2 : St -> Prop} (h : ∀ K1 K2 : St -> Prop, K1 s -> Zh ops s o K1 K2) (hk : K1 (s.only (o.looksAt ops))) : Zh ops (s.only (o.looksAt ops)) o K1 K2 := by
 have h1 := h (fun _ => True) (fun _ => False) trivial;unfold Zh at h1 ⊢
 split at h1
 ·rename_i hg; exact hk
 ·rename_i j want hg
  split at h1
  ·exact h1.elim
  ·rename_i oj ho
   split at h1
   ·exact h1.elim
   ·rename_i t hd
    have ht : t ∈ o.looksAt ops := by
     unfold Oper.looksAt; rw [hg]; simp [ho, hd]
    have hget : Z1c (s.only (o.looksAt ops)).env t = Z1c s.env t := Zfi ht
    split at h1
    ·rename_i b hb
     rw [hb] at hget;rw [hget]
     cases want <;> cases b <;> simp only at h1 ⊢ <;> first | exact h1.elim | (rw [Z3l hget]; exact hk)
    ·exact h1.elim
    ·exact h1.elim
theorem Z4n {o : Oper} {K1 K2 : St -> Prop} (h : ∀ K1 K2 : St -> Prop, K2 s -> Zh ops s o K1 K2) (hk : K2 (s.only (o.looksAt ops))) : Zh ops (s.only (o.looksAt ops)) o K1 K2 := by
 have h1 := h (fun _ => False) (fun _ => True) trivial;unfold Zh at h1 ⊢
 split at h1
 ·exact h1.elim
 ·rename_i j want hg
  split at h1
  ·exact hk
  ·rename_i oj ho
   split at h1
   ·exact hk
   ·rename_i t hd
    have ht : t ∈ o.looksAt ops := by
     unfold Oper.looksAt; rw [hg]; simp [ho, hd]
    have hget : Z1c (s.only (o.looksAt ops)).env t = Z1c s.env t := Zfi ht
    split at h1
    ·rename_i b hb
     rw [hb] at hget;rw [hget]
     cases want <;> cases b <;> simp only at h1 ⊢ <;> first | exact h1.elim | (rw [Z3l hget]; exact hk)
    ·rename_i hb
     rw [hb] at hget;rw [hget]; exact hk
    ·exact h1.elim
end
end Go.Abs
